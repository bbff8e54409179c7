/- HighNoMore: where the program says that one function does not do for another one, and the types do, there are sets of regions, with all that is known, for which none for the one's own lifetimes will do: proved for every input, with no conditions. -/
import Derived.Test.YteofligmdngdgaaNM1
namespace Go.Proofs.Yteofligmdngdgaa
open Go Go.Lf
set_option linter.unusedVariables false
set_option maxRecDepth 100000
def L15 (s0:Int) (s0_1:Sv) (s0_2:Sv) (s0_3:Int) (s0_4:ByteArray) (s0_5:Bool) (s0_6:Int) (s0_7:Sv) (s0_8:Sv) (free1:Int) (vby2:Int) (h:Heap) (R:Value→Heap→Prop):Prop:=
 new 37 #[Value.int .i64 s0,Value.slice s0_1.a s0_1.n s0_1.c,Value.slice s0_2.a s0_2.n s0_2.c,Value.int .i64 s0_3,Value.string s0_4,Value.bool s0_5,Value.int .i64 s0_6,Value.slice s0_7.a s0_7.n s0_7.c,Value.slice s0_8.a s0_8.n s0_8.c] h fun p3 h1=>
 new 37 #[Value.int .i64 0,Value.slice (⟨none,0,0⟩:Sv).a (⟨none,0,0⟩:Sv).n (⟨none,0,0⟩:Sv).c,Value.slice (⟨none,0,0⟩:Sv).a (⟨none,0,0⟩:Sv).n (⟨none,0,0⟩:Sv).c,Value.int .i64 0,Value.string (⟨#[]⟩:ByteArray),Value.bool false,Value.int .i64 0,Value.slice (⟨none,0,0⟩:Sv).a (⟨none,0,0⟩:Sv).n (⟨none,0,0⟩:Sv).c,Value.slice (⟨none,0,0⟩:Sv).a (⟨none,0,0⟩:Sv).n (⟨none,0,0⟩:Sv).c] h1 fun p6 h2=>
 ∃T:Heap→Heap→Prop,Pre T ∧
 hlI .i64 (T h2) p3 fun x12=>
 ∃(y14:Int) (y14_1:ByteArray) (y14_2:Bool) (y14_3:Int) (y14_4:Sv) (y14_5:Sv),hld (T h2) (p3.add 3) (Value.int .i64 y14)∧hld (T h2) ((p3.add 3).add 1) (Value.string y14_1)∧hld (T h2) ((p3.add 3).add 2) (Value.bool y14_2)∧hld (T h2) ((p3.add 3).add 3) (Value.int .i64 y14_3)∧hld (T h2) ((p3.add 3).add 4) (Value.slice y14_4.a y14_4.n y14_4.c)∧hld (T h2) ((p3.add 3).add 5) (Value.slice y14_5.a y14_5.n y14_5.c) ∧
 ∃Fq6:Int→ByteArray→Bool→Int→Sv→Sv→Nat→Nat→Heap→Prop,(∀y17 y17_1 y17_2 y17_3 y17_4 y17_5 lo hi h h',T h h'→Fq6 y17 y17_1 y17_2 y17_3 y17_4 y17_5 lo hi h→Fq6 y17 y17_1 y17_2 y17_3 y17_4 y17_5 lo hi h') ∧
 ∃Fq8:Addr→Nat→Nat→Heap→Prop,(∀p7 lo hi h h',T h h'→Fq8 p7 lo hi h→Fq8 p7 lo hi h') ∧
 (∀(h3:Heap),T h2 h3 →
  cal Try.prog 36 #[Value.agg #[Value.int .i64 y14,Value.string y14_1,Value.bool y14_2,Value.int .i64 y14_3,Value.slice y14_4.a y14_4.n y14_4.c,Value.slice y14_5.a y14_5.n y14_5.c],Value.int .i64 free1,Value.int .i64 vby2] h3 fun u h4=>∃(y17:Int) (y17_1:ByteArray) (y17_2:Bool) (y17_3:Int) (y17_4:Sv) (y17_5:Sv),u=Value.agg #[Value.int .i64 y17,Value.string y17_1,Value.bool y17_2,Value.int .i64 y17_3,Value.slice y17_4.a y17_4.n y17_4.c,Value.slice y17_5.a y17_5.n y17_5.c] ∧
  T h3 h4∧Fq6 y17 y17_1 y17_2 y17_3 y17_4 y17_5 h3.size h4.size h4) ∧
 (∀(h9:Heap),T h2 h9 →
  new 37 #[Value.int .i64 0,Value.slice (⟨none,0,0⟩:Sv).a (⟨none,0,0⟩:Sv).n (⟨none,0,0⟩:Sv).c,Value.slice (⟨none,0,0⟩:Sv).a (⟨none,0,0⟩:Sv).n (⟨none,0,0⟩:Sv).c,Value.int .i64 0,Value.string (⟨#[]⟩:ByteArray),Value.bool false,Value.int .i64 0,Value.slice (⟨none,0,0⟩:Sv).a (⟨none,0,0⟩:Sv).n (⟨none,0,0⟩:Sv).c,Value.slice (⟨none,0,0⟩:Sv).a (⟨none,0,0⟩:Sv).n (⟨none,0,0⟩:Sv).c] h9 fun p7 h10=>
  T h9 h10∧Fq8 p7 h9.size h10.size h10) ∧
 (∀(y17:Int) (y17_1:ByteArray) (y17_2:Bool) (y17_3:Int) (y17_4:Sv) (y17_5:Sv) (lo6 hi6:Nat) (p7:Addr) (lo8 hi8:Nat) (h13:Heap),T h2 h13→Dis h2.size h13.size [(lo6,hi6),(lo8,hi8)]→Fq6 y17 y17_1 y17_2 y17_3 y17_4 y17_5 lo6 hi6 h13→Fq8 p7 lo8 hi8 h13 →
 stoA h13 p7 [Value.int .i64 x12,Value.slice (⟨none,0,0⟩:Sv).a (⟨none,0,0⟩:Sv).n (⟨none,0,0⟩:Sv).c,Value.slice (⟨none,0,0⟩:Sv).a (⟨none,0,0⟩:Sv).n (⟨none,0,0⟩:Sv).c,Value.int .i64 y17,Value.string y17_1,Value.bool y17_2,Value.int .i64 y17_3,Value.slice y17_4.a y17_4.n y17_4.c,Value.slice y17_5.a y17_5.n y17_5.c] fun h14=>
 ∃(I:Int→Heap→Prop) (m:Int→Heap→Nat),I 0 h14∧∀i8 h15,I i8 h15 →
 ldS h15 (p3.add 2) fun x21=>
 ifb (decide (i8<((x21.n:Nat):Int))) (
  ∃Sq:Heap→Prop,Sq h15∧(
   ldS h15 (p3.add 2) fun x29=>
   ixS x29 i8 fun q31=>
   ∃(y32:Int) (y32_1:ByteArray) (y32_2:Bool) (y32_3:Int) (y32_4:Sv) (y32_5:Sv),cl h15 (q31.add ((i8:Int).toNat*6))=some (Value.int .i64 y32)∧cl h15 ((q31.add ((i8:Int).toNat*6)).add 1)=some (Value.string y32_1)∧cl h15 ((q31.add ((i8:Int).toNat*6)).add 2)=some (Value.bool y32_2)∧cl h15 ((q31.add ((i8:Int).toNat*6)).add 3)=some (Value.int .i64 y32_3)∧cl h15 ((q31.add ((i8:Int).toNat*6)).add 4)=some (Value.slice y32_4.a y32_4.n y32_4.c)∧cl h15 ((q31.add ((i8:Int).toNat*6)).add 5)=some (Value.slice y32_5.a y32_5.n y32_5.c) ∧
   hlS Sq (p7.add 2) fun x27=>
   cal Try.prog 36 #[Value.agg #[Value.int .i64 y32,Value.string y32_1,Value.bool y32_2,Value.int .i64 y32_3,Value.slice y32_4.a y32_4.n y32_4.c,Value.slice y32_5.a y32_5.n y32_5.c],Value.int .i64 free1,Value.int .i64 vby2] h15 fun u_2 h16=>∃(y35:Int) (y35_1:ByteArray) (y35_2:Bool) (y35_3:Int) (y35_4:Sv) (y35_5:Sv),u_2=Value.agg #[Value.int .i64 y35,Value.string y35_1,Value.bool y35_2,Value.int .i64 y35_3,Value.slice y35_4.a y35_4.n y35_4.c,Value.slice y35_5.a y35_5.n y35_5.c] ∧
   Sq h16 ∧
   newS 35 #[Value.int .i64 y35,Value.string y35_1,Value.bool y35_2,Value.int .i64 y35_3,Value.slice y35_4.a y35_4.n y35_4.c,Value.slice y35_5.a y35_5.n y35_5.c] 1 h16 fun s36 h17=>
   Sq h17 ∧
   appS 35 (Value.agg #[Value.int .i64 0,Value.string (⟨#[]⟩:ByteArray),Value.bool false,Value.int .i64 0,Value.slice (⟨none,0,0⟩:Sv).a (⟨none,0,0⟩:Sv).n (⟨none,0,0⟩:Sv).c,Value.slice (⟨none,0,0⟩:Sv).a (⟨none,0,0⟩:Sv).n (⟨none,0,0⟩:Sv).c]).cells 6 88 h17 x27 s36 fun s37 h18=>
   sto h18 (p7.add 2) (Value.slice s37.a s37.n s37.c) fun h19=>
   I (IntKind.i64.wrap (i8+1)) h19∧m (IntKind.i64.wrap (i8+1)) h19<m i8 h15)) (
  ∃(I_1:Int→Heap→Prop) (m_1:Int→Heap→Nat),I_1 0 h15∧∀i9 h20,I_1 i9 h20 →
  ldS h20 (p3.add 1) fun x41=>
  ifb (decide (i9<((x41.n:Nat):Int))) (
   ldS h20 (p3.add 1) fun x47=>
   ixS x47 i9 fun q49=>
   ∃(y50:Int) (y50_1:Int),cl h20 (q49.add ((i9:Int).toNat*2))=some (Value.int .i64 y50)∧cl h20 ((q49.add ((i9:Int).toNat*2)).add 1)=some (Value.int .i64 y50_1) ∧
   new 56 #[Value.int .i64 0,Value.int .i64 0] h20 fun p10 h21=>
   stoA h21 p10 [Value.int .i64 y50,Value.int .i64 y50_1] fun h22=>
   ∃J:Heap→Prop,(
    ldI .i64 h22 p10 fun x52=>
    ifb (decide (free1<x52)) (
     ldI .i64 h22 p10 fun x56=>
     sto h22 p10 (Value.int .i64 (IntKind.i64.wrap (x56+vby2))) fun h23=>
     J h23) (
     J h22))∧(∀h24,J h24 →
   ∃J_1:Heap→Prop,(
    ldI .i64 h24 (p10.add 1) fun x61=>
    ifb (decide (free1<x61)) (
     ldI .i64 h24 (p10.add 1) fun x65=>
     sto h24 (p10.add 1) (Value.int .i64 (IntKind.i64.wrap (x65+vby2))) fun h25=>
     J_1 h25) (
     J_1 h24))∧(∀h26,J_1 h26 →
   ldS h26 (p7.add 1) fun x70=>
   ∃(y71:Int) (y71_1:Int),cl h26 p10=some (Value.int .i64 y71)∧cl h26 (p10.add 1)=some (Value.int .i64 y71_1) ∧
   newS 56 #[Value.int .i64 y71,Value.int .i64 y71_1] 1 h26 fun s72 h27=>
   appS 56 (Value.agg #[Value.int .i64 0,Value.int .i64 0]).cells 2 16 h27 x70 s72 fun s73 h28=>
   sto h28 (p7.add 1) (Value.slice s73.a s73.n s73.c) fun h29=>
   I_1 (IntKind.i64.wrap (i9+1)) h29∧m_1 (IntKind.i64.wrap (i9+1)) h29<m_1 i9 h20))) (
   ∃(y75:Int) (y75_1:Sv) (y75_2:Sv) (y75_3:Int) (y75_4:ByteArray) (y75_5:Bool) (y75_6:Int) (y75_7:Sv) (y75_8:Sv),cl h20 p7=some (Value.int .i64 y75)∧cl h20 (p7.add 1)=some (Value.slice y75_1.a y75_1.n y75_1.c)∧cl h20 (p7.add 2)=some (Value.slice y75_2.a y75_2.n y75_2.c)∧cl h20 (p7.add 3)=some (Value.int .i64 y75_3)∧cl h20 (p7.add 4)=some (Value.string y75_4)∧cl h20 (p7.add 5)=some (Value.bool y75_5)∧cl h20 (p7.add 6)=some (Value.int .i64 y75_6)∧cl h20 (p7.add 7)=some (Value.slice y75_7.a y75_7.n y75_7.c)∧cl h20 (p7.add 8)=some (Value.slice y75_8.a y75_8.n y75_8.c) ∧
   stoA h20 p6 [Value.int .i64 y75,Value.slice y75_1.a y75_1.n y75_1.c,Value.slice y75_2.a y75_2.n y75_2.c,Value.int .i64 y75_3,Value.string y75_4,Value.bool y75_5,Value.int .i64 y75_6,Value.slice y75_7.a y75_7.n y75_7.c,Value.slice y75_8.a y75_8.n y75_8.c] fun h30=>
   ∃(y:Int) (y_1:Sv) (y_2:Sv) (y_3:Int) (y_4:ByteArray) (y_5:Bool) (y_6:Int) (y_7:Sv) (y_8:Sv),cl h30 p6=some (Value.int .i64 y)∧cl h30 (p6.add 1)=some (Value.slice y_1.a y_1.n y_1.c)∧cl h30 (p6.add 2)=some (Value.slice y_2.a y_2.n y_2.c)∧cl h30 (p6.add 3)=some (Value.int .i64 y_3)∧cl h30 (p6.add 4)=some (Value.string y_4)∧cl h30 (p6.add 5)=some (Value.bool y_5)∧cl h30 (p6.add 6)=some (Value.int .i64 y_6)∧cl h30 (p6.add 7)=some (Value.slice y_7.a y_7.n y_7.c)∧cl h30 (p6.add 8)=some (Value.slice y_8.a y_8.n y_8.c) ∧
   R (Value.agg #[Value.int .i64 y,Value.slice y_1.a y_1.n y_1.c,Value.slice y_2.a y_2.n y_2.c,Value.int .i64 y_3,Value.string y_4,Value.bool y_5,Value.int .i64 y_6,Value.slice y_7.a y_7.n y_7.c,Value.slice y_8.a y_8.n y_8.c]) h30)))
set_option maxRecDepth 100000 in
theorem F15 {s0 s0_1 s0_2 s0_3 s0_4 s0_5 s0_6 s0_7 s0_8 free1 vby2 h:_} {R:Value→Heap→Prop} (H:L15 s0 s0_1 s0_2 s0_3 s0_4 s0_5 s0_6 s0_7 s0_8 free1 vby2 h R):CallsH Try.prog 15 #[Value.agg #[Value.int .i64 s0,Value.slice s0_1.a s0_1.n s0_1.c,Value.slice s0_2.a s0_2.n s0_2.c,Value.int .i64 s0_3,Value.string s0_4,Value.bool s0_5,Value.int .i64 s0_6,Value.slice s0_7.a s0_7.n s0_7.c,Value.slice s0_8.a s0_8.n s0_8.c],Value.int .i64 free1,Value.int .i64 vby2] h R:=by
 refine CallsH.enter (n:=76) Try.func15 rfl rfl rfl rfl ?_
 intro w0 aa ww S
 unfold L15 at H
 refine W.seq ?_
 refine W.region ?_
 refine ol_box S H rfl rfl rfl trivial ?_
 clear S H;intro p3 aa ww h1 H S
 refine ol_alloc S H ti37 rfl rfl trivial ?_
 clear S H;intro p6 aa ww h2 H S
 refine OL.nil ?_
 refine W.seq ?_
 replace S:=S.sub [(1,Value.int .i64 free1),(2,Value.int .i64 vby2),(3,Value.pointer (some p3)),(6,Value.pointer (some p6))] ⟨rfl,rfl,rfl,rfl,trivial⟩
 refine W.regionD S (by kernel_rfl) ?_
 clear S;intro ww S
 refine AN.zq 0 S rfl (fun _=>Lf.run_fa (S.ev rfl) fa37_0) fun _ S=>?_
 refine AN.zq 2 S rfl (fun _=>Lf.run_fa (S.ev rfl) fa37_3) fun _ S=>?_
 refine AN.zq 4 S rfl (fun _=>Lf.run_move (S.ev rfl)) fun _ S=>?_
 refine AN.zq 5 S rfl (fun _=>Lf.run_move (S.ev rfl)) fun _ S=>?_
 obtain⟨T,hT,H⟩:=H
 obtain⟨x12,c,H⟩:=H
 obtain⟨y14,y14_1,y14_2,y14_3,y14_4,y14_5,c_1,c_2,c_3,c_4,c_5,c_6,H⟩:=H
 obtain⟨Fq6,sq,H⟩:=H
 obtain⟨Fq8,sq_1,H⟩:=H
 obtain⟨Oq,Oq_1,H⟩:=H
 let gq1:GOp:=⟨1,12,false,[1],fun lq=>Value.int .i64 x12,fun _ _ _ _=>True⟩
 let gq3:GOp:=⟨3,14,false,[3],fun lq=>Value.agg #[Value.int .i64 y14,Value.string y14_1,Value.bool y14_2,Value.int .i64 y14_3,Value.slice y14_4.a y14_4.n y14_4.c,Value.slice y14_5.a y14_5.n y14_5.c],fun _ _ _ _=>True⟩
 let gq6:GOp:=⟨6,17,true,[6],fun lq=>Value.agg #[Value.int .i64 (pI (pC 0 (nth lq 0))),Value.string (pT (pC 1 (nth lq 0))),Value.bool (pB (pC 2 (nth lq 0))),Value.int .i64 (pI (pC 3 (nth lq 0))),Value.slice (pS (pC 4 (nth lq 0))).a (pS (pC 4 (nth lq 0))).n (pS (pC 4 (nth lq 0))).c,Value.slice (pS (pC 5 (nth lq 0))).a (pS (pC 5 (nth lq 0))).n (pS (pC 5 (nth lq 0))).c],fun lq lo hi h=>Fq6 (pI (pC 0 (nth lq 0))) (pT (pC 1 (nth lq 0))) (pB (pC 2 (nth lq 0))) (pI (pC 3 (nth lq 0))) (pS (pC 4 (nth lq 0))) (pS (pC 5 (nth lq 0))) lo hi h⟩
 let gq7:GOp:=⟨7,18,false,[7,6],fun lq=>Value.agg #[Value.int .i64 x12,Value.slice (⟨none,0,0⟩:Sv).a (⟨none,0,0⟩:Sv).n (⟨none,0,0⟩:Sv).c,Value.slice (⟨none,0,0⟩:Sv).a (⟨none,0,0⟩:Sv).n (⟨none,0,0⟩:Sv).c,Value.int .i64 (pI (pC 0 (nth lq 1))),Value.string (pT (pC 1 (nth lq 1))),Value.bool (pB (pC 2 (nth lq 1))),Value.int .i64 (pI (pC 3 (nth lq 1))),Value.slice (pS (pC 4 (nth lq 1))).a (pS (pC 4 (nth lq 1))).n (pS (pC 4 (nth lq 1))).c,Value.slice (pS (pC 5 (nth lq 1))).a (pS (pC 5 (nth lq 1))).n (pS (pC 5 (nth lq 1))).c],fun _ _ _ _=>True⟩
 let gq8:GOp:=⟨8,7,true,[8],fun lq=>Value.pointer (some (pA (nth lq 0))),fun lq lo hi h=>Fq8 (pA (nth lq 0)) lo hi h⟩
 replace S:=S.sub [(1,Value.int .i64 free1),(2,Value.int .i64 vby2),(3,Value.pointer (some p3)),(6,Value.pointer (some p6)),(11,Value.pointer (some p3)),(13,Value.pointer (some (p3.add 3))),(15,Value.int .i64 free1),(16,Value.int .i64 vby2)] ⟨rfl,rfl,rfl,rfl,rfl,rfl,rfl,rfl,trivial⟩
 refine AN.group (fuel:=1) T hT [(gq1,[]),(gq3,[]),(gq6,[gq3]),(gq7,[gq1,gq6]),(gq8,[])] [(1,12,[1],[]),(3,14,[3],[]),(6,17,[6],[3]),(7,18,[7,6],[1,6]),(8,7,[8],[])] [1,2,3,6,11,13,15,16] S rfl rfl (by kernel_rfl) (by simp) ⟨?_,?_,?_,?_,?_,trivial⟩ ?_
 ·
  refine⟨_,rfl,rfl,fun _ _ _ _ _ _ _=>trivial,?_⟩
  intro Xg Bg aa ww h31 Ef S hTg hok
  replace S:St 76 ((1,Value.int .i64 free1) :: (2,Value.int .i64 vby2) :: (3,Value.pointer (some p3)) :: (6,Value.pointer (some p6)) :: (11,Value.pointer (some p3)) :: (13,Value.pointer (some (p3.add 3))) :: (15,Value.int .i64 free1) :: (16,Value.int .i64 vby2) :: Ef) h31 w0 aa ww:=S
  refine OL.zq S (Lf.run_ld (S.ev rfl) fl3 (S.cl (c _ hTg))) fun _ S=>?_
  refine OL.nil ?_
  exact⟨undef,_,S,hT.refl _,trivial⟩
 ·
  refine⟨_,rfl,rfl,fun _ _ _ _ _ _ _=>trivial,?_⟩
  intro Xg Bg aa ww h32 Ef S hTg hok
  replace S:St 76 ((1,Value.int .i64 free1) :: (2,Value.int .i64 vby2) :: (3,Value.pointer (some p3)) :: (6,Value.pointer (some p6)) :: (11,Value.pointer (some p3)) :: (13,Value.pointer (some (p3.add 3))) :: (15,Value.int .i64 free1) :: (16,Value.int .i64 vby2) :: Ef) h32 w0 aa ww:=S
  refine OL.zq S (Lf.run_ldA (cs:=[Value.int .i64 y14,Value.string y14_1,Value.bool y14_2,Value.int .i64 y14_3,Value.slice y14_4.a y14_4.n y14_4.c,Value.slice y14_5.a y14_5.n y14_5.c]) (S.ev rfl) ag35 ti35 (by rw[S.heap];exact RowL.toRow ⟨c_1 _ hTg,c_2 _ hTg,c_3 _ hTg,c_4 _ hTg,c_5 _ hTg,c_6 _ hTg,trivial⟩)) fun _ S=>?_
  refine OL.nil ?_
  exact⟨undef,_,S,hT.refl _,trivial⟩
 ·
  refine⟨_,rfl,rfl,fun _ _ _ _ _ ht hf=>sq _ _ _ _ _ _ _ _ _ _ ht hf,?_⟩
  intro Xg Bg aa ww h5 Ef S hTg hok
  obtain⟨kq3,-⟩:=hok
  replace S:St 76 ((14,Value.agg #[Value.int .i64 y14,Value.string y14_1,Value.bool y14_2,Value.int .i64 y14_3,Value.slice y14_4.a y14_4.n y14_4.c,Value.slice y14_5.a y14_5.n y14_5.c]) :: (1,Value.int .i64 free1) :: (2,Value.int .i64 vby2) :: (3,Value.pointer (some p3)) :: (6,Value.pointer (some p6)) :: (11,Value.pointer (some p3)) :: (13,Value.pointer (some (p3.add 3))) :: (15,Value.int .i64 free1) :: (16,Value.int .i64 vby2) :: Ef) h5 w0 aa ww:=S
  have H:=Oq h5 hTg
  refine ol_cal S H isfn36 rfl rfl trivial ?_
  clear S H;intro u_1 aa ww h6 H S
  obtain⟨y17_6,y17_7,y17_8,y17_9,y17_10,y17_11,rfl,H⟩:=H
  refine OL.nil ?_
  exact⟨Value.agg #[Value.int .i64 y17_6,Value.string y17_7,Value.bool y17_8,Value.int .i64 y17_9,Value.slice y17_10.a y17_10.n y17_10.c,Value.slice y17_11.a y17_11.n y17_11.c],_,S,H.1,H.2⟩
 ·
  refine⟨_,rfl,rfl,fun _ _ _ _ _ _ _=>trivial,?_⟩
  intro Xg Bg aa ww h8 Ef S hTg hok
  obtain⟨kq1,kq6,-⟩:=hok
  replace S:St 76 ((12,Value.int .i64 x12) :: (17,Value.agg #[Value.int .i64 (pI (pC 0 (Xg 6))),Value.string (pT (pC 1 (Xg 6))),Value.bool (pB (pC 2 (Xg 6))),Value.int .i64 (pI (pC 3 (Xg 6))),Value.slice (pS (pC 4 (Xg 6))).a (pS (pC 4 (Xg 6))).n (pS (pC 4 (Xg 6))).c,Value.slice (pS (pC 5 (Xg 6))).a (pS (pC 5 (Xg 6))).n (pS (pC 5 (Xg 6))).c]) :: (1,Value.int .i64 free1) :: (2,Value.int .i64 vby2) :: (3,Value.pointer (some p3)) :: (6,Value.pointer (some p6)) :: (11,Value.pointer (some p3)) :: (13,Value.pointer (some (p3.add 3))) :: (15,Value.int .i64 free1) :: (16,Value.int .i64 vby2) :: Ef) h8 w0 aa ww:=S
  refine OL.zq S (Lf.run_build (cs:=#[Value.int .i64 x12,Value.slice (⟨none,0,0⟩:Sv).a (⟨none,0,0⟩:Sv).n (⟨none,0,0⟩:Sv).c,Value.slice (⟨none,0,0⟩:Sv).a (⟨none,0,0⟩:Sv).n (⟨none,0,0⟩:Sv).c,Value.int .i64 (pI (pC 0 (Xg 6))),Value.string (pT (pC 1 (Xg 6))),Value.bool (pB (pC 2 (Xg 6))),Value.int .i64 (pI (pC 3 (Xg 6))),Value.slice (pS (pC 4 (Xg 6))).a (pS (pC 4 (Xg 6))).n (pS (pC 4 (Xg 6))).c,Value.slice (pS (pC 5 (Xg 6))).a (pS (pC 5 (Xg 6))).n (pS (pC 5 (Xg 6))).c]) pl37 ti37 (parts_map S rfl) (by kernel_rfl)) fun _ S=>?_
  refine OL.nil ?_
  exact⟨undef,_,S,hT.refl _,trivial⟩
 ·
  refine⟨_,rfl,rfl,fun _ _ _ _ _ ht hf=>sq_1 _ _ _ _ _ ht hf,?_⟩
  intro Xg Bg aa ww h11 Ef S hTg hok
  replace S:St 76 ((1,Value.int .i64 free1) :: (2,Value.int .i64 vby2) :: (3,Value.pointer (some p3)) :: (6,Value.pointer (some p6)) :: (11,Value.pointer (some p3)) :: (13,Value.pointer (some (p3.add 3))) :: (15,Value.int .i64 free1) :: (16,Value.int .i64 vby2) :: Ef) h11 w0 aa ww:=S
  have H:=Oq_1 h11 hTg
  refine ol_alloc S H ti37 rfl rfl trivial ?_
  clear S H;intro p7_1 aa ww h12 H S
  refine OL.nil ?_
  exact⟨Value.pointer (some p7_1),_,S,H.1,H.2⟩
 clear S
 intro Xg Bg aa ww h13 S hTg hok hdis
 obtain⟨kq1,kq3,kq6,kq7,kq8,-⟩:=hok
 replace H:=H (pI (pC 0 (Xg 6))) (pT (pC 1 (Xg 6))) (pB (pC 2 (Xg 6))) (pI (pC 3 (Xg 6))) (pS (pC 4 (Xg 6))) (pS (pC 5 (Xg 6))) (Bg 6).1 (Bg 6).2 (pA (Xg 8)) (Bg 8).1 (Bg 8).2 h13 hTg hdis kq6 kq8
 replace S:=S.sub [(1,Value.int .i64 free1),(2,Value.int .i64 vby2),(3,Value.pointer (some p3)),(6,Value.pointer (some p6)),(7,Value.pointer (some (pA (Xg 8)))),(11,Value.pointer (some p3)),(12,Value.int .i64 x12),(13,Value.pointer (some (p3.add 3))),(14,Value.agg #[Value.int .i64 y14,Value.string y14_1,Value.bool y14_2,Value.int .i64 y14_3,Value.slice y14_4.a y14_4.n y14_4.c,Value.slice y14_5.a y14_5.n y14_5.c]),(15,Value.int .i64 free1),(16,Value.int .i64 vby2),(17,Value.agg #[Value.int .i64 (pI (pC 0 (Xg 6))),Value.string (pT (pC 1 (Xg 6))),Value.bool (pB (pC 2 (Xg 6))),Value.int .i64 (pI (pC 3 (Xg 6))),Value.slice (pS (pC 4 (Xg 6))).a (pS (pC 4 (Xg 6))).n (pS (pC 4 (Xg 6))).c,Value.slice (pS (pC 5 (Xg 6))).a (pS (pC 5 (Xg 6))).n (pS (pC 5 (Xg 6))).c]),(18,Value.agg #[Value.int .i64 x12,Value.slice (⟨none,0,0⟩:Sv).a (⟨none,0,0⟩:Sv).n (⟨none,0,0⟩:Sv).c,Value.slice (⟨none,0,0⟩:Sv).a (⟨none,0,0⟩:Sv).n (⟨none,0,0⟩:Sv).c,Value.int .i64 (pI (pC 0 (Xg 6))),Value.string (pT (pC 1 (Xg 6))),Value.bool (pB (pC 2 (Xg 6))),Value.int .i64 (pI (pC 3 (Xg 6))),Value.slice (pS (pC 4 (Xg 6))).a (pS (pC 4 (Xg 6))).n (pS (pC 4 (Xg 6))).c,Value.slice (pS (pC 5 (Xg 6))).a (pS (pC 5 (Xg 6))).n (pS (pC 5 (Xg 6))).c])] ⟨rfl,rfl,rfl,rfl,rfl,rfl,rfl,rfl,rfl,rfl,rfl,rfl,rfl,trivial⟩
 generalize (pI (pC 0 (Xg 6)))=y17 at H S
 generalize (pT (pC 1 (Xg 6)))=y17_1 at H S
 generalize (pB (pC 2 (Xg 6)))=y17_2 at H S
 generalize (pI (pC 3 (Xg 6)))=y17_3 at H S
 generalize (pS (pC 4 (Xg 6)))=y17_4 at H S
 generalize (pS (pC 5 (Xg 6)))=y17_5 at H S
 generalize (pA (Xg 8))=p7 at H S
 generalize Bg 6=bq6 at H
 generalize Bg 8=bq8 at H
 clear hTg hdis kq8 kq7 kq6 kq3 kq1 gq8 gq7 gq6 gq3 gq1 Oq Oq_1 sq sq_1
 refine AN.eff 9 rfl (by kernel_rfl) ?_
 refine ol_stoA S H rfl rfl ti37 trivial ?_
 clear S H;intro aa ww h14 H S
 refine OL.nil ?_
 refine AN.done (by kernel_rfl) ?_
 refine W.seq ?_
 refine W.seq ?_
 refine W.region ?_
 refine OL.za S fun _ S=>?_
 refine OL.nil ?_
 refine W.block ?_
 obtain⟨I,m,H,HB_1⟩:=H
 refine W.loopS (σ:=Int×Heap) (fun s aa ww=>St 76 [(1,Value.int .i64 free1),(2,Value.int .i64 vby2),(3,Value.pointer (some p3)),(6,Value.pointer (some p6)),(7,Value.pointer (some p7)),(8,Value.int .i64 s.1)] s.2 w0 aa ww∧I s.1 s.2) (fun s=>m s.1 s.2) (0,h14) ⟨S.sub _ ⟨rfl,rfl,rfl,rfl,rfl,rfl,trivial⟩,H⟩ ?_
 clear H S
 rintro ⟨i8,h15⟩ aa ww ⟨S,HI⟩
 replace S:St 76 [(1,Value.int .i64 free1),(2,Value.int .i64 vby2),(3,Value.pointer (some p3)),(6,Value.pointer (some p6)),(7,Value.pointer (some p7)),(8,Value.int .i64 i8)] h15 w0 aa ww:=S
 have H:=HB_1 i8 h15 HI
 clear HI
 refine W.seq ?_
 refine W.seq ?_
 refine W.region ?_
 refine OL.zm S fun _ S=>?_
 refine OL.zf S fa37_2 fun _ S=>?_
 obtain⟨x21,c_7,H⟩:=H
 refine OL.zl S fl24 c_7 fun _ S=>?_
 refine OL.zq S (Lf.run_lens (S.ev rfl) rfl Try.underlying24) fun _ S=>?_
 refine OL.zq S (Lf.run_lss (S.ev rfl) (S.ev rfl)) fun _ S=>?_
 refine OL.nil ?_
 refine W.cond S (b:=(decide (i8<((x21.n:Nat):Int)))) rfl (fun hb=>?_) (fun hb=>?_)
 ·
  replace H:=H.1 hb
  refine W.skip ?_
  refine W.seq ?_
  refine W.block ?_
  replace S:=S.sub [(1,Value.int .i64 free1),(2,Value.int .i64 vby2),(3,Value.pointer (some p3)),(6,Value.pointer (some p6)),(7,Value.pointer (some p7)),(8,Value.int .i64 i8)] ⟨rfl,rfl,rfl,rfl,rfl,rfl,trivial⟩
  obtain⟨Sq,HS,H⟩:=H
  refine W.regionN [1] [9,10,11,13] Sq S (by kernel_rfl) ?_
  clear S;intro ww S
  refine BN.pure 0 S (fun _=>HS) rfl (by kernel_rfl) (by kernel_rfl) (fun _=>Lf.run_fa (S.ev rfl) fa37_2) rfl rfl trivial fun _ S=>?_
  refine BN.pure 2 S (fun _=>HS) rfl (by kernel_rfl) (by kernel_rfl) (fun _=>Lf.run_fa (S.ev rfl) fa37_2) rfl rfl trivial fun _ S=>?_
  obtain⟨x29,c_8,H⟩:=H
  refine BN.load 3 S (fun _=>HS) rfl (by kernel_rfl) (by kernel_rfl) (fun _ hx=>Lf.run_ld (S.ev rfl) fl24 (hx.cell _ _ (S.cl c_8))) rfl rfl trivial fun _ S=>?_
  refine BN.pure 4 S (fun _=>HS) rfl (by kernel_rfl) (by kernel_rfl) (fun _=>Lf.run_move (S.ev rfl)) rfl rfl trivial fun _ S=>?_
  obtain⟨q31,e,e_1,e_2,H⟩:=H
  refine BN.pure 5 S (fun _=>HS) rfl (by kernel_rfl) (by kernel_rfl) (fun _=>Lf.run_ixs (S.ev rfl) (S.ev rfl) Try.underlying24 ti35 e e_1 e_2) rfl rfl trivial fun _ S=>?_
  obtain⟨y32,y32_1,y32_2,y32_3,y32_4,y32_5,c_11,c_12,c_13,c_14,c_15,c_16,H⟩:=H
  refine BN.load 6 S (fun _=>HS) rfl (by kernel_rfl) (by kernel_rfl) (fun _ hx=>Lf.run_ldA (cs:=[Value.int .i64 y32,Value.string y32_1,Value.bool y32_2,Value.int .i64 y32_3,Value.slice y32_4.a y32_4.n y32_4.c,Value.slice y32_5.a y32_5.n y32_5.c]) (S.ev rfl) ag35 ti35 (hx.row (S.row ⟨c_11,c_12,c_13,c_14,c_15,c_16,trivial⟩))) rfl rfl trivial fun _ S=>?_
  refine BN.pure 7 S (fun _=>HS) rfl (by kernel_rfl) (by kernel_rfl) (fun _=>Lf.run_move (S.ev rfl)) rfl rfl trivial fun _ S=>?_
  refine BN.pure 8 S (fun _=>HS) rfl (by kernel_rfl) (by kernel_rfl) (fun _=>Lf.run_move (S.ev rfl)) rfl rfl trivial fun _ S=>?_
  obtain⟨x27,c_10,H⟩:=H
  refine BN.held 1 S HS rfl (by kernel_rfl) (fun _ hq=>Lf.run_ld (S.ev rfl) fl24 (c_10 _ hq)) rfl rfl trivial fun _ S=>?_
  refine BN.eff 9 rfl (by kernel_rfl) ?_
  refine ol_cal S H isfn36 rfl rfl trivial ?_
  clear S H;intro u_2 aa ww h16 H S
  obtain⟨y35,y35_1,y35_2,y35_3,y35_4,y35_5,rfl,H⟩:=H
  refine OL.nil ?_
  clear HS;obtain⟨HS,H⟩:=H
  refine⟨fun _=>by rw[S.heap];exact HS,?_⟩
  refine BN.eff 10 rfl (by kernel_rfl) ?_
  refine ol_newS S H Try.underlying24 ti35 (by decide) (parts_map S rfl) (by kernel_rfl) (by decide) rfl trivial ?_
  clear S H;intro s36 aa ww h17 H S
  refine OL.nil ?_
  clear HS;obtain⟨HS,H⟩:=H
  refine⟨fun _=>by rw[S.heap];exact HS,?_⟩
  refine BN.eff 11 rfl (by kernel_rfl) ?_
  refine ol_appS S H Try.underlying24 ti35 rfl rfl rfl trivial ?_
  clear S H;intro s37 aa ww h18 H S
  refine OL.nil ?_
  refine⟨noNeed (by kernel_rfl),?_⟩
  refine BN.pure 12 S (noNeed (by kernel_rfl)) rfl (by kernel_rfl) (by kernel_rfl) (fun _=>Lf.run_fa (S.ev rfl) fa37_2) rfl rfl trivial fun _ S=>?_
  refine BN.eff 13 rfl (by kernel_rfl) ?_
  refine ol_sto S H rfl rfl rfl ti24 trivial ?_
  clear S H;intro aa ww h19 H S
  refine OL.nil ?_
  refine⟨noNeed (by kernel_rfl),?_⟩
  refine BN.done (by kernel_rfl) ?_
  refine W.region ?_
  refine OL.zm S fun _ S=>?_
  refine OL.zq S (Lf.run_add (S.ev rfl) (S.ev rfl)) fun _ S=>?_
  refine OL.za S fun _ S=>?_
  refine OL.nil ?_
  exact⟨((IntKind.i64.wrap (i8+1)),h19),⟨S.sub _ ⟨rfl,rfl,rfl,rfl,rfl,rfl,trivial⟩,H.1⟩,H.2⟩
 ·
  replace H:=H.2 hb
  refine W.exit_ ?_
  refine xhit ?_
  refine W.seq ?_
  refine W.seq ?_
  refine W.region ?_
  refine OL.za S fun _ S=>?_
  refine OL.nil ?_
  refine W.block ?_
  obtain⟨I_1,m_1,H,HB⟩:=H
  refine W.loopS (σ:=Int×Heap) (fun s aa ww=>St 76 [(1,Value.int .i64 free1),(2,Value.int .i64 vby2),(3,Value.pointer (some p3)),(6,Value.pointer (some p6)),(7,Value.pointer (some p7)),(9,Value.int .i64 s.1)] s.2 w0 aa ww∧I_1 s.1 s.2) (fun s=>m_1 s.1 s.2) (0,h15) ⟨S.sub _ ⟨rfl,rfl,rfl,rfl,rfl,rfl,trivial⟩,H⟩ ?_
  clear H S
  rintro ⟨i9,h20⟩ aa ww ⟨S,HI⟩
  replace S:St 76 [(1,Value.int .i64 free1),(2,Value.int .i64 vby2),(3,Value.pointer (some p3)),(6,Value.pointer (some p6)),(7,Value.pointer (some p7)),(9,Value.int .i64 i9)] h20 w0 aa ww:=S
  have H:=HB i9 h20 HI
  clear HI
  refine W.seq ?_
  refine W.seq ?_
  refine W.region ?_
  refine OL.zm S fun _ S=>?_
  refine OL.zf S fa37_1 fun _ S=>?_
  obtain⟨x41,c_17,H⟩:=H
  refine OL.zl S fl22 c_17 fun _ S=>?_
  refine OL.zq S (Lf.run_lens (S.ev rfl) rfl Try.underlying22) fun _ S=>?_
  refine OL.zq S (Lf.run_lss (S.ev rfl) (S.ev rfl)) fun _ S=>?_
  refine OL.nil ?_
  refine W.cond S (b:=(decide (i9<((x41.n:Nat):Int)))) rfl (fun hb_1=>?_) (fun hb_1=>?_)
  ·
   replace H:=H.1 hb_1
   refine W.skip ?_
   refine W.seq ?_
   refine W.block ?_
   refine W.seq ?_
   refine W.region ?_
   refine OL.zf S fa37_1 fun _ S=>?_
   obtain⟨x47,c_18,H⟩:=H
   refine OL.zl S fl22 c_18 fun _ S=>?_
   refine OL.zm S fun _ S=>?_
   obtain⟨q49,e_3,e_4,e_5,H⟩:=H
   refine OL.zq S (Lf.run_ixs (S.ev rfl) (S.ev rfl) Try.underlying22 ti56 e_3 e_4 e_5) fun _ S=>?_
   obtain⟨y50,y50_1,c_28,c_29,H⟩:=H
   refine OL.zq S (Lf.run_ldA (cs:=[Value.int .i64 y50,Value.int .i64 y50_1]) (S.ev rfl) ag56 ti56 (by rw[S.heap];exact RowL.toRow ⟨c_28,c_29,trivial⟩)) fun _ S=>?_
   refine ol_alloc S H ti56 rfl rfl trivial ?_
   clear S H;intro p10 aa ww h21 H S
   refine ol_stoA S H rfl rfl ti56 trivial ?_
   clear S H;intro aa ww h22 H S
   refine OL.nil ?_
   obtain⟨J,H,HK⟩:=H
   refine W.seqJ (fun aa ww=>∃h24,St 76 [(1,Value.int .i64 free1),(2,Value.int .i64 vby2),(3,Value.pointer (some p3)),(6,Value.pointer (some p6)),(7,Value.pointer (some p7)),(9,Value.int .i64 i9),(10,Value.pointer (some p10))] h24 w0 aa ww∧J h24) ?_ ?_
   ·
    clear HK
    refine W.seq ?_
    refine W.region ?_
    refine OL.zq S (Lf.run_ixa (S.ev rfl) (S.ev rfl) Try.underlying56 ti3 (by decide) (by decide)) fun _ S=>?_
    obtain⟨x52,c_20,H⟩:=H
    refine OL.zl S fl3 c_20 fun _ S=>?_
    refine OL.zm S fun _ S=>?_
    refine OL.zq S (Lf.run_gtr (S.ev rfl) (S.ev rfl)) fun _ S=>?_
    refine OL.nil ?_
    refine W.cond S (b:=(decide (free1<x52))) rfl (fun hb_2=>?_) (fun hb_2=>?_)
    ·
     replace H:=H.1 hb_2
     refine W.region ?_
     refine OL.zq S (Lf.run_ixa (S.ev rfl) (S.ev rfl) Try.underlying56 ti3 (by decide) (by decide)) fun _ S=>?_
     obtain⟨x56,c_21,H⟩:=H
     refine OL.zl S fl3 c_21 fun _ S=>?_
     refine OL.zm S fun _ S=>?_
     refine OL.zq S (Lf.run_add (S.ev rfl) (S.ev rfl)) fun _ S=>?_
     refine OL.zq S (Lf.run_ixa (S.ev rfl) (S.ev rfl) Try.underlying56 ti3 (by decide) (by decide)) fun _ S=>?_
     refine ol_sto S H rfl rfl rfl ti3 trivial ?_
     clear S H;intro aa ww h23 H S
     refine OL.nil ?_
     exact⟨h23,S.sub _ ⟨rfl,rfl,rfl,rfl,rfl,rfl,rfl,trivial⟩,H⟩
    ·
     replace H:=H.2 hb_2
     refine W.skip ?_
     exact⟨h22,S.sub _ ⟨rfl,rfl,rfl,rfl,rfl,rfl,rfl,trivial⟩,H⟩
   ·
    clear H S
    rintro aa ww ⟨h24,S,HJ⟩
    have H:=HK _ HJ
    clear HK HJ
    obtain⟨J_1,H,HK_1⟩:=H
    refine W.seqJ (fun aa ww=>∃h26,St 76 [(1,Value.int .i64 free1),(2,Value.int .i64 vby2),(3,Value.pointer (some p3)),(6,Value.pointer (some p6)),(7,Value.pointer (some p7)),(9,Value.int .i64 i9),(10,Value.pointer (some p10))] h26 w0 aa ww∧J_1 h26) ?_ ?_
    ·
     clear HK_1
     refine W.seq ?_
     refine W.region ?_
     refine OL.zq S (Lf.run_ixa (S.ev rfl) (S.ev rfl) Try.underlying56 ti3 (by decide) (by decide)) fun _ S=>?_
     obtain⟨x61,c_22,H⟩:=H
     refine OL.zl S fl3 c_22 fun _ S=>?_
     refine OL.zm S fun _ S=>?_
     refine OL.zq S (Lf.run_gtr (S.ev rfl) (S.ev rfl)) fun _ S=>?_
     refine OL.nil ?_
     refine W.cond S (b:=(decide (free1<x61))) rfl (fun hb_3=>?_) (fun hb_3=>?_)
     ·
      replace H:=H.1 hb_3
      refine W.region ?_
      refine OL.zq S (Lf.run_ixa (S.ev rfl) (S.ev rfl) Try.underlying56 ti3 (by decide) (by decide)) fun _ S=>?_
      obtain⟨x65,c_23,H⟩:=H
      refine OL.zl S fl3 c_23 fun _ S=>?_
      refine OL.zm S fun _ S=>?_
      refine OL.zq S (Lf.run_add (S.ev rfl) (S.ev rfl)) fun _ S=>?_
      refine OL.zq S (Lf.run_ixa (S.ev rfl) (S.ev rfl) Try.underlying56 ti3 (by decide) (by decide)) fun _ S=>?_
      refine ol_sto S H rfl rfl rfl ti3 trivial ?_
      clear S H;intro aa ww h25 H S
      refine OL.nil ?_
      exact⟨h25,S.sub _ ⟨rfl,rfl,rfl,rfl,rfl,rfl,rfl,trivial⟩,H⟩
     ·
      replace H:=H.2 hb_3
      refine W.skip ?_
      exact⟨h24,S.sub _ ⟨rfl,rfl,rfl,rfl,rfl,rfl,rfl,trivial⟩,H⟩
    ·
     clear H S
     rintro aa ww ⟨h26,S,HJ⟩
     have H:=HK_1 _ HJ
     clear HK_1 HJ
     refine W.region ?_
     refine OL.zf S fa37_1 fun _ S=>?_
     obtain⟨x70,c_24,H⟩:=H
     refine OL.zl S fl22 c_24 fun _ S=>?_
     obtain⟨y71,y71_1,c_26,c_27,H⟩:=H
     refine OL.zq S (Lf.run_ldA (cs:=[Value.int .i64 y71,Value.int .i64 y71_1]) (S.ev rfl) ag56 ti56 (by rw[S.heap];exact RowL.toRow ⟨c_26,c_27,trivial⟩)) fun _ S=>?_
     refine ol_newS S H Try.underlying22 ti56 (by decide) (parts_map S rfl) (by kernel_rfl) (by decide) rfl trivial ?_
     clear S H;intro s72 aa ww h27 H S
     refine ol_appS S H Try.underlying22 ti56 rfl rfl rfl trivial ?_
     clear S H;intro s73 aa ww h28 H S
     refine OL.zf S fa37_1 fun _ S=>?_
     refine ol_sto S H rfl rfl rfl ti22 trivial ?_
     clear S H;intro aa ww h29 H S
     refine OL.nil ?_
     refine W.region ?_
     refine OL.zm S fun _ S=>?_
     refine OL.zq S (Lf.run_add (S.ev rfl) (S.ev rfl)) fun _ S=>?_
     refine OL.za S fun _ S=>?_
     refine OL.nil ?_
     exact⟨((IntKind.i64.wrap (i9+1)),h29),⟨S.sub _ ⟨rfl,rfl,rfl,rfl,rfl,rfl,trivial⟩,H.1⟩,H.2⟩
  ·
   replace H:=H.2 hb_1
   refine W.exit_ ?_
   refine xhit ?_
   refine W.seq ?_
   refine W.region ?_
   obtain⟨y75,y75_1,y75_2,y75_3,y75_4,y75_5,y75_6,y75_7,y75_8,c_40,c_41,c_42,c_43,c_44,c_45,c_46,c_47,c_48,H⟩:=H
   refine OL.zq S (Lf.run_ldA (cs:=[Value.int .i64 y75,Value.slice y75_1.a y75_1.n y75_1.c,Value.slice y75_2.a y75_2.n y75_2.c,Value.int .i64 y75_3,Value.string y75_4,Value.bool y75_5,Value.int .i64 y75_6,Value.slice y75_7.a y75_7.n y75_7.c,Value.slice y75_8.a y75_8.n y75_8.c]) (S.ev rfl) ag37 ti37 (by rw[S.heap];exact RowL.toRow ⟨c_40,c_41,c_42,c_43,c_44,c_45,c_46,c_47,c_48,trivial⟩)) fun _ S=>?_
   refine ol_stoA S H rfl rfl ti37 trivial ?_
   clear S H;intro aa ww h30 H S
   refine OL.nil ?_
   refine W.ret ?_
   obtain⟨y,y_1,y_2,y_3,y_4,y_5,y_6,y_7,y_8,c_31,c_32,c_33,c_34,c_35,c_36,c_37,c_38,c_39,H⟩:=H
   exact Ret.gen S rfl (RV.cellA (cs:=[Value.int .i64 y,Value.slice y_1.a y_1.n y_1.c,Value.slice y_2.a y_2.n y_2.c,Value.int .i64 y_3,Value.string y_4,Value.bool y_5,Value.int .i64 y_6,Value.slice y_7.a y_7.n y_7.c,Value.slice y_8.a y_8.n y_8.c]) rfl ag37 ti37 ⟨c_31,c_32,c_33,c_34,c_35,c_36,c_37,c_38,c_39,trivial⟩ RV.nil) rfl H
def L17 (r0:Option Addr) (a1:Int) (h:Heap) (R:Value→Heap→Prop):Prop:=
 ∃(I:Sv→Int→Heap→Prop) (m:Sv→Int→Heap→Nat),I (⟨none,0,0⟩:Sv) 0 h∧∀out5 b6 h1,I out5 b6 h1 →
 nn r0 fun p9=>
 ldI .i64 h1 p9 fun x11=>
 ifb (decide (b6≤x11)) (
  ∃J:Sv→Heap→Prop,(
   cal Try.prog 32 #[Value.pointer r0,Value.int .i64 a1,Value.int .i64 b6] h1 fun u h2=>asB u fun x18=>
   ifb x18 (
    newS 3 #[Value.int .i64 b6] 1 h2 fun s21 h3=>
    appS 3 (Value.int .i64 0).cells 1 8 h3 out5 s21 fun s22 h4=>
    J s22 h4) (
    J out5 h2))∧(∀out5_1 h5,J out5_1 h5 →
  I out5_1 (IntKind.i64.wrap (b6+1)) h5∧m out5_1 (IntKind.i64.wrap (b6+1)) h5<m out5 b6 h1)) (
  R (Value.slice out5.a out5.n out5.c) h1)
set_option maxRecDepth 100000 in
theorem F17 {r0 a1 h:_} {R:Value→Heap→Prop} (H:L17 r0 a1 h R):CallsH Try.prog 17 #[Value.pointer r0,Value.int .i64 a1] h R:=by
 refine CallsH.enter (n:=24) Try.func17 rfl rfl rfl rfl ?_
 intro w0 aa ww S
 unfold L17 at H
 refine W.seq ?_
 refine W.region ?_
 refine OL.za S fun _ S=>?_
 refine OL.nil ?_
 refine W.seq ?_
 refine W.region ?_
 refine OL.za S fun _ S=>?_
 refine OL.nil ?_
 refine W.seq ?_
 refine W.seq ?_
 refine W.region ?_
 refine OL.za S fun _ S=>?_
 refine OL.nil ?_
 refine W.block ?_
 obtain⟨I,m,H,HB⟩:=H
 refine W.loopS (σ:=Sv×Int×Heap) (fun s aa ww=>St 24 [(0,Value.pointer r0),(1,Value.int .i64 a1),(5,Value.slice s.1.a s.1.n s.1.c),(6,Value.int .i64 s.2.1)] s.2.2 w0 aa ww∧I s.1 s.2.1 s.2.2) (fun s=>m s.1 s.2.1 s.2.2) ((⟨none,0,0⟩:Sv),0,h) ⟨S.sub _ ⟨rfl,rfl,rfl,rfl,trivial⟩,H⟩ ?_
 clear H S
 rintro ⟨out5,b6,h1⟩ aa ww ⟨S,HI⟩
 replace S:St 24 [(0,Value.pointer r0),(1,Value.int .i64 a1),(5,Value.slice out5.a out5.n out5.c),(6,Value.int .i64 b6)] h1 w0 aa ww:=S
 have H:=HB out5 b6 h1 HI
 clear HI
 refine W.seq ?_
 refine W.seq ?_
 refine W.region ?_
 refine OL.zm S fun _ S=>?_
 refine OL.zm S fun _ S=>?_
 obtain⟨p9,e,H⟩:=H
 refine OL.zq S (Lf.run_nc' (S.ev rfl) e) fun _ S=>?_
 refine OL.zf S fa54_0 fun _ S=>?_
 obtain⟨x11,c,H⟩:=H
 refine OL.zl S fl3 c fun _ S=>?_
 refine OL.zq S (Lf.run_leq (S.ev rfl) (S.ev rfl)) fun _ S=>?_
 refine OL.nil ?_
 refine W.cond S (b:=(decide (b6≤x11))) rfl (fun hb=>?_) (fun hb=>?_)
 ·
  replace H:=H.1 hb
  refine W.skip ?_
  obtain⟨J,H,HK⟩:=H
  refine W.seqJ (fun aa ww=>∃out5_1 h5,St 24 [(0,Value.pointer r0),(1,Value.int .i64 a1),(5,Value.slice out5_1.a out5_1.n out5_1.c),(6,Value.int .i64 b6)] h5 w0 aa ww∧J out5_1 h5) ?_ ?_
  ·
   clear HK
   refine W.block ?_
   refine W.seq ?_
   refine W.region ?_
   refine OL.zm S fun _ S=>?_
   refine OL.zm S fun _ S=>?_
   refine OL.zm S fun _ S=>?_
   refine ol_cal S H isfn32 rfl rfl trivial ?_
   clear S H;intro u aa ww h2 H S
   obtain⟨x18,rfl,H⟩:=H
   refine OL.nil ?_
   refine W.cond S (b:=x18) rfl (fun hb_1=>?_) (fun hb_1=>?_)
   ·
    replace H:=H.1 hb_1
    refine W.region ?_
    refine OL.zm S fun _ S=>?_
    refine OL.zm S fun _ S=>?_
    refine ol_newS S H Try.underlying25 ti3 (by decide) (parts_map S rfl) (by kernel_rfl) (by decide) rfl trivial ?_
    clear S H;intro s21 aa ww h3 H S
    refine ol_appS S H Try.underlying25 ti3 rfl rfl rfl trivial ?_
    clear S H;intro s22 aa ww h4 H S
    refine OL.za S fun _ S=>?_
    refine OL.nil ?_
    exact⟨s22,h4,S.sub _ ⟨rfl,rfl,rfl,rfl,trivial⟩,H⟩
   ·
    replace H:=H.2 hb_1
    refine W.skip ?_
    exact⟨out5,h2,S.sub _ ⟨rfl,rfl,rfl,rfl,trivial⟩,H⟩
  ·
   clear H S
   rintro aa ww ⟨out5_1,h5,S,HJ⟩
   have H:=HK _ _ HJ
   clear HK HJ
   refine W.region ?_
   refine OL.zm S fun _ S=>?_
   refine OL.zq S (Lf.run_add (S.ev rfl) (S.ev rfl)) fun _ S=>?_
   refine OL.za S fun _ S=>?_
   refine OL.nil ?_
   exact⟨(out5_1,(IntKind.i64.wrap (b6+1)),h5),⟨S.sub _ ⟨rfl,rfl,rfl,rfl,trivial⟩,H.1⟩,H.2⟩
 ·
  replace H:=H.2 hb
  refine W.exit_ ?_
  refine xhit ?_
  refine W.seq ?_
  refine W.region ?_
  refine OL.zm S fun _ S=>?_
  refine OL.za S fun _ S=>?_
  refine OL.nil ?_
  refine W.ret ?_
  exact Ret.one S rfl rfl H
def L18 (x0:Int) (x0_1:ByteArray) (x0_2:Bool) (x0_3:Int) (x0_4:Sv) (x0_5:Sv) (deep1:Int) (h:Heap) (R:Value→Heap→Prop):Prop:=
 new 35 #[Value.int .i64 x0,Value.string x0_1,Value.bool x0_2,Value.int .i64 x0_3,Value.slice x0_4.a x0_4.n x0_4.c,Value.slice x0_5.a x0_5.n x0_5.c] h fun p2 h1=>
 ∃J:Bool→Prop,(orr (deep1 == 0) (fun k=>
  ldS h1 (p2.add 5) fun x10=>
  k (decide (4<((x10.n:Nat):Int)))) J)∧∀x13,J x13 →
 ∃J_1:Bool→Prop,(orr x13 (fun k_1=>
  ldS h1 (p2.add 4) fun x16=>
  k_1 (decide (6<((x16.n:Nat):Int)))) J_1)∧∀x19,J_1 x19 →
 ∃J_2:Bool→Prop,(orr x19 (fun k_2=>
  ldT h1 (p2.add 1) fun x22=>
  k_2 (decide (60<((x22.size:Nat):Int)))) J_2)∧∀x25,J_2 x25 →
 ifb x25 (
  R (Value.bool false) h1) (
  ∃(I:Int→Heap→Prop) (m:Int→Heap→Nat),I 0 h1∧∀i5 h2,I i5 h2 →
  ldS h2 (p2.add 5) fun x28=>
  ifb (decide (i5<((x28.n:Nat):Int))) (
   ldS h2 (p2.add 5) fun x34=>
   ixS x34 i5 fun q36=>
   ∃(y37:Int) (y37_1:ByteArray) (y37_2:Bool) (y37_3:Int) (y37_4:Sv) (y37_5:Sv),cl h2 (q36.add ((i5:Int).toNat*6))=some (Value.int .i64 y37)∧cl h2 ((q36.add ((i5:Int).toNat*6)).add 1)=some (Value.string y37_1)∧cl h2 ((q36.add ((i5:Int).toNat*6)).add 2)=some (Value.bool y37_2)∧cl h2 ((q36.add ((i5:Int).toNat*6)).add 3)=some (Value.int .i64 y37_3)∧cl h2 ((q36.add ((i5:Int).toNat*6)).add 4)=some (Value.slice y37_4.a y37_4.n y37_4.c)∧cl h2 ((q36.add ((i5:Int).toNat*6)).add 5)=some (Value.slice y37_5.a y37_5.n y37_5.c) ∧
   cal Try.prog 18 #[Value.agg #[Value.int .i64 y37,Value.string y37_1,Value.bool y37_2,Value.int .i64 y37_3,Value.slice y37_4.a y37_4.n y37_4.c,Value.slice y37_5.a y37_5.n y37_5.c],Value.int .i64 (IntKind.i64.wrap (deep1 - 1))] h2 fun u h3=>asB u fun x40=>
   ifb (!x40) (
    R (Value.bool false) h3) (
    I (IntKind.i64.wrap (i5+1)) h3∧m (IntKind.i64.wrap (i5+1)) h3<m i5 h2)) (
   R (Value.bool true) h2))
set_option maxRecDepth 100000 in
theorem F18 {x0 x0_1 x0_2 x0_3 x0_4 x0_5 deep1 h:_} {R:Value→Heap→Prop} (H:L18 x0 x0_1 x0_2 x0_3 x0_4 x0_5 deep1 h R):CallsH Try.prog 18 #[Value.agg #[Value.int .i64 x0,Value.string x0_1,Value.bool x0_2,Value.int .i64 x0_3,Value.slice x0_4.a x0_4.n x0_4.c,Value.slice x0_5.a x0_5.n x0_5.c],Value.int .i64 deep1] h R:=by
 refine CallsH.enter (n:=42) Try.func18 rfl rfl rfl rfl ?_
 intro w0 aa ww S
 unfold L18 at H
 refine W.seq ?_
 refine W.region ?_
 refine ol_box S H rfl rfl rfl trivial ?_
 clear S H;intro p2 aa ww h1 H S
 refine OL.za S fun _ S=>?_
 refine OL.nil ?_
 refine W.seq ?_
 refine W.seq ?_
 refine W.region ?_
 refine OL.zm S fun _ S=>?_
 refine OL.zq S (Lf.run_eql (S.ev rfl) (S.ev rfl)) fun _ S=>?_
 refine OL.zm S fun _ S=>?_
 obtain⟨J,H,HK⟩:=H
 refine OL.cutN 5 (fun aa ww=>∃x13,St 42 ((13,Value.bool x13) :: [(1,Value.int .i64 deep1),(2,Value.pointer (some p2)),(6,Value.int .i64 deep1),(7,Value.bool (deep1 == 0)),(8,Value.bool (deep1 == 0))]) h1 w0 aa ww∧J x13) ?_ ?_
 ·
  rcases Bool.eq_false_or_eq_true (deep1 == 0) with hb|hb
  ·
   replace H:=H.1 hb
   refine OL.zn S (GNo.mk rfl rfl hb) fun _ S=>?_
   refine OL.zn S (GNo.mk rfl rfl hb) fun _ S=>?_
   refine OL.zn S (GNo.mk rfl rfl hb) fun _ S=>?_
   refine OL.zn S (GNo.mk rfl rfl hb) fun _ S=>?_
   refine OL.zq S (Lf.run_pickT (S.ev rfl) hb (S.ev rfl)) fun _ S=>?_
   refine OL.nil ?_
   exact⟨_,S.sub _ ⟨rfl,rfl,rfl,rfl,rfl,rfl,trivial⟩,H⟩
  ·
   replace H:=H.2 hb
   refine OL.zf (hg:=GOk.mk rfl rfl hb) S fa35_5 fun _ S=>?_
   obtain⟨x10,c,H⟩:=H
   refine OL.zl (hg:=GOk.mk rfl rfl hb) S fl24 c fun _ S=>?_
   refine OL.zq (hg:=GOk.mk rfl rfl hb) S (Lf.run_lens (S.ev rfl) rfl Try.underlying24) fun _ S=>?_
   refine OL.zq (hg:=GOk.mk rfl rfl hb) S (Lf.run_gtr (S.ev rfl) (S.ev rfl)) fun _ S=>?_
   refine OL.zq S (Lf.run_pickF (S.ev rfl) hb (S.ev rfl)) fun _ S=>?_
   refine OL.nil ?_
   exact⟨_,S.sub _ ⟨rfl,rfl,rfl,rfl,rfl,rfl,trivial⟩,H⟩
 ·
  clear S
  rintro aa ww ⟨x13,S,HJ⟩
  replace H:=HK _ HJ
  clear HK HJ
  refine OL.zm S fun _ S=>?_
  obtain⟨J_1,H,HK_1⟩:=H
  refine OL.cutN 5 (fun aa ww=>∃x19,St 42 ((19,Value.bool x19) :: [(1,Value.int .i64 deep1),(2,Value.pointer (some p2)),(6,Value.int .i64 deep1),(7,Value.bool (deep1 == 0)),(8,Value.bool (deep1 == 0)),(13,Value.bool x13),(14,Value.bool x13)]) h1 w0 aa ww∧J_1 x19) ?_ ?_
  ·
   rcases Bool.eq_false_or_eq_true x13 with hb_1|hb_1
   ·
    replace H:=H.1 hb_1
    refine OL.zn S (GNo.mk rfl rfl hb_1) fun _ S=>?_
    refine OL.zn S (GNo.mk rfl rfl hb_1) fun _ S=>?_
    refine OL.zn S (GNo.mk rfl rfl hb_1) fun _ S=>?_
    refine OL.zn S (GNo.mk rfl rfl hb_1) fun _ S=>?_
    refine OL.zq S (Lf.run_pickT (S.ev rfl) hb_1 (S.ev rfl)) fun _ S=>?_
    refine OL.nil ?_
    exact⟨_,S.sub _ ⟨rfl,rfl,rfl,rfl,rfl,rfl,rfl,rfl,trivial⟩,H⟩
   ·
    replace H:=H.2 hb_1
    refine OL.zf (hg:=GOk.mk rfl rfl hb_1) S fa35_4 fun _ S=>?_
    obtain⟨x16,c_1,H⟩:=H
    refine OL.zl (hg:=GOk.mk rfl rfl hb_1) S fl25 c_1 fun _ S=>?_
    refine OL.zq (hg:=GOk.mk rfl rfl hb_1) S (Lf.run_lens (S.ev rfl) rfl Try.underlying25) fun _ S=>?_
    refine OL.zq (hg:=GOk.mk rfl rfl hb_1) S (Lf.run_gtr (S.ev rfl) (S.ev rfl)) fun _ S=>?_
    refine OL.zq S (Lf.run_pickF (S.ev rfl) hb_1 (S.ev rfl)) fun _ S=>?_
    refine OL.nil ?_
    exact⟨_,S.sub _ ⟨rfl,rfl,rfl,rfl,rfl,rfl,rfl,rfl,trivial⟩,H⟩
  ·
   clear S
   rintro aa ww ⟨x19,S,HJ⟩
   replace H:=HK_1 _ HJ
   clear HK_1 HJ
   refine OL.zm S fun _ S=>?_
   obtain⟨J_2,H,HK_2⟩:=H
   refine OL.cutN 5 (fun aa ww=>∃x25,St 42 ((25,Value.bool x25) :: [(1,Value.int .i64 deep1),(2,Value.pointer (some p2)),(6,Value.int .i64 deep1),(7,Value.bool (deep1 == 0)),(8,Value.bool (deep1 == 0)),(13,Value.bool x13),(14,Value.bool x13),(19,Value.bool x19),(20,Value.bool x19)]) h1 w0 aa ww∧J_2 x25) ?_ ?_
   ·
    rcases Bool.eq_false_or_eq_true x19 with hb_2|hb_2
    ·
     replace H:=H.1 hb_2
     refine OL.zn S (GNo.mk rfl rfl hb_2) fun _ S=>?_
     refine OL.zn S (GNo.mk rfl rfl hb_2) fun _ S=>?_
     refine OL.zn S (GNo.mk rfl rfl hb_2) fun _ S=>?_
     refine OL.zn S (GNo.mk rfl rfl hb_2) fun _ S=>?_
     refine OL.zq S (Lf.run_pickT (S.ev rfl) hb_2 (S.ev rfl)) fun _ S=>?_
     refine OL.nil ?_
     exact⟨_,S.sub _ ⟨rfl,rfl,rfl,rfl,rfl,rfl,rfl,rfl,rfl,rfl,trivial⟩,H⟩
    ·
     replace H:=H.2 hb_2
     refine OL.zf (hg:=GOk.mk rfl rfl hb_2) S fa35_1 fun _ S=>?_
     obtain⟨x22,c_2,H⟩:=H
     refine OL.zl (hg:=GOk.mk rfl rfl hb_2) S fl9 c_2 fun _ S=>?_
     refine OL.zq (hg:=GOk.mk rfl rfl hb_2) S (Lf.run_lent (S.ev rfl) rfl Try.underlying9) fun _ S=>?_
     refine OL.zq (hg:=GOk.mk rfl rfl hb_2) S (Lf.run_gtr (S.ev rfl) (S.ev rfl)) fun _ S=>?_
     refine OL.zq S (Lf.run_pickF (S.ev rfl) hb_2 (S.ev rfl)) fun _ S=>?_
     refine OL.nil ?_
     exact⟨_,S.sub _ ⟨rfl,rfl,rfl,rfl,rfl,rfl,rfl,rfl,rfl,rfl,trivial⟩,H⟩
   ·
    clear S
    rintro aa ww ⟨x25,S,HJ⟩
    replace H:=HK_2 _ HJ
    clear HK_2 HJ
    refine OL.nil ?_
    refine W.cond S (b:=x25) rfl (fun hb_3=>?_) (fun hb_3=>?_)
    ·
     replace H:=H.1 hb_3
     refine W.seq ?_
     refine W.region ?_
     refine OL.za S fun _ S=>?_
     refine OL.nil ?_
     refine W.ret ?_
     exact Ret.one S rfl rfl H
    ·
     replace H:=H.2 hb_3
     refine W.skip ?_
     refine W.seq ?_
     refine W.seq ?_
     refine W.region ?_
     refine OL.za S fun _ S=>?_
     refine OL.nil ?_
     refine W.block ?_
     obtain⟨I,m,H,HB⟩:=H
     refine W.loopS (σ:=Int×Heap) (fun s aa ww=>St 42 [(1,Value.int .i64 deep1),(2,Value.pointer (some p2)),(5,Value.int .i64 s.1)] s.2 w0 aa ww∧I s.1 s.2) (fun s=>m s.1 s.2) (0,h1) ⟨S.sub _ ⟨rfl,rfl,rfl,trivial⟩,H⟩ ?_
     clear H S
     rintro ⟨i5,h2⟩ aa ww ⟨S,HI⟩
     replace S:St 42 [(1,Value.int .i64 deep1),(2,Value.pointer (some p2)),(5,Value.int .i64 i5)] h2 w0 aa ww:=S
     have H:=HB i5 h2 HI
     clear HI
     refine W.seq ?_
     refine W.seq ?_
     refine W.region ?_
     refine OL.zm S fun _ S=>?_
     refine OL.zf S fa35_5 fun _ S=>?_
     obtain⟨x28,c_3,H⟩:=H
     refine OL.zl S fl24 c_3 fun _ S=>?_
     refine OL.zq S (Lf.run_lens (S.ev rfl) rfl Try.underlying24) fun _ S=>?_
     refine OL.zq S (Lf.run_lss (S.ev rfl) (S.ev rfl)) fun _ S=>?_
     refine OL.nil ?_
     refine W.cond S (b:=(decide (i5<((x28.n:Nat):Int)))) rfl (fun hb_4=>?_) (fun hb_4=>?_)
     ·
      replace H:=H.1 hb_4
      refine W.skip ?_
      refine W.seq ?_
      refine W.block ?_
      refine W.seq ?_
      refine W.region ?_
      refine OL.zf S fa35_5 fun _ S=>?_
      obtain⟨x34,c_4,H⟩:=H
      refine OL.zl S fl24 c_4 fun _ S=>?_
      refine OL.zm S fun _ S=>?_
      obtain⟨q36,e,e_1,e_2,H⟩:=H
      refine OL.zq S (Lf.run_ixs (S.ev rfl) (S.ev rfl) Try.underlying24 ti35 e e_1 e_2) fun _ S=>?_
      obtain⟨y37,y37_1,y37_2,y37_3,y37_4,y37_5,c_6,c_7,c_8,c_9,c_10,c_11,H⟩:=H
      refine OL.zq S (Lf.run_ldA (cs:=[Value.int .i64 y37,Value.string y37_1,Value.bool y37_2,Value.int .i64 y37_3,Value.slice y37_4.a y37_4.n y37_4.c,Value.slice y37_5.a y37_5.n y37_5.c]) (S.ev rfl) ag35 ti35 (by rw[S.heap];exact RowL.toRow ⟨c_6,c_7,c_8,c_9,c_10,c_11,trivial⟩)) fun _ S=>?_
      refine OL.zm S fun _ S=>?_
      refine OL.zq S (Lf.run_sub (S.ev rfl) (S.ev rfl)) fun _ S=>?_
      refine ol_cal S H isfn18 rfl rfl trivial ?_
      clear S H;intro u aa ww h3 H S
      obtain⟨x40,rfl,H⟩:=H
      refine OL.zq S (Lf.run_not (S.ev rfl)) fun _ S=>?_
      refine OL.nil ?_
      refine W.cond S (b:=(!x40)) rfl (fun hb_5=>?_) (fun hb_5=>?_)
      ·
       replace H:=H.1 hb_5
       refine W.seq ?_
       refine W.region ?_
       refine OL.za S fun _ S=>?_
       refine OL.nil ?_
       refine W.ret ?_
       exact Ret.one S rfl rfl H
      ·
       replace H:=H.2 hb_5
       refine W.skip ?_
       refine W.region ?_
       refine OL.zm S fun _ S=>?_
       refine OL.zq S (Lf.run_add (S.ev rfl) (S.ev rfl)) fun _ S=>?_
       refine OL.za S fun _ S=>?_
       refine OL.nil ?_
       exact⟨((IntKind.i64.wrap (i5+1)),h3),⟨S.sub _ ⟨rfl,rfl,rfl,trivial⟩,H.1⟩,H.2⟩
     ·
      replace H:=H.2 hb_4
      refine W.exit_ ?_
      refine xhit ?_
      refine W.seq ?_
      refine W.region ?_
      refine OL.za S fun _ S=>?_
      refine OL.nil ?_
      refine W.ret ?_
      exact Ret.one S rfl rfl H
def L19 (l0:Sv) (most1:Int) (h:Heap) (R:Value→Heap→Prop):Prop:=
 ∃(I:Sv→Int→Heap→Prop) (m:Sv→Int→Heap→Nat),I (⟨none,0,0⟩:Sv) 0 h∧∀out5 i6 h1,I out5 i6 h1 →
 ifb (decide (i6<((l0.n:Nat):Int))) (
  ixS l0 i6 fun q16=>
  ldI .i64 h1 (q16.add ((i6:Int).toNat*2)) fun x18=>
  ((IntKind.u64.wrap (IntKind.i64.wrap (most1+1)))≠0) ∧
  ixS l0 i6 fun q27=>
  ldI .i64 h1 ((q27.add ((i6:Int).toNat*2)).add 1) fun x29=>
  ((IntKind.u64.wrap (IntKind.i64.wrap (most1+1)))≠0) ∧
  newS 56 #[Value.int .i64 (IntKind.i64.wrap (((IntKind.u64.wrap x18):Int).tmod (IntKind.u64.wrap (IntKind.i64.wrap (most1+1))))),Value.int .i64 (IntKind.i64.wrap (((IntKind.u64.wrap x29):Int).tmod (IntKind.u64.wrap (IntKind.i64.wrap (most1+1)))))] 1 h1 fun s37 h2=>
  appS 56 (Value.agg #[Value.int .i64 0,Value.int .i64 0]).cells 2 16 h2 out5 s37 fun s38 h3=>
  I s38 (IntKind.i64.wrap (i6+1)) h3∧m s38 (IntKind.i64.wrap (i6+1)) h3<m out5 i6 h1) (
  R (Value.slice out5.a out5.n out5.c) h1)
set_option maxRecDepth 100000 in
theorem F19 {l0 most1 h:_} {R:Value→Heap→Prop} (H:L19 l0 most1 h R):CallsH Try.prog 19 #[Value.slice l0.a l0.n l0.c,Value.int .i64 most1] h R:=by
 refine CallsH.enter (n:=40) Try.func19 rfl rfl rfl rfl ?_
 intro w0 aa ww S
 unfold L19 at H
 refine W.seq ?_
 refine W.region ?_
 refine OL.za S fun _ S=>?_
 refine OL.nil ?_
 refine W.seq ?_
 refine W.region ?_
 refine OL.za S fun _ S=>?_
 refine OL.nil ?_
 refine W.seq ?_
 refine W.seq ?_
 refine W.region ?_
 refine OL.za S fun _ S=>?_
 refine OL.nil ?_
 refine W.block ?_
 obtain⟨I,m,H,HB⟩:=H
 refine W.loopS (σ:=Sv×Int×Heap) (fun s aa ww=>St 40 [(0,Value.slice l0.a l0.n l0.c),(1,Value.int .i64 most1),(5,Value.slice s.1.a s.1.n s.1.c),(6,Value.int .i64 s.2.1)] s.2.2 w0 aa ww∧I s.1 s.2.1 s.2.2) (fun s=>m s.1 s.2.1 s.2.2) ((⟨none,0,0⟩:Sv),0,h) ⟨S.sub _ ⟨rfl,rfl,rfl,rfl,trivial⟩,H⟩ ?_
 clear H S
 rintro ⟨out5,i6,h1⟩ aa ww ⟨S,HI⟩
 replace S:St 40 [(0,Value.slice l0.a l0.n l0.c),(1,Value.int .i64 most1),(5,Value.slice out5.a out5.n out5.c),(6,Value.int .i64 i6)] h1 w0 aa ww:=S
 have H:=HB out5 i6 h1 HI
 clear HI
 refine W.seq ?_
 refine W.seq ?_
 refine W.region ?_
 refine OL.zm S fun _ S=>?_
 refine OL.zm S fun _ S=>?_
 refine OL.zq S (Lf.run_lens (S.ev rfl) rfl Try.underlying22) fun _ S=>?_
 refine OL.zq S (Lf.run_lss (S.ev rfl) (S.ev rfl)) fun _ S=>?_
 refine OL.nil ?_
 refine W.cond S (b:=(decide (i6<((l0.n:Nat):Int)))) rfl (fun hb=>?_) (fun hb=>?_)
 ·
  replace H:=H.1 hb
  refine W.skip ?_
  refine W.seq ?_
  refine W.block ?_
  replace S:=S.sub [(0,Value.slice l0.a l0.n l0.c),(1,Value.int .i64 most1),(5,Value.slice out5.a out5.n out5.c),(6,Value.int .i64 i6)] ⟨rfl,rfl,rfl,rfl,trivial⟩
  refine W.regionD S (by kernel_rfl) ?_
  clear S;intro ww S
  refine AN.zq 0 S rfl (fun _=>Lf.run_move (S.ev rfl)) fun _ S=>?_
  refine AN.zq 1 S rfl (fun _=>Lf.run_move (S.ev rfl)) fun _ S=>?_
  refine AN.zq 2 S rfl (fun _=>Lf.run_move (S.ev rfl)) fun _ S=>?_
  obtain⟨q16,e,e_1,e_2,H⟩:=H
  refine AN.zq 3 S rfl (fun _=>Lf.run_ixs (S.ev rfl) (S.ev rfl) Try.underlying22 ti56 e e_1 e_2) fun _ S=>?_
  refine AN.zq 4 S rfl (fun _=>Lf.run_ixa (S.ev rfl) (S.ev rfl) Try.underlying56 ti3 (by decide) (by decide)) fun _ S=>?_
  obtain⟨x18,c,H⟩:=H
  refine AN.zl 5 S rfl (fun _ hx=>Lf.run_ld (S.ev rfl) fl3 (hx.cell _ _ (S.cl c))) fun _ S=>?_
  refine AN.zq 6 S rfl (fun _=>Lf.run_cvi Try.underlying3 Try.underlying23 (S.ev rfl)) fun _ S=>?_
  refine AN.zq 7 S rfl (fun _=>Lf.run_move (S.ev rfl)) fun _ S=>?_
  refine AN.zq 8 S rfl (fun _=>Lf.run_add (S.ev rfl) (S.ev rfl)) fun _ S=>?_
  refine AN.zq 9 S rfl (fun _=>Lf.run_cvi Try.underlying3 Try.underlying23 (S.ev rfl)) fun _ S=>?_
  obtain⟨c_3,H⟩:=H
  refine AN.zq 10 S rfl (fun _=>Lf.run_rem (S.ev rfl) (S.ev rfl) c_3) fun _ S=>?_
  refine AN.zq 11 S rfl (fun _=>Lf.run_cvi Try.underlying23 Try.underlying3 (S.ev rfl)) fun _ S=>?_
  refine AN.zq 12 S rfl (fun _=>Lf.run_move (S.ev rfl)) fun _ S=>?_
  refine AN.zq 13 S rfl (fun _=>Lf.run_move (S.ev rfl)) fun _ S=>?_
  obtain⟨q27,e_5,e_6,e_7,H⟩:=H
  refine AN.zq 14 S rfl (fun _=>Lf.run_ixs (S.ev rfl) (S.ev rfl) Try.underlying22 ti56 e_5 e_6 e_7) fun _ S=>?_
  refine AN.zq 15 S rfl (fun _=>Lf.run_ixa (S.ev rfl) (S.ev rfl) Try.underlying56 ti3 (by decide) (by decide)) fun _ S=>?_
  obtain⟨x29,c_1,H⟩:=H
  refine AN.zl 16 S rfl (fun _ hx=>Lf.run_ld (S.ev rfl) fl3 (hx.cell _ _ (S.cl c_1))) fun _ S=>?_
  refine AN.zq 17 S rfl (fun _=>Lf.run_cvi Try.underlying3 Try.underlying23 (S.ev rfl)) fun _ S=>?_
  refine AN.zq 18 S rfl (fun _=>Lf.run_move (S.ev rfl)) fun _ S=>?_
  refine AN.zq 19 S rfl (fun _=>Lf.run_add (S.ev rfl) (S.ev rfl)) fun _ S=>?_
  refine AN.zq 20 S rfl (fun _=>Lf.run_cvi Try.underlying3 Try.underlying23 (S.ev rfl)) fun _ S=>?_
  obtain⟨c_2,H⟩:=H
  refine AN.zq 21 S rfl (fun _=>Lf.run_rem (S.ev rfl) (S.ev rfl) c_2) fun _ S=>?_
  refine AN.zq 22 S rfl (fun _=>Lf.run_cvi Try.underlying23 Try.underlying3 (S.ev rfl)) fun _ S=>?_
  refine AN.zq 23 S rfl (fun _=>Lf.run_buildArr (cs:=#[Value.int .i64 (IntKind.i64.wrap (((IntKind.u64.wrap x18):Int).tmod (IntKind.u64.wrap (IntKind.i64.wrap (most1+1))))),Value.int .i64 (IntKind.i64.wrap (((IntKind.u64.wrap x29):Int).tmod (IntKind.u64.wrap (IntKind.i64.wrap (most1+1)))))]) Try.underlying56 ti3 ti56 (parts_map S rfl) (by kernel_rfl)) fun _ S=>?_
  refine AN.eff 24 rfl (by kernel_rfl) ?_
  refine ol_newS S H Try.underlying22 ti56 (by decide) (parts_map S rfl) (by kernel_rfl) (by decide) rfl trivial ?_
  clear S H;intro s37 aa ww h2 H S
  refine OL.nil ?_
  refine AN.eff 25 rfl (by kernel_rfl) ?_
  refine ol_appS S H Try.underlying22 ti56 rfl rfl rfl trivial ?_
  clear S H;intro s38 aa ww h3 H S
  refine OL.nil ?_
  refine AN.zq 26 S rfl (fun _=>Lf.run_assign (S.ev rfl)) fun _ S=>?_
  refine AN.done (by kernel_rfl) ?_
  refine W.region ?_
  refine OL.zm S fun _ S=>?_
  refine OL.zq S (Lf.run_add (S.ev rfl) (S.ev rfl)) fun _ S=>?_
  refine OL.za S fun _ S=>?_
  refine OL.nil ?_
  exact⟨(s38,(IntKind.i64.wrap (i6+1)),h3),⟨S.sub _ ⟨rfl,rfl,rfl,rfl,trivial⟩,H.1⟩,H.2⟩
 ·
  replace H:=H.2 hb
  refine W.exit_ ?_
  refine xhit ?_
  refine W.seq ?_
  refine W.region ?_
  refine OL.zm S fun _ S=>?_
  refine OL.za S fun _ S=>?_
  refine OL.nil ?_
  refine W.ret ?_
  exact Ret.one S rfl rfl H
def L20 (c0:Int) (c0_1:Sv) (c0_2:Int) (c0_3:Sv) (c0_4:Sv) (c0_5:Sv) (c0_6:Sv) (c0_7:Int) (c0_8:Int) (c0_9:Sv) (c0_10:Sv) (l1:Sv) (bound2:Int) (outs3:Sv) (h:Heap) (R:Value→Heap→Prop):Prop:=
 new 27 #[Value.int .i64 c0,Value.slice c0_1.a c0_1.n c0_1.c,Value.int .u64 c0_2,Value.slice c0_3.a c0_3.n c0_3.c,Value.slice c0_4.a c0_4.n c0_4.c,Value.slice c0_5.a c0_5.n c0_5.c,Value.slice c0_6.a c0_6.n c0_6.c,Value.int .i64 c0_7,Value.int .i64 c0_8,Value.slice c0_9.a c0_9.n c0_9.c,Value.slice c0_10.a c0_10.n c0_10.c] h fun p4 h1=>
 new 37 #[Value.int .i64 0,Value.slice (⟨none,0,0⟩:Sv).a (⟨none,0,0⟩:Sv).n (⟨none,0,0⟩:Sv).c,Value.slice (⟨none,0,0⟩:Sv).a (⟨none,0,0⟩:Sv).n (⟨none,0,0⟩:Sv).c,Value.int .i64 0,Value.string (⟨#[]⟩:ByteArray),Value.bool false,Value.int .i64 0,Value.slice (⟨none,0,0⟩:Sv).a (⟨none,0,0⟩:Sv).n (⟨none,0,0⟩:Sv).c,Value.slice (⟨none,0,0⟩:Sv).a (⟨none,0,0⟩:Sv).n (⟨none,0,0⟩:Sv).c] h1 fun p8 h2=>
 ldI .i64 h2 p4 fun x15=>
 cal Try.prog 19 #[Value.slice outs3.a outs3.n outs3.c,Value.int .i64 (IntKind.i64.wrap (x15+bound2))] h2 fun u h3=>asS u fun x18=>
 new 37 #[Value.int .i64 0,Value.slice (⟨none,0,0⟩:Sv).a (⟨none,0,0⟩:Sv).n (⟨none,0,0⟩:Sv).c,Value.slice (⟨none,0,0⟩:Sv).a (⟨none,0,0⟩:Sv).n (⟨none,0,0⟩:Sv).c,Value.int .i64 0,Value.string (⟨#[]⟩:ByteArray),Value.bool false,Value.int .i64 0,Value.slice (⟨none,0,0⟩:Sv).a (⟨none,0,0⟩:Sv).n (⟨none,0,0⟩:Sv).c,Value.slice (⟨none,0,0⟩:Sv).a (⟨none,0,0⟩:Sv).n (⟨none,0,0⟩:Sv).c] h3 fun p9 h4=>
 stoA h4 p9 [Value.int .i64 bound2,Value.slice x18.a x18.n x18.c,Value.slice (⟨none,0,0⟩:Sv).a (⟨none,0,0⟩:Sv).n (⟨none,0,0⟩:Sv).c,Value.int .i64 4,Value.string (⟨#[]⟩:ByteArray),Value.bool false,Value.int .i64 0,Value.slice (⟨none,0,0⟩:Sv).a (⟨none,0,0⟩:Sv).n (⟨none,0,0⟩:Sv).c,Value.slice (⟨none,0,0⟩:Sv).a (⟨none,0,0⟩:Sv).n (⟨none,0,0⟩:Sv).c] fun h5=>
 ∃(I:Int→Heap→Prop) (m:Int→Heap→Nat),I 0 h5∧∀i10 h6,I i10 h6 →
 ldS h6 (p4.add 4) fun x23=>
 ifb (decide (i10<((x23.n:Nat):Int))) (
  ∃J:Heap→Prop,(
   ∃T:Heap→Heap→Prop,Pre T ∧
   hlS (T h6) (p4.add 4) fun x29=>
   hlI .i64 (T h6) p4 fun x37=>
   ∃Fq3:Addr→Heap→Prop,(∀q31 h h',T h h'→Fq3 q31 h→Fq3 q31 h') ∧
   ∃Fq4:Int→ByteArray→Bool→Int→Sv→Sv→Heap→Prop,(∀y32 y32_1 y32_2 y32_3 y32_4 y32_5 h h',T h h'→Fq4 y32 y32_1 y32_2 y32_3 y32_4 y32_5 h→Fq4 y32 y32_1 y32_2 y32_3 y32_4 y32_5 h') ∧
   ∃Fq12:Int→ByteArray→Bool→Int→Sv→Sv→Nat→Nat→Heap→Prop,(∀y40 y40_1 y40_2 y40_3 y40_4 y40_5 lo hi h h',T h h'→Fq12 y40 y40_1 y40_2 y40_3 y40_4 y40_5 lo hi h→Fq12 y40 y40_1 y40_2 y40_3 y40_4 y40_5 lo hi h') ∧
   ∃Fq13:Addr→Nat→Nat→Heap→Prop,(∀p11 lo hi h h',T h h'→Fq13 p11 lo hi h→Fq13 p11 lo hi h') ∧
   (∀(h7:Heap),T h6 h7 →
    ixS x29 i10 fun q31=>
    Fq3 q31 h7) ∧
   (∀(q31:Addr) (h9:Heap),T h6 h9→Fq3 q31 h9 →
    ∃(y32:Int) (y32_1:ByteArray) (y32_2:Bool) (y32_3:Int) (y32_4:Sv) (y32_5:Sv),cl h9 (q31.add ((i10:Int).toNat*6))=some (Value.int .i64 y32)∧cl h9 ((q31.add ((i10:Int).toNat*6)).add 1)=some (Value.string y32_1)∧cl h9 ((q31.add ((i10:Int).toNat*6)).add 2)=some (Value.bool y32_2)∧cl h9 ((q31.add ((i10:Int).toNat*6)).add 3)=some (Value.int .i64 y32_3)∧cl h9 ((q31.add ((i10:Int).toNat*6)).add 4)=some (Value.slice y32_4.a y32_4.n y32_4.c)∧cl h9 ((q31.add ((i10:Int).toNat*6)).add 5)=some (Value.slice y32_5.a y32_5.n y32_5.c) ∧
    Fq4 y32 y32_1 y32_2 y32_3 y32_4 y32_5 h9) ∧
   (∀(q31:Addr) (y32:Int) (y32_1:ByteArray) (y32_2:Bool) (y32_3:Int) (y32_4:Sv) (y32_5:Sv) (h13:Heap),T h6 h13→Fq3 q31 h13→Fq4 y32 y32_1 y32_2 y32_3 y32_4 y32_5 h13 →
    cal Try.prog 37 #[Value.agg #[Value.int .i64 y32,Value.string y32_1,Value.bool y32_2,Value.int .i64 y32_3,Value.slice y32_4.a y32_4.n y32_4.c,Value.slice y32_5.a y32_5.n y32_5.c],Value.slice l1.a l1.n l1.c,Value.int .i64 (IntKind.i64.wrap (3*i10)),Value.int .i64 (IntKind.i64.wrap (x37+bound2))] h13 fun u_1 h14=>∃(y40:Int) (y40_1:ByteArray) (y40_2:Bool) (y40_3:Int) (y40_4:Sv) (y40_5:Sv),u_1=Value.agg #[Value.int .i64 y40,Value.string y40_1,Value.bool y40_2,Value.int .i64 y40_3,Value.slice y40_4.a y40_4.n y40_4.c,Value.slice y40_5.a y40_5.n y40_5.c] ∧
    T h13 h14∧Fq12 y40 y40_1 y40_2 y40_3 y40_4 y40_5 h13.size h14.size h14) ∧
   (∀(h17:Heap),T h6 h17 →
    new 35 #[Value.int .i64 0,Value.string (⟨#[]⟩:ByteArray),Value.bool false,Value.int .i64 0,Value.slice (⟨none,0,0⟩:Sv).a (⟨none,0,0⟩:Sv).n (⟨none,0,0⟩:Sv).c,Value.slice (⟨none,0,0⟩:Sv).a (⟨none,0,0⟩:Sv).n (⟨none,0,0⟩:Sv).c] h17 fun p11 h18=>
    T h17 h18∧Fq13 p11 h17.size h18.size h18) ∧
   (∀(q31:Addr) (y32:Int) (y32_1:ByteArray) (y32_2:Bool) (y32_3:Int) (y32_4:Sv) (y32_5:Sv) (y40:Int) (y40_1:ByteArray) (y40_2:Bool) (y40_3:Int) (y40_4:Sv) (y40_5:Sv) (lo12 hi12:Nat) (p11:Addr) (lo13 hi13:Nat) (h21:Heap),T h6 h21→Dis h6.size h21.size [(lo12,hi12),(lo13,hi13)]→Fq3 q31 h21→Fq4 y32 y32_1 y32_2 y32_3 y32_4 y32_5 h21→Fq12 y40 y40_1 y40_2 y40_3 y40_4 y40_5 lo12 hi12 h21→Fq13 p11 lo13 hi13 h21 →
   stoA h21 p11 [Value.int .i64 y40,Value.string y40_1,Value.bool y40_2,Value.int .i64 y40_3,Value.slice y40_4.a y40_4.n y40_4.c,Value.slice y40_5.a y40_5.n y40_5.c] fun h22=>
   ldS h22 (p4.add 4) fun x44=>
   ifb ((IntKind.i64.wrap (i10+1)) == ((x44.n:Nat):Int)) (
    ∃(y47:Int) (y47_1:ByteArray) (y47_2:Bool) (y47_3:Int) (y47_4:Sv) (y47_5:Sv),cl h22 p11=some (Value.int .i64 y47)∧cl h22 (p11.add 1)=some (Value.string y47_1)∧cl h22 (p11.add 2)=some (Value.bool y47_2)∧cl h22 (p11.add 3)=some (Value.int .i64 y47_3)∧cl h22 (p11.add 4)=some (Value.slice y47_4.a y47_4.n y47_4.c)∧cl h22 (p11.add 5)=some (Value.slice y47_5.a y47_5.n y47_5.c) ∧
    stoA h22 (p9.add 3) [Value.int .i64 y47,Value.string y47_1,Value.bool y47_2,Value.int .i64 y47_3,Value.slice y47_4.a y47_4.n y47_4.c,Value.slice y47_5.a y47_5.n y47_5.c] fun h23=>
    J h23) (
    ldS h22 (p9.add 2) fun x50=>
    ∃(y51:Int) (y51_1:ByteArray) (y51_2:Bool) (y51_3:Int) (y51_4:Sv) (y51_5:Sv),cl h22 p11=some (Value.int .i64 y51)∧cl h22 (p11.add 1)=some (Value.string y51_1)∧cl h22 (p11.add 2)=some (Value.bool y51_2)∧cl h22 (p11.add 3)=some (Value.int .i64 y51_3)∧cl h22 (p11.add 4)=some (Value.slice y51_4.a y51_4.n y51_4.c)∧cl h22 (p11.add 5)=some (Value.slice y51_5.a y51_5.n y51_5.c) ∧
    newS 35 #[Value.int .i64 y51,Value.string y51_1,Value.bool y51_2,Value.int .i64 y51_3,Value.slice y51_4.a y51_4.n y51_4.c,Value.slice y51_5.a y51_5.n y51_5.c] 1 h22 fun s52 h24=>
    appS 35 (Value.agg #[Value.int .i64 0,Value.string (⟨#[]⟩:ByteArray),Value.bool false,Value.int .i64 0,Value.slice (⟨none,0,0⟩:Sv).a (⟨none,0,0⟩:Sv).n (⟨none,0,0⟩:Sv).c,Value.slice (⟨none,0,0⟩:Sv).a (⟨none,0,0⟩:Sv).n (⟨none,0,0⟩:Sv).c]).cells 6 88 h24 x50 s52 fun s53 h25=>
    sto h25 (p9.add 2) (Value.slice s53.a s53.n s53.c) fun h26=>
    J h26)))∧(∀h29,J h29 →
  I (IntKind.i64.wrap (i10+1)) h29∧m (IntKind.i64.wrap (i10+1)) h29<m i10 h6)) (
  ∃(y55:Int) (y55_1:Sv) (y55_2:Sv) (y55_3:Int) (y55_4:ByteArray) (y55_5:Bool) (y55_6:Int) (y55_7:Sv) (y55_8:Sv),cl h6 p9=some (Value.int .i64 y55)∧cl h6 (p9.add 1)=some (Value.slice y55_1.a y55_1.n y55_1.c)∧cl h6 (p9.add 2)=some (Value.slice y55_2.a y55_2.n y55_2.c)∧cl h6 (p9.add 3)=some (Value.int .i64 y55_3)∧cl h6 (p9.add 4)=some (Value.string y55_4)∧cl h6 (p9.add 5)=some (Value.bool y55_5)∧cl h6 (p9.add 6)=some (Value.int .i64 y55_6)∧cl h6 (p9.add 7)=some (Value.slice y55_7.a y55_7.n y55_7.c)∧cl h6 (p9.add 8)=some (Value.slice y55_8.a y55_8.n y55_8.c) ∧
  stoA h6 p8 [Value.int .i64 y55,Value.slice y55_1.a y55_1.n y55_1.c,Value.slice y55_2.a y55_2.n y55_2.c,Value.int .i64 y55_3,Value.string y55_4,Value.bool y55_5,Value.int .i64 y55_6,Value.slice y55_7.a y55_7.n y55_7.c,Value.slice y55_8.a y55_8.n y55_8.c] fun h30=>
  ∃(y:Int) (y_1:Sv) (y_2:Sv) (y_3:Int) (y_4:ByteArray) (y_5:Bool) (y_6:Int) (y_7:Sv) (y_8:Sv),cl h30 p8=some (Value.int .i64 y)∧cl h30 (p8.add 1)=some (Value.slice y_1.a y_1.n y_1.c)∧cl h30 (p8.add 2)=some (Value.slice y_2.a y_2.n y_2.c)∧cl h30 (p8.add 3)=some (Value.int .i64 y_3)∧cl h30 (p8.add 4)=some (Value.string y_4)∧cl h30 (p8.add 5)=some (Value.bool y_5)∧cl h30 (p8.add 6)=some (Value.int .i64 y_6)∧cl h30 (p8.add 7)=some (Value.slice y_7.a y_7.n y_7.c)∧cl h30 (p8.add 8)=some (Value.slice y_8.a y_8.n y_8.c) ∧
  R (Value.agg #[Value.int .i64 y,Value.slice y_1.a y_1.n y_1.c,Value.slice y_2.a y_2.n y_2.c,Value.int .i64 y_3,Value.string y_4,Value.bool y_5,Value.int .i64 y_6,Value.slice y_7.a y_7.n y_7.c,Value.slice y_8.a y_8.n y_8.c]) h30)
set_option maxRecDepth 100000 in
theorem F20 {c0 c0_1 c0_2 c0_3 c0_4 c0_5 c0_6 c0_7 c0_8 c0_9 c0_10 l1 bound2 outs3 h:_} {R:Value→Heap→Prop} (H:L20 c0 c0_1 c0_2 c0_3 c0_4 c0_5 c0_6 c0_7 c0_8 c0_9 c0_10 l1 bound2 outs3 h R):CallsH Try.prog 20 #[Value.agg #[Value.int .i64 c0,Value.slice c0_1.a c0_1.n c0_1.c,Value.int .u64 c0_2,Value.slice c0_3.a c0_3.n c0_3.c,Value.slice c0_4.a c0_4.n c0_4.c,Value.slice c0_5.a c0_5.n c0_5.c,Value.slice c0_6.a c0_6.n c0_6.c,Value.int .i64 c0_7,Value.int .i64 c0_8,Value.slice c0_9.a c0_9.n c0_9.c,Value.slice c0_10.a c0_10.n c0_10.c],Value.slice l1.a l1.n l1.c,Value.int .i64 bound2,Value.slice outs3.a outs3.n outs3.c] h R:=by
 refine CallsH.enter (n:=56) Try.func20 rfl rfl rfl rfl ?_
 intro w0 aa ww S
 unfold L20 at H
 refine W.seq ?_
 refine W.region ?_
 refine ol_box S H rfl rfl rfl trivial ?_
 clear S H;intro p4 aa ww h1 H S
 refine ol_alloc S H ti37 rfl rfl trivial ?_
 clear S H;intro p8 aa ww h2 H S
 refine OL.nil ?_
 refine W.seq ?_
 refine W.region ?_
 refine OL.zm S fun _ S=>?_
 refine OL.zm S fun _ S=>?_
 refine OL.zf S fa27_0 fun _ S=>?_
 obtain⟨x15,c,H⟩:=H
 refine OL.zl S fl3 c fun _ S=>?_
 refine OL.zm S fun _ S=>?_
 refine OL.zq S (Lf.run_add (S.ev rfl) (S.ev rfl)) fun _ S=>?_
 refine ol_cal S H isfn19 rfl rfl trivial ?_
 clear S H;intro u aa ww h3 H S
 obtain⟨x18,rfl,H⟩:=H
 refine OL.zq S (Lf.run_build (cs:=#[Value.int .i64 4,Value.string (⟨#[]⟩:ByteArray),Value.bool false,Value.int .i64 0,Value.slice (⟨none,0,0⟩:Sv).a (⟨none,0,0⟩:Sv).n (⟨none,0,0⟩:Sv).c,Value.slice (⟨none,0,0⟩:Sv).a (⟨none,0,0⟩:Sv).n (⟨none,0,0⟩:Sv).c]) pl35 ti35 (parts_map S rfl) (by kernel_rfl)) fun _ S=>?_
 refine OL.zq S (Lf.run_build (cs:=#[Value.int .i64 bound2,Value.slice x18.a x18.n x18.c,Value.slice (⟨none,0,0⟩:Sv).a (⟨none,0,0⟩:Sv).n (⟨none,0,0⟩:Sv).c,Value.int .i64 4,Value.string (⟨#[]⟩:ByteArray),Value.bool false,Value.int .i64 0,Value.slice (⟨none,0,0⟩:Sv).a (⟨none,0,0⟩:Sv).n (⟨none,0,0⟩:Sv).c,Value.slice (⟨none,0,0⟩:Sv).a (⟨none,0,0⟩:Sv).n (⟨none,0,0⟩:Sv).c]) pl37 ti37 (parts_map S rfl) (by kernel_rfl)) fun _ S=>?_
 refine ol_alloc S H ti37 rfl rfl trivial ?_
 clear S H;intro p9 aa ww h4 H S
 refine ol_stoA S H rfl rfl ti37 trivial ?_
 clear S H;intro aa ww h5 H S
 refine OL.nil ?_
 refine W.seq ?_
 refine W.seq ?_
 refine W.region ?_
 refine OL.za S fun _ S=>?_
 refine OL.nil ?_
 refine W.block ?_
 obtain⟨I,m,H,HB⟩:=H
 refine W.loopS (σ:=Int×Heap) (fun s aa ww=>St 56 [(1,Value.slice l1.a l1.n l1.c),(2,Value.int .i64 bound2),(4,Value.pointer (some p4)),(8,Value.pointer (some p8)),(9,Value.pointer (some p9)),(10,Value.int .i64 s.1)] s.2 w0 aa ww∧I s.1 s.2) (fun s=>m s.1 s.2) (0,h5) ⟨S.sub _ ⟨rfl,rfl,rfl,rfl,rfl,rfl,trivial⟩,H⟩ ?_
 clear H S
 rintro ⟨i10,h6⟩ aa ww ⟨S,HI⟩
 replace S:St 56 [(1,Value.slice l1.a l1.n l1.c),(2,Value.int .i64 bound2),(4,Value.pointer (some p4)),(8,Value.pointer (some p8)),(9,Value.pointer (some p9)),(10,Value.int .i64 i10)] h6 w0 aa ww:=S
 have H:=HB i10 h6 HI
 clear HI
 refine W.seq ?_
 refine W.seq ?_
 refine W.region ?_
 refine OL.zm S fun _ S=>?_
 refine OL.zf S fa27_4 fun _ S=>?_
 obtain⟨x23,c_1,H⟩:=H
 refine OL.zl S fl24 c_1 fun _ S=>?_
 refine OL.zq S (Lf.run_lens (S.ev rfl) rfl Try.underlying24) fun _ S=>?_
 refine OL.zq S (Lf.run_lss (S.ev rfl) (S.ev rfl)) fun _ S=>?_
 refine OL.nil ?_
 refine W.cond S (b:=(decide (i10<((x23.n:Nat):Int)))) rfl (fun hb=>?_) (fun hb=>?_)
 ·
  replace H:=H.1 hb
  refine W.skip ?_
  obtain⟨J,H,HK⟩:=H
  refine W.seqJ (fun aa ww=>∃h29,St 56 [(1,Value.slice l1.a l1.n l1.c),(2,Value.int .i64 bound2),(4,Value.pointer (some p4)),(8,Value.pointer (some p8)),(9,Value.pointer (some p9)),(10,Value.int .i64 i10)] h29 w0 aa ww∧J h29) ?_ ?_
  ·
   clear HK
   refine W.block ?_
   refine W.seq ?_
   replace S:=S.sub [(1,Value.slice l1.a l1.n l1.c),(2,Value.int .i64 bound2),(4,Value.pointer (some p4)),(8,Value.pointer (some p8)),(9,Value.pointer (some p9)),(10,Value.int .i64 i10)] ⟨rfl,rfl,rfl,rfl,rfl,rfl,trivial⟩
   refine W.regionD S (by kernel_rfl) ?_
   clear S;intro ww S
   refine AN.zq 0 S rfl (fun _=>Lf.run_fa (S.ev rfl) fa27_4) fun _ S=>?_
   refine AN.zq 2 S rfl (fun _=>Lf.run_move (S.ev rfl)) fun _ S=>?_
   refine AN.zq 5 S rfl (fun _=>Lf.run_move (S.ev rfl)) fun _ S=>?_
   refine AN.zq 6 S rfl (fun _=>Lf.run_move (S.ev rfl)) fun _ S=>?_
   refine AN.zq 7 S rfl (fun _=>Lf.run_mul (S.ev rfl) (S.ev rfl)) fun _ S=>?_
   refine AN.zq 8 S rfl (fun _=>Lf.run_fa (S.ev rfl) fa27_0) fun _ S=>?_
   refine AN.zq 10 S rfl (fun _=>Lf.run_move (S.ev rfl)) fun _ S=>?_
   obtain⟨T,hT,H⟩:=H
   obtain⟨x29,c_2,H⟩:=H
   obtain⟨x37,c_17,H⟩:=H
   obtain⟨Fq3,sq,H⟩:=H
   obtain⟨Fq4,sq_1,H⟩:=H
   obtain⟨Fq12,sq_2,H⟩:=H
   obtain⟨Fq13,sq_3,H⟩:=H
   obtain⟨Oq,Oq_1,Oq_2,Oq_3,H⟩:=H
   let gq1:GOp:=⟨1,29,false,[1],fun lq=>Value.slice x29.a x29.n x29.c,fun _ _ _ _=>True⟩
   let gq3:GOp:=⟨3,31,false,[3],fun lq=>Value.pointer (some ((pA (nth lq 0)).add ((i10:Int).toNat*6))),fun lq lo hi h=>Fq3 (pA (nth lq 0)) h⟩
   let gq4:GOp:=⟨4,32,false,[4,3],fun lq=>Value.agg #[Value.int .i64 (pI (pC 0 (nth lq 0))),Value.string (pT (pC 1 (nth lq 0))),Value.bool (pB (pC 2 (nth lq 0))),Value.int .i64 (pI (pC 3 (nth lq 0))),Value.slice (pS (pC 4 (nth lq 0))).a (pS (pC 4 (nth lq 0))).n (pS (pC 4 (nth lq 0))).c,Value.slice (pS (pC 5 (nth lq 0))).a (pS (pC 5 (nth lq 0))).n (pS (pC 5 (nth lq 0))).c],fun lq lo hi h=>Fq4 (pI (pC 0 (nth lq 0))) (pT (pC 1 (nth lq 0))) (pB (pC 2 (nth lq 0))) (pI (pC 3 (nth lq 0))) (pS (pC 4 (nth lq 0))) (pS (pC 5 (nth lq 0))) h⟩
   let gq9:GOp:=⟨9,37,false,[9],fun lq=>Value.int .i64 x37,fun _ _ _ _=>True⟩
   let gq11:GOp:=⟨11,39,false,[11],fun lq=>Value.int .i64 (IntKind.i64.wrap (x37+bound2)),fun _ _ _ _=>True⟩
   let gq12:GOp:=⟨12,40,true,[12,3,4],fun lq=>Value.agg #[Value.int .i64 (pI (pC 0 (nth lq 0))),Value.string (pT (pC 1 (nth lq 0))),Value.bool (pB (pC 2 (nth lq 0))),Value.int .i64 (pI (pC 3 (nth lq 0))),Value.slice (pS (pC 4 (nth lq 0))).a (pS (pC 4 (nth lq 0))).n (pS (pC 4 (nth lq 0))).c,Value.slice (pS (pC 5 (nth lq 0))).a (pS (pC 5 (nth lq 0))).n (pS (pC 5 (nth lq 0))).c],fun lq lo hi h=>Fq12 (pI (pC 0 (nth lq 0))) (pT (pC 1 (nth lq 0))) (pB (pC 2 (nth lq 0))) (pI (pC 3 (nth lq 0))) (pS (pC 4 (nth lq 0))) (pS (pC 5 (nth lq 0))) lo hi h⟩
   let gq13:GOp:=⟨13,11,true,[13],fun lq=>Value.pointer (some (pA (nth lq 0))),fun lq lo hi h=>Fq13 (pA (nth lq 0)) lo hi h⟩
   replace S:=S.sub [(1,Value.slice l1.a l1.n l1.c),(2,Value.int .i64 bound2),(4,Value.pointer (some p4)),(8,Value.pointer (some p8)),(9,Value.pointer (some p9)),(10,Value.int .i64 i10),(28,Value.pointer (some (p4.add 4))),(30,Value.int .i64 i10),(33,Value.slice l1.a l1.n l1.c),(34,Value.int .i64 i10),(35,Value.int .i64 (IntKind.i64.wrap (3*i10))),(36,Value.pointer (some p4)),(38,Value.int .i64 bound2)] ⟨rfl,rfl,rfl,rfl,rfl,rfl,rfl,rfl,rfl,rfl,rfl,rfl,rfl,trivial⟩
   refine AN.group (fuel:=1) T hT [(gq1,[]),(gq3,[gq1]),(gq4,[gq3]),(gq9,[]),(gq11,[gq9]),(gq12,[gq3,gq4,gq11]),(gq13,[])] [(1,29,[1],[]),(3,31,[3],[1]),(4,32,[4,3],[3]),(9,37,[9],[]),(11,39,[11],[9]),(12,40,[12,3,4],[3,4,11]),(13,11,[13],[])] [1,2,4,8,9,10,28,30,33,34,35,36,38] S rfl rfl (by kernel_rfl) (by simp) ⟨?_,?_,?_,?_,?_,?_,?_,trivial⟩ ?_
   ·
    refine⟨_,rfl,rfl,fun _ _ _ _ _ _ _=>trivial,?_⟩
    intro Xg Bg aa ww h27 Ef S hTg hok
    replace S:St 56 ((1,Value.slice l1.a l1.n l1.c) :: (2,Value.int .i64 bound2) :: (4,Value.pointer (some p4)) :: (8,Value.pointer (some p8)) :: (9,Value.pointer (some p9)) :: (10,Value.int .i64 i10) :: (28,Value.pointer (some (p4.add 4))) :: (30,Value.int .i64 i10) :: (33,Value.slice l1.a l1.n l1.c) :: (34,Value.int .i64 i10) :: (35,Value.int .i64 (IntKind.i64.wrap (3*i10))) :: (36,Value.pointer (some p4)) :: (38,Value.int .i64 bound2) :: Ef) h27 w0 aa ww:=S
    refine OL.zq S (Lf.run_ld (S.ev rfl) fl24 (S.cl (c_2 _ hTg))) fun _ S=>?_
    refine OL.nil ?_
    exact⟨undef,_,S,hT.refl _,trivial⟩
   ·
    refine⟨_,rfl,rfl,fun _ _ _ _ _ ht hf=>sq _ _ _ ht hf,?_⟩
    intro Xg Bg aa ww h8 Ef S hTg hok
    obtain⟨kq1,-⟩:=hok
    replace S:St 56 ((29,Value.slice x29.a x29.n x29.c) :: (1,Value.slice l1.a l1.n l1.c) :: (2,Value.int .i64 bound2) :: (4,Value.pointer (some p4)) :: (8,Value.pointer (some p8)) :: (9,Value.pointer (some p9)) :: (10,Value.int .i64 i10) :: (28,Value.pointer (some (p4.add 4))) :: (30,Value.int .i64 i10) :: (33,Value.slice l1.a l1.n l1.c) :: (34,Value.int .i64 i10) :: (35,Value.int .i64 (IntKind.i64.wrap (3*i10))) :: (36,Value.pointer (some p4)) :: (38,Value.int .i64 bound2) :: Ef) h8 w0 aa ww:=S
    have H:=Oq h8 hTg
    obtain⟨q31_1,e_3,e_4,e_5,H⟩:=H
    refine OL.zq S (Lf.run_ixs (S.ev rfl) (S.ev rfl) Try.underlying24 ti35 e_3 e_4 e_5) fun _ S=>?_
    refine OL.nil ?_
    exact⟨Value.pointer (some q31_1),_,S,hT.refl _,H⟩
   ·
    refine⟨_,rfl,rfl,fun _ _ _ _ _ ht hf=>sq_1 _ _ _ _ _ _ _ _ ht hf,?_⟩
    intro Xg Bg aa ww h10 Ef S hTg hok
    obtain⟨kq3,-⟩:=hok
    replace S:St 56 ((31,Value.pointer (some ((pA (Xg 3)).add ((i10:Int).toNat*6)))) :: (1,Value.slice l1.a l1.n l1.c) :: (2,Value.int .i64 bound2) :: (4,Value.pointer (some p4)) :: (8,Value.pointer (some p8)) :: (9,Value.pointer (some p9)) :: (10,Value.int .i64 i10) :: (28,Value.pointer (some (p4.add 4))) :: (30,Value.int .i64 i10) :: (33,Value.slice l1.a l1.n l1.c) :: (34,Value.int .i64 i10) :: (35,Value.int .i64 (IntKind.i64.wrap (3*i10))) :: (36,Value.pointer (some p4)) :: (38,Value.int .i64 bound2) :: Ef) h10 w0 aa ww:=S
    have H:=Oq_1 (pA (Xg 3)) h10 hTg kq3
    obtain⟨y32_6,y32_7,y32_8,y32_9,y32_10,y32_11,c_11,c_12,c_13,c_14,c_15,c_16,H⟩:=H
    refine OL.zq S (Lf.run_ldA (cs:=[Value.int .i64 y32_6,Value.string y32_7,Value.bool y32_8,Value.int .i64 y32_9,Value.slice y32_10.a y32_10.n y32_10.c,Value.slice y32_11.a y32_11.n y32_11.c]) (S.ev rfl) ag35 ti35 (by rw[S.heap];exact RowL.toRow ⟨c_11,c_12,c_13,c_14,c_15,c_16,trivial⟩)) fun _ S=>?_
    refine OL.nil ?_
    exact⟨Value.agg #[Value.int .i64 y32_6,Value.string y32_7,Value.bool y32_8,Value.int .i64 y32_9,Value.slice y32_10.a y32_10.n y32_10.c,Value.slice y32_11.a y32_11.n y32_11.c],_,S,hT.refl _,H⟩
   ·
    refine⟨_,rfl,rfl,fun _ _ _ _ _ _ _=>trivial,?_⟩
    intro Xg Bg aa ww h28 Ef S hTg hok
    replace S:St 56 ((1,Value.slice l1.a l1.n l1.c) :: (2,Value.int .i64 bound2) :: (4,Value.pointer (some p4)) :: (8,Value.pointer (some p8)) :: (9,Value.pointer (some p9)) :: (10,Value.int .i64 i10) :: (28,Value.pointer (some (p4.add 4))) :: (30,Value.int .i64 i10) :: (33,Value.slice l1.a l1.n l1.c) :: (34,Value.int .i64 i10) :: (35,Value.int .i64 (IntKind.i64.wrap (3*i10))) :: (36,Value.pointer (some p4)) :: (38,Value.int .i64 bound2) :: Ef) h28 w0 aa ww:=S
    refine OL.zq S (Lf.run_ld (S.ev rfl) fl3 (S.cl (c_17 _ hTg))) fun _ S=>?_
    refine OL.nil ?_
    exact⟨undef,_,S,hT.refl _,trivial⟩
   ·
    refine⟨_,rfl,rfl,fun _ _ _ _ _ _ _=>trivial,?_⟩
    intro Xg Bg aa ww h12 Ef S hTg hok
    obtain⟨kq9,-⟩:=hok
    replace S:St 56 ((37,Value.int .i64 x37) :: (1,Value.slice l1.a l1.n l1.c) :: (2,Value.int .i64 bound2) :: (4,Value.pointer (some p4)) :: (8,Value.pointer (some p8)) :: (9,Value.pointer (some p9)) :: (10,Value.int .i64 i10) :: (28,Value.pointer (some (p4.add 4))) :: (30,Value.int .i64 i10) :: (33,Value.slice l1.a l1.n l1.c) :: (34,Value.int .i64 i10) :: (35,Value.int .i64 (IntKind.i64.wrap (3*i10))) :: (36,Value.pointer (some p4)) :: (38,Value.int .i64 bound2) :: Ef) h12 w0 aa ww:=S
    refine OL.zq S (Lf.run_add (S.ev rfl) (S.ev rfl)) fun _ S=>?_
    refine OL.nil ?_
    exact⟨undef,_,S,hT.refl _,trivial⟩
   ·
    refine⟨_,rfl,rfl,fun _ _ _ _ _ ht hf=>sq_2 _ _ _ _ _ _ _ _ _ _ ht hf,?_⟩
    intro Xg Bg aa ww h15 Ef S hTg hok
    obtain⟨kq3,kq4,kq11,-⟩:=hok
    replace S:St 56 ((31,Value.pointer (some ((pA (Xg 3)).add ((i10:Int).toNat*6)))) :: (32,Value.agg #[Value.int .i64 (pI (pC 0 (Xg 4))),Value.string (pT (pC 1 (Xg 4))),Value.bool (pB (pC 2 (Xg 4))),Value.int .i64 (pI (pC 3 (Xg 4))),Value.slice (pS (pC 4 (Xg 4))).a (pS (pC 4 (Xg 4))).n (pS (pC 4 (Xg 4))).c,Value.slice (pS (pC 5 (Xg 4))).a (pS (pC 5 (Xg 4))).n (pS (pC 5 (Xg 4))).c]) :: (39,Value.int .i64 (IntKind.i64.wrap (x37+bound2))) :: (1,Value.slice l1.a l1.n l1.c) :: (2,Value.int .i64 bound2) :: (4,Value.pointer (some p4)) :: (8,Value.pointer (some p8)) :: (9,Value.pointer (some p9)) :: (10,Value.int .i64 i10) :: (28,Value.pointer (some (p4.add 4))) :: (30,Value.int .i64 i10) :: (33,Value.slice l1.a l1.n l1.c) :: (34,Value.int .i64 i10) :: (35,Value.int .i64 (IntKind.i64.wrap (3*i10))) :: (36,Value.pointer (some p4)) :: (38,Value.int .i64 bound2) :: Ef) h15 w0 aa ww:=S
    have H:=Oq_2 (pA (Xg 3)) (pI (pC 0 (Xg 4))) (pT (pC 1 (Xg 4))) (pB (pC 2 (Xg 4))) (pI (pC 3 (Xg 4))) (pS (pC 4 (Xg 4))) (pS (pC 5 (Xg 4))) h15 hTg kq3 kq4
    refine ol_cal S H isfn37 rfl rfl trivial ?_
    clear S H;intro u_2 aa ww h16 H S
    obtain⟨y40_6,y40_7,y40_8,y40_9,y40_10,y40_11,rfl,H⟩:=H
    refine OL.nil ?_
    exact⟨Value.agg #[Value.int .i64 y40_6,Value.string y40_7,Value.bool y40_8,Value.int .i64 y40_9,Value.slice y40_10.a y40_10.n y40_10.c,Value.slice y40_11.a y40_11.n y40_11.c],_,S,H.1,H.2⟩
   ·
    refine⟨_,rfl,rfl,fun _ _ _ _ _ ht hf=>sq_3 _ _ _ _ _ ht hf,?_⟩
    intro Xg Bg aa ww h19 Ef S hTg hok
    replace S:St 56 ((1,Value.slice l1.a l1.n l1.c) :: (2,Value.int .i64 bound2) :: (4,Value.pointer (some p4)) :: (8,Value.pointer (some p8)) :: (9,Value.pointer (some p9)) :: (10,Value.int .i64 i10) :: (28,Value.pointer (some (p4.add 4))) :: (30,Value.int .i64 i10) :: (33,Value.slice l1.a l1.n l1.c) :: (34,Value.int .i64 i10) :: (35,Value.int .i64 (IntKind.i64.wrap (3*i10))) :: (36,Value.pointer (some p4)) :: (38,Value.int .i64 bound2) :: Ef) h19 w0 aa ww:=S
    have H:=Oq_3 h19 hTg
    refine ol_alloc S H ti35 rfl rfl trivial ?_
    clear S H;intro p11_1 aa ww h20 H S
    refine OL.nil ?_
    exact⟨Value.pointer (some p11_1),_,S,H.1,H.2⟩
   clear S
   intro Xg Bg aa ww h21 S hTg hok hdis
   obtain⟨kq1,kq3,kq4,kq9,kq11,kq12,kq13,-⟩:=hok
   replace H:=H (pA (Xg 3)) (pI (pC 0 (Xg 4))) (pT (pC 1 (Xg 4))) (pB (pC 2 (Xg 4))) (pI (pC 3 (Xg 4))) (pS (pC 4 (Xg 4))) (pS (pC 5 (Xg 4))) (pI (pC 0 (Xg 12))) (pT (pC 1 (Xg 12))) (pB (pC 2 (Xg 12))) (pI (pC 3 (Xg 12))) (pS (pC 4 (Xg 12))) (pS (pC 5 (Xg 12))) (Bg 12).1 (Bg 12).2 (pA (Xg 13)) (Bg 13).1 (Bg 13).2 h21 hTg hdis kq3 kq4 kq12 kq13
   replace S:=S.sub [(1,Value.slice l1.a l1.n l1.c),(2,Value.int .i64 bound2),(4,Value.pointer (some p4)),(8,Value.pointer (some p8)),(9,Value.pointer (some p9)),(10,Value.int .i64 i10),(11,Value.pointer (some (pA (Xg 13)))),(28,Value.pointer (some (p4.add 4))),(29,Value.slice x29.a x29.n x29.c),(30,Value.int .i64 i10),(31,Value.pointer (some ((pA (Xg 3)).add ((i10:Int).toNat*6)))),(32,Value.agg #[Value.int .i64 (pI (pC 0 (Xg 4))),Value.string (pT (pC 1 (Xg 4))),Value.bool (pB (pC 2 (Xg 4))),Value.int .i64 (pI (pC 3 (Xg 4))),Value.slice (pS (pC 4 (Xg 4))).a (pS (pC 4 (Xg 4))).n (pS (pC 4 (Xg 4))).c,Value.slice (pS (pC 5 (Xg 4))).a (pS (pC 5 (Xg 4))).n (pS (pC 5 (Xg 4))).c]),(33,Value.slice l1.a l1.n l1.c),(34,Value.int .i64 i10),(35,Value.int .i64 (IntKind.i64.wrap (3*i10))),(36,Value.pointer (some p4)),(37,Value.int .i64 x37),(38,Value.int .i64 bound2),(39,Value.int .i64 (IntKind.i64.wrap (x37+bound2))),(40,Value.agg #[Value.int .i64 (pI (pC 0 (Xg 12))),Value.string (pT (pC 1 (Xg 12))),Value.bool (pB (pC 2 (Xg 12))),Value.int .i64 (pI (pC 3 (Xg 12))),Value.slice (pS (pC 4 (Xg 12))).a (pS (pC 4 (Xg 12))).n (pS (pC 4 (Xg 12))).c,Value.slice (pS (pC 5 (Xg 12))).a (pS (pC 5 (Xg 12))).n (pS (pC 5 (Xg 12))).c])] ⟨rfl,rfl,rfl,rfl,rfl,rfl,rfl,rfl,rfl,rfl,rfl,rfl,rfl,rfl,rfl,rfl,rfl,rfl,rfl,rfl,trivial⟩
   generalize (pA (Xg 3))=q31 at H S
   generalize (pI (pC 0 (Xg 4)))=y32 at H S
   generalize (pT (pC 1 (Xg 4)))=y32_1 at H S
   generalize (pB (pC 2 (Xg 4)))=y32_2 at H S
   generalize (pI (pC 3 (Xg 4)))=y32_3 at H S
   generalize (pS (pC 4 (Xg 4)))=y32_4 at H S
   generalize (pS (pC 5 (Xg 4)))=y32_5 at H S
   generalize (pI (pC 0 (Xg 12)))=y40 at H S
   generalize (pT (pC 1 (Xg 12)))=y40_1 at H S
   generalize (pB (pC 2 (Xg 12)))=y40_2 at H S
   generalize (pI (pC 3 (Xg 12)))=y40_3 at H S
   generalize (pS (pC 4 (Xg 12)))=y40_4 at H S
   generalize (pS (pC 5 (Xg 12)))=y40_5 at H S
   generalize (pA (Xg 13))=p11 at H S
   generalize Bg 12=bq12 at H
   generalize Bg 13=bq13 at H
   clear hTg hdis kq13 kq12 kq11 kq9 kq4 kq3 kq1 gq13 gq12 gq11 gq9 gq4 gq3 gq1 Oq Oq_1 Oq_2 Oq_3 sq sq_1 sq_2 sq_3
   refine AN.eff 14 rfl (by kernel_rfl) ?_
   refine ol_stoA S H rfl rfl ti35 trivial ?_
   clear S H;intro aa ww h22 H S
   refine OL.nil ?_
   refine AN.done (by kernel_rfl) ?_
   refine W.seq ?_
   refine W.region ?_
   refine OL.zm S fun _ S=>?_
   refine OL.zq S (Lf.run_add (S.ev rfl) (S.ev rfl)) fun _ S=>?_
   refine OL.zf S fa27_4 fun _ S=>?_
   obtain⟨x44,c_18,H⟩:=H
   refine OL.zl S fl24 c_18 fun _ S=>?_
   refine OL.zq S (Lf.run_lens (S.ev rfl) rfl Try.underlying24) fun _ S=>?_
   refine OL.zq S (Lf.run_eql (S.ev rfl) (S.ev rfl)) fun _ S=>?_
   refine OL.nil ?_
   refine W.cond S (b:=((IntKind.i64.wrap (i10+1)) == ((x44.n:Nat):Int))) rfl (fun hb_1=>?_) (fun hb_1=>?_)
   ·
    replace H:=H.1 hb_1
    refine W.region ?_
    obtain⟨y47,y47_1,y47_2,y47_3,y47_4,y47_5,c_20,c_21,c_22,c_23,c_24,c_25,H⟩:=H
    refine OL.zq S (Lf.run_ldA (cs:=[Value.int .i64 y47,Value.string y47_1,Value.bool y47_2,Value.int .i64 y47_3,Value.slice y47_4.a y47_4.n y47_4.c,Value.slice y47_5.a y47_5.n y47_5.c]) (S.ev rfl) ag35 ti35 (by rw[S.heap];exact RowL.toRow ⟨c_20,c_21,c_22,c_23,c_24,c_25,trivial⟩)) fun _ S=>?_
    refine OL.zf S fa37_3 fun _ S=>?_
    refine ol_stoA S H rfl rfl ti35 trivial ?_
    clear S H;intro aa ww h23 H S
    refine OL.nil ?_
    exact⟨h23,S.sub _ ⟨rfl,rfl,rfl,rfl,rfl,rfl,trivial⟩,H⟩
   ·
    replace H:=H.2 hb_1
    refine W.region ?_
    refine OL.zf S fa37_2 fun _ S=>?_
    obtain⟨x50,c_26,H⟩:=H
    refine OL.zl S fl24 c_26 fun _ S=>?_
    obtain⟨y51,y51_1,y51_2,y51_3,y51_4,y51_5,c_28,c_29,c_30,c_31,c_32,c_33,H⟩:=H
    refine OL.zq S (Lf.run_ldA (cs:=[Value.int .i64 y51,Value.string y51_1,Value.bool y51_2,Value.int .i64 y51_3,Value.slice y51_4.a y51_4.n y51_4.c,Value.slice y51_5.a y51_5.n y51_5.c]) (S.ev rfl) ag35 ti35 (by rw[S.heap];exact RowL.toRow ⟨c_28,c_29,c_30,c_31,c_32,c_33,trivial⟩)) fun _ S=>?_
    refine ol_newS S H Try.underlying24 ti35 (by decide) (parts_map S rfl) (by kernel_rfl) (by decide) rfl trivial ?_
    clear S H;intro s52 aa ww h24 H S
    refine ol_appS S H Try.underlying24 ti35 rfl rfl rfl trivial ?_
    clear S H;intro s53 aa ww h25 H S
    refine OL.zf S fa37_2 fun _ S=>?_
    refine ol_sto S H rfl rfl rfl ti24 trivial ?_
    clear S H;intro aa ww h26 H S
    refine OL.nil ?_
    exact⟨h26,S.sub _ ⟨rfl,rfl,rfl,rfl,rfl,rfl,trivial⟩,H⟩
  ·
   clear H S
   rintro aa ww ⟨h29,S,HJ⟩
   have H:=HK _ HJ
   clear HK HJ
   refine W.region ?_
   refine OL.zm S fun _ S=>?_
   refine OL.zq S (Lf.run_add (S.ev rfl) (S.ev rfl)) fun _ S=>?_
   refine OL.za S fun _ S=>?_
   refine OL.nil ?_
   exact⟨((IntKind.i64.wrap (i10+1)),h29),⟨S.sub _ ⟨rfl,rfl,rfl,rfl,rfl,rfl,trivial⟩,H.1⟩,H.2⟩
 ·
  replace H:=H.2 hb
  refine W.exit_ ?_
  refine xhit ?_
  refine W.seq ?_
  refine W.region ?_
  obtain⟨y55,y55_1,y55_2,y55_3,y55_4,y55_5,y55_6,y55_7,y55_8,c_44,c_45,c_46,c_47,c_48,c_49,c_50,c_51,c_52,H⟩:=H
  refine OL.zq S (Lf.run_ldA (cs:=[Value.int .i64 y55,Value.slice y55_1.a y55_1.n y55_1.c,Value.slice y55_2.a y55_2.n y55_2.c,Value.int .i64 y55_3,Value.string y55_4,Value.bool y55_5,Value.int .i64 y55_6,Value.slice y55_7.a y55_7.n y55_7.c,Value.slice y55_8.a y55_8.n y55_8.c]) (S.ev rfl) ag37 ti37 (by rw[S.heap];exact RowL.toRow ⟨c_44,c_45,c_46,c_47,c_48,c_49,c_50,c_51,c_52,trivial⟩)) fun _ S=>?_
  refine ol_stoA S H rfl rfl ti37 trivial ?_
  clear S H;intro aa ww h30 H S
  refine OL.nil ?_
  refine W.ret ?_
  obtain⟨y,y_1,y_2,y_3,y_4,y_5,y_6,y_7,y_8,c_35,c_36,c_37,c_38,c_39,c_40,c_41,c_42,c_43,H⟩:=H
  exact Ret.gen S rfl (RV.cellA (cs:=[Value.int .i64 y,Value.slice y_1.a y_1.n y_1.c,Value.slice y_2.a y_2.n y_2.c,Value.int .i64 y_3,Value.string y_4,Value.bool y_5,Value.int .i64 y_6,Value.slice y_7.a y_7.n y_7.c,Value.slice y_8.a y_8.n y_8.c]) rfl ag37 ti37 ⟨c_35,c_36,c_37,c_38,c_39,c_40,c_41,c_42,c_43,trivial⟩ RV.nil) rfl H
def L21 (r0:Int) (h:Heap) (R:Value→Heap→Prop):Prop:=
 new 35 #[Value.int .i64 0,Value.string (⟨#[]⟩:ByteArray),Value.bool false,Value.int .i64 0,Value.slice (⟨none,0,0⟩:Sv).a (⟨none,0,0⟩:Sv).n (⟨none,0,0⟩:Sv).c,Value.slice (⟨none,0,0⟩:Sv).a (⟨none,0,0⟩:Sv).n (⟨none,0,0⟩:Sv).c] h fun p2 h1=>
 newS 35 #[Value.int .i64 1,Value.string (⟨#[]⟩:ByteArray),Value.bool false,Value.int .i64 0,Value.slice (⟨none,0,0⟩:Sv).a (⟨none,0,0⟩:Sv).n (⟨none,0,0⟩:Sv).c,Value.slice (⟨none,0,0⟩:Sv).a (⟨none,0,0⟩:Sv).n (⟨none,0,0⟩:Sv).c] 1 h1 fun s5 h2=>
 stoA h2 p2 [Value.int .i64 7,Value.string (⟨#[]⟩:ByteArray),Value.bool false,Value.int .i64 r0,Value.slice (⟨none,0,0⟩:Sv).a (⟨none,0,0⟩:Sv).n (⟨none,0,0⟩:Sv).c,Value.slice s5.a s5.n s5.c] fun h3=>
 ∃(y:Int) (y_1:ByteArray) (y_2:Bool) (y_3:Int) (y_4:Sv) (y_5:Sv),cl h3 p2=some (Value.int .i64 y)∧cl h3 (p2.add 1)=some (Value.string y_1)∧cl h3 (p2.add 2)=some (Value.bool y_2)∧cl h3 (p2.add 3)=some (Value.int .i64 y_3)∧cl h3 (p2.add 4)=some (Value.slice y_4.a y_4.n y_4.c)∧cl h3 (p2.add 5)=some (Value.slice y_5.a y_5.n y_5.c) ∧
 R (Value.agg #[Value.int .i64 y,Value.string y_1,Value.bool y_2,Value.int .i64 y_3,Value.slice y_4.a y_4.n y_4.c,Value.slice y_5.a y_5.n y_5.c]) h3
set_option maxRecDepth 100000 in
theorem F21 {r0 h:_} {R:Value→Heap→Prop} (H:L21 r0 h R):CallsH Try.prog 21 #[Value.int .i64 r0] h R:=by
 refine CallsH.enter (n:=7) Try.func21 rfl rfl rfl rfl ?_
 intro w0 aa ww S
 unfold L21 at H
 refine W.seq ?_
 refine W.region ?_
 refine ol_alloc S H ti35 rfl rfl trivial ?_
 clear S H;intro p2 aa ww h1 H S
 refine OL.nil ?_
 refine W.seq ?_
 refine W.region ?_
 refine OL.zm S fun _ S=>?_
 refine OL.zq S (Lf.run_build (cs:=#[Value.int .i64 1,Value.string (⟨#[]⟩:ByteArray),Value.bool false,Value.int .i64 0,Value.slice (⟨none,0,0⟩:Sv).a (⟨none,0,0⟩:Sv).n (⟨none,0,0⟩:Sv).c,Value.slice (⟨none,0,0⟩:Sv).a (⟨none,0,0⟩:Sv).n (⟨none,0,0⟩:Sv).c]) pl35 ti35 (parts_map S rfl) (by kernel_rfl)) fun _ S=>?_
 refine ol_newS S H Try.underlying24 ti35 (by decide) (parts_map S rfl) (by kernel_rfl) (by decide) rfl trivial ?_
 clear S H;intro s5 aa ww h2 H S
 refine OL.zq S (Lf.run_build (cs:=#[Value.int .i64 7,Value.string (⟨#[]⟩:ByteArray),Value.bool false,Value.int .i64 r0,Value.slice (⟨none,0,0⟩:Sv).a (⟨none,0,0⟩:Sv).n (⟨none,0,0⟩:Sv).c,Value.slice s5.a s5.n s5.c]) pl35 ti35 (parts_map S rfl) (by kernel_rfl)) fun _ S=>?_
 refine ol_stoA S H rfl rfl ti35 trivial ?_
 clear S H;intro aa ww h3 H S
 refine OL.nil ?_
 refine W.ret ?_
 obtain⟨y,y_1,y_2,y_3,y_4,y_5,c,c_1,c_2,c_3,c_4,c_5,H⟩:=H
 exact Ret.gen S rfl (RV.cellA (cs:=[Value.int .i64 y,Value.string y_1,Value.bool y_2,Value.int .i64 y_3,Value.slice y_4.a y_4.n y_4.c,Value.slice y_5.a y_5.n y_5.c]) rfl ag35 ti35 ⟨c,c_1,c_2,c_3,c_4,c_5,trivial⟩ RV.nil) rfl H
def L22 (s0:Int) (s0_1:Sv) (s0_2:Sv) (s0_3:Int) (s0_4:ByteArray) (s0_5:Bool) (s0_6:Int) (s0_7:Sv) (s0_8:Sv) (free1:Int) (h:Heap) (R:Value→Heap→Prop):Prop:=
 new 37 #[Value.int .i64 s0,Value.slice s0_1.a s0_1.n s0_1.c,Value.slice s0_2.a s0_2.n s0_2.c,Value.int .i64 s0_3,Value.string s0_4,Value.bool s0_5,Value.int .i64 s0_6,Value.slice s0_7.a s0_7.n s0_7.c,Value.slice s0_8.a s0_8.n s0_8.c] h fun p2 h1=>
 ldI .i64 h1 p2 fun x10=>
 ∃J:Bool→Prop,(orr (decide (x10<0)) (fun k=>
  ldI .i64 h1 p2 fun x14=>
  k (decide ((IntKind.i64.wrap (300 - free1))<x14))) J)∧∀x18,J x18 →
 ifb x18 (
  R (Value.bool false) h1) (
  ldI .i64 h1 p2 fun x21=>
  new 3 #[Value.int .i64 0] h1 fun p5 h2=>
  sto h2 p5 (Value.int .i64 (IntKind.i64.wrap (free1+x21))) fun h3=>
  new 78 #[Value.nilFunc] h3 fun p6 h4=>
  sto h4 p6 ((Value.func (.func 38) #[] #[Value.pointer (some p5)])) fun h5=>
  ldS h5 (p2.add 1) fun x25=>
  ∃(I:Int→Heap→Prop) (m:Int→Heap→Nat),I 0 h5∧∀x27 h6,I x27 h6 →
  ifb (decide (x27<((x25.n:Nat):Int))) (
   ixS x25 x27 fun q29=>
   ∃(y30:Int) (y30_1:Int),cl h6 (q29.add ((x27:Int).toNat*2))=some (Value.int .i64 y30)∧cl h6 ((q29.add ((x27:Int).toNat*2)).add 1)=some (Value.int .i64 y30_1) ∧
   new 56 #[Value.int .i64 0,Value.int .i64 0] h6 fun p8 h7=>
   stoA h7 p8 [Value.int .i64 y30,Value.int .i64 y30_1] fun h8=>
   ldV h8 p6 fun x31=>
   ldI .i64 h8 p8 fun x33=>
   calV Try.prog x31 #[Value.int .i64 x33] h8 fun u h9=>asB u fun x34=>
   ∃J_1:Bool→Heap→Prop,(orj x34 (fun k_1=>
    ldV h9 p6 fun x36=>
    ldI .i64 h9 (p8.add 1) fun x38=>
    calV Try.prog x36 #[Value.int .i64 x38] h9 fun u_1 h11=>asB u_1 fun x39=>
    k_1 x39 h11) h9 J_1)∧∀x40 h10,J_1 x40 h10 →
   ifb x40 (
    R (Value.bool false) h10) (
    I (IntKind.i64.wrap (x27+1)) h10∧m (IntKind.i64.wrap (x27+1)) h10<m x27 h6)) (
   ∃(y42:Int) (y42_1:Sv) (y42_2:Sv) (y42_3:Int) (y42_4:ByteArray) (y42_5:Bool) (y42_6:Int) (y42_7:Sv) (y42_8:Sv),cl h6 p2=some (Value.int .i64 y42)∧cl h6 (p2.add 1)=some (Value.slice y42_1.a y42_1.n y42_1.c)∧cl h6 (p2.add 2)=some (Value.slice y42_2.a y42_2.n y42_2.c)∧cl h6 (p2.add 3)=some (Value.int .i64 y42_3)∧cl h6 (p2.add 4)=some (Value.string y42_4)∧cl h6 (p2.add 5)=some (Value.bool y42_5)∧cl h6 (p2.add 6)=some (Value.int .i64 y42_6)∧cl h6 (p2.add 7)=some (Value.slice y42_7.a y42_7.n y42_7.c)∧cl h6 (p2.add 8)=some (Value.slice y42_8.a y42_8.n y42_8.c) ∧
   cal Try.prog 40 #[Value.agg #[Value.int .i64 y42,Value.slice y42_1.a y42_1.n y42_1.c,Value.slice y42_2.a y42_2.n y42_2.c,Value.int .i64 y42_3,Value.string y42_4,Value.bool y42_5,Value.int .i64 y42_6,Value.slice y42_7.a y42_7.n y42_7.c,Value.slice y42_8.a y42_8.n y42_8.c]] h6 fun u_2 h12=>asS u_2 fun x43=>
   cal Try.prog 39 #[Value.slice x43.a x43.n x43.c,(Value.func (.func 41) #[] #[Value.pointer (some p6)])] h12 fun u_3 h13=>asB u_3 fun x45=>
   R (Value.bool (!x45)) h13))
set_option maxRecDepth 100000 in
theorem F22 {s0 s0_1 s0_2 s0_3 s0_4 s0_5 s0_6 s0_7 s0_8 free1 h:_} {R:Value→Heap→Prop} (H:L22 s0 s0_1 s0_2 s0_3 s0_4 s0_5 s0_6 s0_7 s0_8 free1 h R):CallsH Try.prog 22 #[Value.agg #[Value.int .i64 s0,Value.slice s0_1.a s0_1.n s0_1.c,Value.slice s0_2.a s0_2.n s0_2.c,Value.int .i64 s0_3,Value.string s0_4,Value.bool s0_5,Value.int .i64 s0_6,Value.slice s0_7.a s0_7.n s0_7.c,Value.slice s0_8.a s0_8.n s0_8.c],Value.int .i64 free1] h R:=by
 refine CallsH.enter (n:=47) Try.func22 rfl rfl rfl rfl ?_
 intro w0 aa ww S
 unfold L22 at H
 refine W.seq ?_
 refine W.region ?_
 refine ol_box S H rfl rfl rfl trivial ?_
 clear S H;intro p2 aa ww h1 H S
 refine OL.za S fun _ S=>?_
 refine OL.nil ?_
 refine W.seq ?_
 refine W.seq ?_
 refine W.region ?_
 refine OL.zf S fa37_0 fun _ S=>?_
 obtain⟨x10,c,H⟩:=H
 refine OL.zl S fl3 c fun _ S=>?_
 refine OL.zq S (Lf.run_lss (S.ev rfl) (S.ev rfl)) fun _ S=>?_
 refine OL.zm S fun _ S=>?_
 obtain⟨J,H,HK⟩:=H
 refine OL.cutN 6 (fun aa ww=>∃x18,St 47 ((18,Value.bool x18) :: [(1,Value.int .i64 free1),(2,Value.pointer (some p2)),(9,Value.pointer (some p2)),(10,Value.int .i64 x10),(11,Value.bool (decide (x10<0))),(12,Value.bool (decide (x10<0)))]) h1 w0 aa ww∧J x18) ?_ ?_
 ·
  rcases Bool.eq_false_or_eq_true (decide (x10<0)) with hb|hb
  ·
   replace H:=H.1 hb
   refine OL.zn S (GNo.mk rfl rfl hb) fun _ S=>?_
   refine OL.zn S (GNo.mk rfl rfl hb) fun _ S=>?_
   refine OL.zn S (GNo.mk rfl rfl hb) fun _ S=>?_
   refine OL.zn S (GNo.mk rfl rfl hb) fun _ S=>?_
   refine OL.zn S (GNo.mk rfl rfl hb) fun _ S=>?_
   refine OL.zq S (Lf.run_pickT (S.ev rfl) hb (S.ev rfl)) fun _ S=>?_
   refine OL.nil ?_
   exact⟨_,S.sub _ ⟨rfl,rfl,rfl,rfl,rfl,rfl,rfl,trivial⟩,H⟩
  ·
   replace H:=H.2 hb
   refine OL.zf (hg:=GOk.mk rfl rfl hb) S fa37_0 fun _ S=>?_
   obtain⟨x14,c_1,H⟩:=H
   refine OL.zl (hg:=GOk.mk rfl rfl hb) S fl3 c_1 fun _ S=>?_
   refine OL.zm (hg:=GOk.mk rfl rfl hb) S fun _ S=>?_
   refine OL.zq (hg:=GOk.mk rfl rfl hb) S (Lf.run_sub (S.ev rfl) (S.ev rfl)) fun _ S=>?_
   refine OL.zq (hg:=GOk.mk rfl rfl hb) S (Lf.run_gtr (S.ev rfl) (S.ev rfl)) fun _ S=>?_
   refine OL.zq S (Lf.run_pickF (S.ev rfl) hb (S.ev rfl)) fun _ S=>?_
   refine OL.nil ?_
   exact⟨_,S.sub _ ⟨rfl,rfl,rfl,rfl,rfl,rfl,rfl,trivial⟩,H⟩
 ·
  clear S
  rintro aa ww ⟨x18,S,HJ⟩
  replace H:=HK _ HJ
  clear HK HJ
  refine OL.nil ?_
  refine W.cond S (b:=x18) rfl (fun hb_1=>?_) (fun hb_1=>?_)
  ·
   replace H:=H.1 hb_1
   refine W.seq ?_
   refine W.region ?_
   refine OL.za S fun _ S=>?_
   refine OL.nil ?_
   refine W.ret ?_
   exact Ret.one S rfl rfl H
  ·
   replace H:=H.2 hb_1
   refine W.skip ?_
   refine W.seq ?_
   refine W.region ?_
   refine OL.zm S fun _ S=>?_
   refine OL.zf S fa37_0 fun _ S=>?_
   obtain⟨x21,c_2,H⟩:=H
   refine OL.zl S fl3 c_2 fun _ S=>?_
   refine OL.zq S (Lf.run_add (S.ev rfl) (S.ev rfl)) fun _ S=>?_
   refine ol_alloc S H ti3 rfl rfl trivial ?_
   clear S H;intro p5 aa ww h2 H S
   refine ol_sto S H rfl rfl rfl ti3 trivial ?_
   clear S H;intro aa ww h3 H S
   refine OL.nil ?_
   refine W.seq ?_
   refine W.region ?_
   refine OL.zq S (Lf.run_mf (evs_map S rfl)) fun _ S=>?_
   refine ol_alloc S H ti78 rfl rfl trivial ?_
   clear S H;intro p6 aa ww h4 H S
   refine ol_sto S H rfl rfl rfl ti78 trivial ?_
   clear S H;intro aa ww h5 H S
   refine OL.nil ?_
   refine W.seq ?_
   refine W.seq ?_
   refine W.region ?_
   refine OL.zf S fa37_1 fun _ S=>?_
   obtain⟨x25,c_3,H⟩:=H
   refine OL.zl S fl22 c_3 fun _ S=>?_
   refine OL.zq S (Lf.run_lens (S.ev rfl) rfl Try.underlying22) fun _ S=>?_
   refine OL.zm S fun _ S=>?_
   refine OL.nil ?_
   refine W.block ?_
   obtain⟨I,m,H,HB⟩:=H
   refine W.loopS (σ:=Int×Heap) (fun s aa ww=>St 47 [(2,Value.pointer (some p2)),(6,Value.pointer (some p6)),(25,Value.slice x25.a x25.n x25.c),(26,Value.int .i64 ((x25.n:Nat):Int)),(27,Value.int .i64 s.1)] s.2 w0 aa ww∧I s.1 s.2) (fun s=>m s.1 s.2) (0,h5) ⟨S.sub _ ⟨rfl,rfl,rfl,rfl,rfl,trivial⟩,H⟩ ?_
   clear H S
   rintro ⟨x27,h6⟩ aa ww ⟨S,HI⟩
   replace S:St 47 [(2,Value.pointer (some p2)),(6,Value.pointer (some p6)),(25,Value.slice x25.a x25.n x25.c),(26,Value.int .i64 ((x25.n:Nat):Int)),(27,Value.int .i64 x27)] h6 w0 aa ww:=S
   have H:=HB x27 h6 HI
   clear HI
   refine W.seq ?_
   refine W.region ?_
   refine OL.zq S (Lf.run_lss (S.ev rfl) (S.ev rfl)) fun _ S=>?_
   refine OL.nil ?_
   refine W.seq ?_
   refine W.cond S (b:=(decide (x27<((x25.n:Nat):Int)))) rfl (fun hb_2=>?_) (fun hb_2=>?_)
   ·
    replace H:=H.1 hb_2
    refine W.skip ?_
    refine W.seq ?_
    refine W.block ?_
    refine W.seq ?_
    refine W.region ?_
    obtain⟨q29,e,e_1,e_2,H⟩:=H
    refine OL.zq S (Lf.run_ixs (S.ev rfl) (S.ev rfl) Try.underlying22 ti56 e e_1 e_2) fun _ S=>?_
    obtain⟨y30,y30_1,c_9,c_10,H⟩:=H
    refine OL.zq S (Lf.run_ldA (cs:=[Value.int .i64 y30,Value.int .i64 y30_1]) (S.ev rfl) ag56 ti56 (by rw[S.heap];exact RowL.toRow ⟨c_9,c_10,trivial⟩)) fun _ S=>?_
    refine ol_alloc S H ti56 rfl rfl trivial ?_
    clear S H;intro p8 aa ww h7 H S
    refine ol_stoA S H rfl rfl ti56 trivial ?_
    clear S H;intro aa ww h8 H S
    refine OL.nil ?_
    refine W.seq ?_
    refine W.region ?_
    obtain⟨x31,c_5,H⟩:=H
    refine OL.zl S fl78 c_5 fun _ S=>?_
    refine OL.zq S (Lf.run_ixa (S.ev rfl) (S.ev rfl) Try.underlying56 ti3 (by decide) (by decide)) fun _ S=>?_
    obtain⟨x33,c_6,H⟩:=H
    refine OL.zl S fl3 c_6 fun _ S=>?_
    refine ol_calV S H rfl rfl rfl trivial ?_
    clear S H;intro u aa ww h9 H S
    obtain⟨x34,rfl,H⟩:=H
    refine OL.zm S fun _ S=>?_
    obtain⟨J_1,H,HK_1⟩:=H
    refine OL.cutN 5 (fun aa ww=>∃x40 h10,St 47 ((40,Value.bool x40) :: [(2,Value.pointer (some p2)),(6,Value.pointer (some p6)),(8,Value.pointer (some p8)),(25,Value.slice x25.a x25.n x25.c),(26,Value.int .i64 ((x25.n:Nat):Int)),(27,Value.int .i64 x27),(31,x31),(32,Value.pointer (some p8)),(33,Value.int .i64 x33),(34,Value.bool x34),(35,Value.bool x34)]) h10 w0 aa ww∧J_1 x40 h10) ?_ ?_
    ·
     rcases Bool.eq_false_or_eq_true x34 with hb_3|hb_3
     ·
      replace H:=H.1 hb_3
      refine OL.zn S (GNo.mk rfl rfl hb_3) fun _ S=>?_
      refine OL.zn S (GNo.mk rfl rfl hb_3) fun _ S=>?_
      refine OL.zn S (GNo.mk rfl rfl hb_3) fun _ S=>?_
      refine OL.zn S (GNo.mk rfl rfl hb_3) fun _ S=>?_
      refine OL.zq S (Lf.run_pickT (S.ev rfl) hb_3 (S.ev rfl)) fun _ S=>?_
      refine OL.nil ?_
      exact⟨_,_,S.sub _ ⟨rfl,rfl,rfl,rfl,rfl,rfl,rfl,rfl,rfl,rfl,rfl,rfl,trivial⟩,H⟩
     ·
      replace H:=H.2 hb_3
      obtain⟨x36,c_7,H⟩:=H
      refine OL.zl (hg:=GOk.mk rfl rfl hb_3) S fl78 c_7 fun _ S=>?_
      refine OL.zq (hg:=GOk.mk rfl rfl hb_3) S (Lf.run_ixa (S.ev rfl) (S.ev rfl) Try.underlying56 ti3 (by decide) (by decide)) fun _ S=>?_
      obtain⟨x38,c_8,H⟩:=H
      refine OL.zl (hg:=GOk.mk rfl rfl hb_3) S fl3 c_8 fun _ S=>?_
      refine ol_calV S H rfl rfl rfl (GOk.mk rfl rfl hb_3) ?_
      clear S H;intro u_1 aa ww h11 H S
      obtain⟨x39,rfl,H⟩:=H
      refine OL.zq S (Lf.run_pickF (S.ev rfl) hb_3 (S.ev rfl)) fun _ S=>?_
      refine OL.nil ?_
      exact⟨_,_,S.sub _ ⟨rfl,rfl,rfl,rfl,rfl,rfl,rfl,rfl,rfl,rfl,rfl,rfl,trivial⟩,H⟩
    ·
     clear S
     rintro aa ww ⟨x40,h10,S,HJ⟩
     replace H:=HK_1 _ _ HJ
     clear HK_1 HJ
     refine OL.nil ?_
     refine W.cond S (b:=x40) rfl (fun hb_4=>?_) (fun hb_4=>?_)
     ·
      replace H:=H.1 hb_4
      refine W.seq ?_
      refine W.region ?_
      refine OL.za S fun _ S=>?_
      refine OL.nil ?_
      refine W.ret ?_
      exact Ret.one S rfl rfl H
     ·
      replace H:=H.2 hb_4
      refine W.skip ?_
      refine W.region ?_
      refine OL.zq S (Lf.run_add (S.ev rfl) (S.ev rfl)) fun _ S=>?_
      refine OL.zm S fun _ S=>?_
      refine OL.nil ?_
      exact⟨((IntKind.i64.wrap (x27+1)),h10),⟨S.sub _ ⟨rfl,rfl,rfl,rfl,rfl,trivial⟩,H.1⟩,H.2⟩
   ·
    replace H:=H.2 hb_2
    refine W.exit_ ?_
    refine xhit ?_
    refine W.seq ?_
    refine W.region ?_
    obtain⟨y42,y42_1,y42_2,y42_3,y42_4,y42_5,y42_6,y42_7,y42_8,c_12,c_13,c_14,c_15,c_16,c_17,c_18,c_19,c_20,H⟩:=H
    refine OL.zq S (Lf.run_ldA (cs:=[Value.int .i64 y42,Value.slice y42_1.a y42_1.n y42_1.c,Value.slice y42_2.a y42_2.n y42_2.c,Value.int .i64 y42_3,Value.string y42_4,Value.bool y42_5,Value.int .i64 y42_6,Value.slice y42_7.a y42_7.n y42_7.c,Value.slice y42_8.a y42_8.n y42_8.c]) (S.ev rfl) ag37 ti37 (by rw[S.heap];exact RowL.toRow ⟨c_12,c_13,c_14,c_15,c_16,c_17,c_18,c_19,c_20,trivial⟩)) fun _ S=>?_
    refine ol_cal S H isfn40 rfl rfl trivial ?_
    clear S H;intro u_2 aa ww h12 H S
    obtain⟨x43,rfl,H⟩:=H
    refine OL.zq S (Lf.run_mf (evs_map S rfl)) fun _ S=>?_
    refine ol_cal S H isfn39 rfl rfl trivial ?_
    clear S H;intro u_3 aa ww h13 H S
    obtain⟨x45,rfl,H⟩:=H
    refine OL.zq S (Lf.run_not (S.ev rfl)) fun _ S=>?_
    refine OL.za S fun _ S=>?_
    refine OL.nil ?_
    refine W.ret ?_
    exact Ret.one S rfl rfl H
def L23 (n0:Int) (h:Heap) (R:Value→Heap→Prop):Prop:=
 ifb ((decide (n0<0)) || (decide (300<n0))) (
  R (.tuple #[Value.pointer none,Value.int .i64 14]) h) (
  new 86 #[Value.int .i64 n0,Value.slice (⟨none,0,0⟩:Sv).a (⟨none,0,0⟩:Sv).n (⟨none,0,0⟩:Sv).c] h fun p16 h1=>
  ∃(I:Int→Heap→Prop) (m:Int→Heap→Nat),I 0 h1∧∀x19 h2,I x19 h2 →
  ifb (decide (x19<(IntKind.i64.wrap (n0+1)))) (
   mkS 4 (Value.bool false).cells 1 1 (IntKind.i64.wrap (n0+1)) (IntKind.i64.wrap (n0+1)) h2 fun s24 h3=>
   ixS s24 x19 fun q27=>
   sto h3 (q27.add ((x19:Int).toNat*1)) (Value.bool true) fun h4=>
   ∃(I_1:Int→Heap→Prop) (m_1:Int→Heap→Nat),I_1 0 h4∧∀x30 h5,I_1 x30 h5 →
   ifb (decide (x30<((s24.n:Nat):Int))) (
    ixS s24 x30 fun q37=>
    ldB h5 (q37.add ((x30:Int).toNat*1)) fun x38=>
    ixS s24 x30 fun q43=>
    sto h5 (q43.add ((x30:Int).toNat*1)) (Value.bool (x38 || (x19 == 0))) fun h6=>
    I_1 (IntKind.i64.wrap (x30+1)) h6∧m_1 (IntKind.i64.wrap (x30+1)) h6<m_1 x30 h5) (
    ldS h5 (p16.add 1) fun x49=>
    newS 87 #[Value.slice s24.a s24.n s24.c] 1 h5 fun s51 h7=>
    appS 87 (Value.slice (⟨none,0,0⟩:Sv).a (⟨none,0,0⟩:Sv).n (⟨none,0,0⟩:Sv).c).cells 1 24 h7 x49 s51 fun s52 h8=>
    sto h8 (p16.add 1) (Value.slice s52.a s52.n s52.c) fun h9=>
    I (IntKind.i64.wrap (x19+1)) h9∧m (IntKind.i64.wrap (x19+1)) h9<m x19 h2)) (
   R (.tuple #[Value.pointer (some p16),Value.int .i64 0]) h2))
set_option maxRecDepth 100000 in
theorem F23 {n0 h:_} {R:Value→Heap→Prop} (H:L23 n0 h R):CallsH Try.prog 23 #[Value.int .i64 n0] h R:=by
 refine CallsH.enter (n:=57) Try.func23 rfl rfl rfl rfl ?_
 intro w0 aa ww S
 unfold L23 at H
 refine W.seq ?_
 refine W.region ?_
 refine OL.za S fun _ S=>?_
 refine OL.za S fun _ S=>?_
 refine OL.nil ?_
 refine W.seq ?_
 refine W.seq ?_
 refine W.region ?_
 refine OL.zm S fun _ S=>?_
 refine OL.zq S (Lf.run_lss (S.ev rfl) (S.ev rfl)) fun _ S=>?_
 refine OL.zm S fun _ S=>?_
 refine OL.cutN 3 (fun aa ww=>St 57 ((13,Value.bool ((decide (n0<0)) || (decide (300<n0)))) :: [(0,Value.int .i64 n0),(8,Value.int .i64 n0),(9,Value.bool (decide (n0<0))),(10,Value.bool (decide (n0<0)))]) h w0 aa ww) ?_ ?_
 ·
  rcases Bool.eq_false_or_eq_true (decide (n0<0)) with hb|hb
  ·
   refine OL.zn S (GNo.mk rfl rfl hb) fun _ S=>?_
   refine OL.zn S (GNo.mk rfl rfl hb) fun _ S=>?_
   refine OL.zq S (Lf.run_pickT (S.ev rfl) hb (S.ev rfl)) fun _ S=>?_
   refine OL.nil ?_
   exact (S.hd (by rw[hb,Bool.true_or])).sub _ ⟨rfl,rfl,rfl,rfl,rfl,trivial⟩
  ·
   refine OL.zm (hg:=GOk.mk rfl rfl hb) S fun _ S=>?_
   refine OL.zq (hg:=GOk.mk rfl rfl hb) S (Lf.run_gtr (S.ev rfl) (S.ev rfl)) fun _ S=>?_
   refine OL.zq S (Lf.run_pickF (S.ev rfl) hb (S.ev rfl)) fun _ S=>?_
   refine OL.nil ?_
   exact (S.hd (by rw[hb,Bool.false_or])).sub _ ⟨rfl,rfl,rfl,rfl,rfl,trivial⟩
 ·
  clear S
  intro aa ww S
  refine OL.nil ?_
  refine W.cond S (b:=((decide (n0<0)) || (decide (300<n0)))) rfl (fun hb_1=>?_) (fun hb_1=>?_)
  ·
   replace H:=H.1 hb_1
   refine W.seq ?_
   refine W.region ?_
   refine OL.za S fun _ S=>?_
   refine OL.za S fun _ S=>?_
   refine OL.nil ?_
   refine W.ret ?_
   exact Ret.two S rfl rfl rfl H
  ·
   replace H:=H.2 hb_1
   refine W.skip ?_
   refine W.seq ?_
   refine W.region ?_
   refine OL.zm S fun _ S=>?_
   refine OL.zq S (Lf.run_build (cs:=#[Value.int .i64 n0,Value.slice (⟨none,0,0⟩:Sv).a (⟨none,0,0⟩:Sv).n (⟨none,0,0⟩:Sv).c]) pl86 ti86 (parts_map S rfl) (by kernel_rfl)) fun _ S=>?_
   refine ol_box S H rfl rfl rfl trivial ?_
   clear S H;intro p16 aa ww h1 H S
   refine OL.za S fun _ S=>?_
   refine OL.nil ?_
   refine W.seq ?_
   refine W.seq ?_
   refine W.region ?_
   refine OL.zm S fun _ S=>?_
   refine OL.zq S (Lf.run_add (S.ev rfl) (S.ev rfl)) fun _ S=>?_
   refine OL.zm S fun _ S=>?_
   refine OL.nil ?_
   refine W.block ?_
   obtain⟨I,m,H,HB_1⟩:=H
   refine W.loopS (σ:=Int×Heap) (fun s aa ww=>St 57 [(0,Value.int .i64 n0),(4,Value.pointer (some p16)),(18,Value.int .i64 (IntKind.i64.wrap (n0+1))),(19,Value.int .i64 s.1)] s.2 w0 aa ww∧I s.1 s.2) (fun s=>m s.1 s.2) (0,h1) ⟨S.sub _ ⟨rfl,rfl,rfl,rfl,trivial⟩,H⟩ ?_
   clear H S
   rintro ⟨x19,h2⟩ aa ww ⟨S,HI⟩
   replace S:St 57 [(0,Value.int .i64 n0),(4,Value.pointer (some p16)),(18,Value.int .i64 (IntKind.i64.wrap (n0+1))),(19,Value.int .i64 x19)] h2 w0 aa ww:=S
   have H:=HB_1 x19 h2 HI
   clear HI
   refine W.seq ?_
   refine W.region ?_
   refine OL.zq S (Lf.run_lss (S.ev rfl) (S.ev rfl)) fun _ S=>?_
   refine OL.nil ?_
   refine W.seq ?_
   refine W.cond S (b:=(decide (x19<(IntKind.i64.wrap (n0+1))))) rfl (fun hb_2=>?_) (fun hb_2=>?_)
   ·
    replace H:=H.1 hb_2
    refine W.skip ?_
    refine W.seq ?_
    refine W.block ?_
    refine W.seq ?_
    refine W.region ?_
    refine OL.zm S fun _ S=>?_
    refine OL.za S fun _ S=>?_
    refine OL.nil ?_
    refine W.seq ?_
    refine W.region ?_
    refine OL.zm S fun _ S=>?_
    refine OL.zq S (Lf.run_add (S.ev rfl) (S.ev rfl)) fun _ S=>?_
    refine ol_mkS S H Try.underlying87 ti4 rfl rfl rfl trivial ?_
    clear S H;intro s24 aa ww h3 H S
    refine OL.za S fun _ S=>?_
    refine OL.nil ?_
    refine W.seq ?_
    refine W.region ?_
    refine OL.zm S fun _ S=>?_
    refine OL.zm S fun _ S=>?_
    obtain⟨q27,e,e_1,e_2,H⟩:=H
    refine OL.zq S (Lf.run_ixs (S.ev rfl) (S.ev rfl) Try.underlying87 ti4 e e_1 e_2) fun _ S=>?_
    refine ol_sto S H rfl rfl rfl ti4 trivial ?_
    clear S H;intro aa ww h4 H S
    refine OL.nil ?_
    refine W.seq ?_
    refine W.seq ?_
    refine W.region ?_
    refine OL.zm S fun _ S=>?_
    refine OL.zq S (Lf.run_lens (S.ev rfl) rfl Try.underlying87) fun _ S=>?_
    refine OL.zm S fun _ S=>?_
    refine OL.nil ?_
    refine W.block ?_
    obtain⟨I_1,m_1,H,HB⟩:=H
    refine W.loopS (σ:=Int×Heap) (fun s aa ww=>St 57 [(0,Value.int .i64 n0),(4,Value.pointer (some p16)),(5,Value.int .i64 x19),(6,Value.slice s24.a s24.n s24.c),(18,Value.int .i64 (IntKind.i64.wrap (n0+1))),(19,Value.int .i64 x19),(29,Value.int .i64 ((s24.n:Nat):Int)),(30,Value.int .i64 s.1)] s.2 w0 aa ww∧I_1 s.1 s.2) (fun s=>m_1 s.1 s.2) (0,h4) ⟨S.sub _ ⟨rfl,rfl,rfl,rfl,rfl,rfl,rfl,rfl,trivial⟩,H⟩ ?_
    clear H S
    rintro ⟨x30,h5⟩ aa ww ⟨S,HI⟩
    replace S:St 57 [(0,Value.int .i64 n0),(4,Value.pointer (some p16)),(5,Value.int .i64 x19),(6,Value.slice s24.a s24.n s24.c),(18,Value.int .i64 (IntKind.i64.wrap (n0+1))),(19,Value.int .i64 x19),(29,Value.int .i64 ((s24.n:Nat):Int)),(30,Value.int .i64 x30)] h5 w0 aa ww:=S
    have H:=HB x30 h5 HI
    clear HI
    refine W.seq ?_
    refine W.region ?_
    refine OL.zq S (Lf.run_lss (S.ev rfl) (S.ev rfl)) fun _ S=>?_
    refine OL.nil ?_
    refine W.seq ?_
    refine W.cond S (b:=(decide (x30<((s24.n:Nat):Int)))) rfl (fun hb_3=>?_) (fun hb_3=>?_)
    ·
     replace H:=H.1 hb_3
     refine W.skip ?_
     refine W.seq ?_
     refine W.block ?_
     refine W.seq ?_
     refine W.region ?_
     refine OL.zm S fun _ S=>?_
     refine OL.za S fun _ S=>?_
     refine OL.nil ?_
     refine W.region ?_
     refine OL.zm S fun _ S=>?_
     refine OL.zm S fun _ S=>?_
     refine OL.zm S fun _ S=>?_
     refine OL.zm S fun _ S=>?_
     obtain⟨q37,e_3,e_4,e_5,H⟩:=H
     refine OL.zq S (Lf.run_ixs (S.ev rfl) (S.ev rfl) Try.underlying87 ti4 e_3 e_4 e_5) fun _ S=>?_
     obtain⟨x38,c,H⟩:=H
     refine OL.zl S fl4 c fun _ S=>?_
     refine OL.zm S fun _ S=>?_
     refine OL.cutN 3 (fun aa ww=>St 57 ((42,Value.bool (x38 || (x19 == 0))) :: [(0,Value.int .i64 n0),(4,Value.pointer (some p16)),(5,Value.int .i64 x19),(6,Value.slice s24.a s24.n s24.c),(7,Value.int .i64 x30),(18,Value.int .i64 (IntKind.i64.wrap (n0+1))),(19,Value.int .i64 x19),(29,Value.int .i64 ((s24.n:Nat):Int)),(30,Value.int .i64 x30),(33,Value.slice s24.a s24.n s24.c),(34,Value.int .i64 x30),(35,Value.slice s24.a s24.n s24.c),(36,Value.int .i64 x30),(37,Value.pointer (some (q37.add ((x30:Int).toNat*1)))),(38,Value.bool x38),(39,Value.bool x38)]) h5 w0 aa ww) ?_ ?_
     ·
      rcases Bool.eq_false_or_eq_true x38 with hb_4|hb_4
      ·
       refine OL.zn S (GNo.mk rfl rfl hb_4) fun _ S=>?_
       refine OL.zn S (GNo.mk rfl rfl hb_4) fun _ S=>?_
       refine OL.zq S (Lf.run_pickT (S.ev rfl) hb_4 (S.ev rfl)) fun _ S=>?_
       refine OL.nil ?_
       exact (S.hd (by rw[hb_4,Bool.true_or])).sub _ ⟨rfl,rfl,rfl,rfl,rfl,rfl,rfl,rfl,rfl,rfl,rfl,rfl,rfl,rfl,rfl,rfl,rfl,trivial⟩
      ·
       refine OL.zm (hg:=GOk.mk rfl rfl hb_4) S fun _ S=>?_
       refine OL.zq (hg:=GOk.mk rfl rfl hb_4) S (Lf.run_eql (S.ev rfl) (S.ev rfl)) fun _ S=>?_
       refine OL.zq S (Lf.run_pickF (S.ev rfl) hb_4 (S.ev rfl)) fun _ S=>?_
       refine OL.nil ?_
       exact (S.hd (by rw[hb_4,Bool.false_or])).sub _ ⟨rfl,rfl,rfl,rfl,rfl,rfl,rfl,rfl,rfl,rfl,rfl,rfl,rfl,rfl,rfl,rfl,rfl,trivial⟩
     ·
      clear S
      intro aa ww S
      obtain⟨q43,e_6,e_7,e_8,H⟩:=H
      refine OL.zq S (Lf.run_ixs (S.ev rfl) (S.ev rfl) Try.underlying87 ti4 e_6 e_7 e_8) fun _ S=>?_
      refine ol_sto S H rfl rfl rfl ti4 trivial ?_
      clear S H;intro aa ww h6 H S
      refine OL.nil ?_
      refine W.region ?_
      refine OL.zq S (Lf.run_add (S.ev rfl) (S.ev rfl)) fun _ S=>?_
      refine OL.zm S fun _ S=>?_
      refine OL.nil ?_
      exact⟨((IntKind.i64.wrap (x30+1)),h6),⟨S.sub _ ⟨rfl,rfl,rfl,rfl,rfl,rfl,rfl,rfl,trivial⟩,H.1⟩,H.2⟩
    ·
     replace H:=H.2 hb_3
     refine W.exit_ ?_
     refine xhit ?_
     refine W.region ?_
     refine OL.zm S fun _ S=>?_
     refine OL.zm S fun _ S=>?_
     refine OL.zq S (Lf.run_nc (S.ev rfl)) fun _ S=>?_
     refine OL.zf S fa86_1 fun _ S=>?_
     obtain⟨x49,c_1,H⟩:=H
     refine OL.zl S fl84 c_1 fun _ S=>?_
     refine OL.zm S fun _ S=>?_
     refine ol_newS S H Try.underlying84 ti87 (by decide) (parts_map S rfl) (by kernel_rfl) (by decide) rfl trivial ?_
     clear S H;intro s51 aa ww h7 H S
     refine ol_appS S H Try.underlying84 ti87 rfl rfl rfl trivial ?_
     clear S H;intro s52 aa ww h8 H S
     refine OL.zq S (Lf.run_nc (S.ev rfl)) fun _ S=>?_
     refine OL.zf S fa86_1 fun _ S=>?_
     refine ol_sto S H rfl rfl rfl ti84 trivial ?_
     clear S H;intro aa ww h9 H S
     refine OL.nil ?_
     refine W.region ?_
     refine OL.zq S (Lf.run_add (S.ev rfl) (S.ev rfl)) fun _ S=>?_
     refine OL.zm S fun _ S=>?_
     refine OL.nil ?_
     exact⟨((IntKind.i64.wrap (x19+1)),h9),⟨S.sub _ ⟨rfl,rfl,rfl,rfl,trivial⟩,H.1⟩,H.2⟩
   ·
    replace H:=H.2 hb_2
    refine W.exit_ ?_
    refine xhit ?_
    refine W.seq ?_
    refine W.region ?_
    refine OL.zm S fun _ S=>?_
    refine OL.za S fun _ S=>?_
    refine OL.za S fun _ S=>?_
    refine OL.nil ?_
    refine W.ret ?_
    exact Ret.two S rfl rfl rfl H
def L24 (s0:Sv) (h:Heap) (R:Value→Heap→Prop):Prop:=
 ifb (Option.isNone s0.a) (
  R (Value.slice (⟨none,0,0⟩:Sv).a (⟨none,0,0⟩:Sv).n (⟨none,0,0⟩:Sv).c) h) (
  newS 56 #[] 0 h fun s5 h1=>
  appS 56 (Value.agg #[Value.int .i64 0,Value.int .i64 0]).cells 2 16 h1 s5 s0 fun s7 h2=>
  R (Value.slice s7.a s7.n s7.c) h2)
set_option maxRecDepth 100000 in
theorem F24 {s0 h:_} {R:Value→Heap→Prop} (H:L24 s0 h R):CallsH Try.prog 24 #[Value.slice s0.a s0.n s0.c] h R:=by
 refine CallsH.enter (n:=8) Try.func24 rfl rfl rfl rfl ?_
 intro w0 aa ww S
 unfold L24 at H
 refine W.seq ?_
 refine W.region ?_
 refine OL.za S fun _ S=>?_
 refine OL.nil ?_
 refine W.seq ?_
 refine W.seq ?_
 refine W.region ?_
 refine OL.zm S fun _ S=>?_
 refine OL.zq S (Lf.run_eqlsn Try.underlying22 (S.ev rfl) (S.ev rfl)) fun _ S=>?_
 refine OL.nil ?_
 refine W.cond S (b:=(Option.isNone s0.a)) rfl (fun hb=>?_) (fun hb=>?_)
 ·
  replace H:=H.1 hb
  refine W.seq ?_
  refine W.region ?_
  refine OL.za S fun _ S=>?_
  refine OL.nil ?_
  refine W.ret ?_
  exact Ret.one S rfl rfl H
 ·
  replace H:=H.2 hb
  refine W.skip ?_
  refine W.seq ?_
  refine W.region ?_
  refine ol_newS0 S H Try.underlying22 ti56 rfl rfl trivial ?_
  clear S H;intro s5 aa ww h1 H S
  refine OL.zm S fun _ S=>?_
  refine ol_appS S H Try.underlying22 ti56 rfl rfl rfl trivial ?_
  clear S H;intro s7 aa ww h2 H S
  refine OL.za S fun _ S=>?_
  refine OL.nil ?_
  refine W.ret ?_
  exact Ret.one S rfl rfl H
def L25 (s0:Int) (s0_1:Sv) (s0_2:Sv) (s0_3:Int) (s0_4:ByteArray) (s0_5:Bool) (s0_6:Int) (s0_7:Sv) (s0_8:Sv) (needs1:Option Nat) (h:Heap) (R:Value→Heap→Prop):Prop:=
 new 37 #[Value.int .i64 s0,Value.slice s0_1.a s0_1.n s0_1.c,Value.slice s0_2.a s0_2.n s0_2.c,Value.int .i64 s0_3,Value.string s0_4,Value.bool s0_5,Value.int .i64 s0_6,Value.slice s0_7.a s0_7.n s0_7.c,Value.slice s0_8.a s0_8.n s0_8.c] h fun p2 h1=>
 ldS h1 (p2.add 1) fun x9=>
 cal Try.prog 24 #[Value.slice x9.a x9.n x9.c] h1 fun u h2=>asS u fun x10=>
 ∃(y11:Int) (y11_1:Sv) (y11_2:Sv) (y11_3:Int) (y11_4:ByteArray) (y11_5:Bool) (y11_6:Int) (y11_7:Sv) (y11_8:Sv),cl h2 p2=some (Value.int .i64 y11)∧cl h2 (p2.add 1)=some (Value.slice y11_1.a y11_1.n y11_1.c)∧cl h2 (p2.add 2)=some (Value.slice y11_2.a y11_2.n y11_2.c)∧cl h2 (p2.add 3)=some (Value.int .i64 y11_3)∧cl h2 (p2.add 4)=some (Value.string y11_4)∧cl h2 (p2.add 5)=some (Value.bool y11_5)∧cl h2 (p2.add 6)=some (Value.int .i64 y11_6)∧cl h2 (p2.add 7)=some (Value.slice y11_7.a y11_7.n y11_7.c)∧cl h2 (p2.add 8)=some (Value.slice y11_8.a y11_8.n y11_8.c) ∧
 cal Try.prog 40 #[Value.agg #[Value.int .i64 y11,Value.slice y11_1.a y11_1.n y11_1.c,Value.slice y11_2.a y11_2.n y11_2.c,Value.int .i64 y11_3,Value.string y11_4,Value.bool y11_5,Value.int .i64 y11_6,Value.slice y11_7.a y11_7.n y11_7.c,Value.slice y11_8.a y11_8.n y11_8.c]] h2 fun u_1 h3=>asS u_1 fun x12=>
 ∃(I:Sv→Int→Heap→Prop) (m:Sv→Int→Heap→Nat),I x10 0 h3∧∀l5 x14 h4,I l5 x14 h4 →
 ifb (decide (x14<((x12.n:Nat):Int))) (
  ixS x12 x14 fun q16=>
  ∃(y17:Int) (y17_1:ByteArray) (y17_2:Bool) (y17_3:Int) (y17_4:Sv) (y17_5:Sv),cl h4 (q16.add ((x14:Int).toNat*6))=some (Value.int .i64 y17)∧cl h4 ((q16.add ((x14:Int).toNat*6)).add 1)=some (Value.string y17_1)∧cl h4 ((q16.add ((x14:Int).toNat*6)).add 2)=some (Value.bool y17_2)∧cl h4 ((q16.add ((x14:Int).toNat*6)).add 3)=some (Value.int .i64 y17_3)∧cl h4 ((q16.add ((x14:Int).toNat*6)).add 4)=some (Value.slice y17_4.a y17_4.n y17_4.c)∧cl h4 ((q16.add ((x14:Int).toNat*6)).add 5)=some (Value.slice y17_5.a y17_5.n y17_5.c) ∧
  new 35 #[Value.int .i64 0,Value.string (⟨#[]⟩:ByteArray),Value.bool false,Value.int .i64 0,Value.slice (⟨none,0,0⟩:Sv).a (⟨none,0,0⟩:Sv).n (⟨none,0,0⟩:Sv).c,Value.slice (⟨none,0,0⟩:Sv).a (⟨none,0,0⟩:Sv).n (⟨none,0,0⟩:Sv).c] h4 fun p7 h5=>
  stoA h5 p7 [Value.int .i64 y17,Value.string y17_1,Value.bool y17_2,Value.int .i64 y17_3,Value.slice y17_4.a y17_4.n y17_4.c,Value.slice y17_5.a y17_5.n y17_5.c] fun h6=>
  ∃(y19:Int) (y19_1:ByteArray) (y19_2:Bool) (y19_3:Int) (y19_4:Sv) (y19_5:Sv),cl h6 p7=some (Value.int .i64 y19)∧cl h6 (p7.add 1)=some (Value.string y19_1)∧cl h6 (p7.add 2)=some (Value.bool y19_2)∧cl h6 (p7.add 3)=some (Value.int .i64 y19_3)∧cl h6 (p7.add 4)=some (Value.slice y19_4.a y19_4.n y19_4.c)∧cl h6 (p7.add 5)=some (Value.slice y19_5.a y19_5.n y19_5.c) ∧
  cal Try.prog 44 #[Value.agg #[Value.int .i64 y19,Value.string y19_1,Value.bool y19_2,Value.int .i64 y19_3,Value.slice y19_4.a y19_4.n y19_4.c,Value.slice y19_5.a y19_5.n y19_5.c],Value.map needs1] h6 fun u_2 h7=>asS u_2 fun x21=>
  appS 56 (Value.agg #[Value.int .i64 0,Value.int .i64 0]).cells 2 16 h7 l5 x21 fun s22 h8=>
  I s22 (IntKind.i64.wrap (x14+1)) h8∧m s22 (IntKind.i64.wrap (x14+1)) h8<m l5 x14 h4) (
  R (Value.slice l5.a l5.n l5.c) h4)
set_option maxRecDepth 100000 in
theorem F25 {s0 s0_1 s0_2 s0_3 s0_4 s0_5 s0_6 s0_7 s0_8 needs1 h:_} {R:Value→Heap→Prop} (H:L25 s0 s0_1 s0_2 s0_3 s0_4 s0_5 s0_6 s0_7 s0_8 needs1 h R):CallsH Try.prog 25 #[Value.agg #[Value.int .i64 s0,Value.slice s0_1.a s0_1.n s0_1.c,Value.slice s0_2.a s0_2.n s0_2.c,Value.int .i64 s0_3,Value.string s0_4,Value.bool s0_5,Value.int .i64 s0_6,Value.slice s0_7.a s0_7.n s0_7.c,Value.slice s0_8.a s0_8.n s0_8.c],Value.map needs1] h R:=by
 refine CallsH.enter (n:=25) Try.func25 rfl rfl rfl rfl ?_
 intro w0 aa ww S
 unfold L25 at H
 refine W.seq ?_
 refine W.region ?_
 refine ol_box S H rfl rfl rfl trivial ?_
 clear S H;intro p2 aa ww h1 H S
 refine OL.za S fun _ S=>?_
 refine OL.nil ?_
 refine W.seq ?_
 refine W.region ?_
 refine OL.zf S fa37_1 fun _ S=>?_
 obtain⟨x9,c,H⟩:=H
 refine OL.zl S fl22 c fun _ S=>?_
 refine ol_cal S H isfn24 rfl rfl trivial ?_
 clear S H;intro u aa ww h2 H S
 obtain⟨x10,rfl,H⟩:=H
 refine OL.za S fun _ S=>?_
 refine OL.nil ?_
 refine W.seq ?_
 refine W.seq ?_
 refine W.region ?_
 obtain⟨y11,y11_1,y11_2,y11_3,y11_4,y11_5,y11_6,y11_7,y11_8,c_16,c_17,c_18,c_19,c_20,c_21,c_22,c_23,c_24,H⟩:=H
 refine OL.zq S (Lf.run_ldA (cs:=[Value.int .i64 y11,Value.slice y11_1.a y11_1.n y11_1.c,Value.slice y11_2.a y11_2.n y11_2.c,Value.int .i64 y11_3,Value.string y11_4,Value.bool y11_5,Value.int .i64 y11_6,Value.slice y11_7.a y11_7.n y11_7.c,Value.slice y11_8.a y11_8.n y11_8.c]) (S.ev rfl) ag37 ti37 (by rw[S.heap];exact RowL.toRow ⟨c_16,c_17,c_18,c_19,c_20,c_21,c_22,c_23,c_24,trivial⟩)) fun _ S=>?_
 refine ol_cal S H isfn40 rfl rfl trivial ?_
 clear S H;intro u_1 aa ww h3 H S
 obtain⟨x12,rfl,H⟩:=H
 refine OL.zq S (Lf.run_lens (S.ev rfl) rfl Try.underlying24) fun _ S=>?_
 refine OL.zm S fun _ S=>?_
 refine OL.nil ?_
 refine W.block ?_
 obtain⟨I,m,H,HB⟩:=H
 refine W.loopS (σ:=Sv×Int×Heap) (fun s aa ww=>St 25 [(1,Value.map needs1),(5,Value.slice s.1.a s.1.n s.1.c),(12,Value.slice x12.a x12.n x12.c),(13,Value.int .i64 ((x12.n:Nat):Int)),(14,Value.int .i64 s.2.1)] s.2.2 w0 aa ww∧I s.1 s.2.1 s.2.2) (fun s=>m s.1 s.2.1 s.2.2) (x10,0,h3) ⟨S.sub _ ⟨rfl,rfl,rfl,rfl,rfl,trivial⟩,H⟩ ?_
 clear H S
 rintro ⟨l5,x14,h4⟩ aa ww ⟨S,HI⟩
 replace S:St 25 [(1,Value.map needs1),(5,Value.slice l5.a l5.n l5.c),(12,Value.slice x12.a x12.n x12.c),(13,Value.int .i64 ((x12.n:Nat):Int)),(14,Value.int .i64 x14)] h4 w0 aa ww:=S
 have H:=HB l5 x14 h4 HI
 clear HI
 refine W.seq ?_
 refine W.region ?_
 refine OL.zq S (Lf.run_lss (S.ev rfl) (S.ev rfl)) fun _ S=>?_
 refine OL.nil ?_
 refine W.seq ?_
 refine W.cond S (b:=(decide (x14<((x12.n:Nat):Int)))) rfl (fun hb=>?_) (fun hb=>?_)
 ·
  replace H:=H.1 hb
  refine W.skip ?_
  refine W.seq ?_
  refine W.block ?_
  refine W.seq ?_
  refine W.region ?_
  obtain⟨q16,e,e_1,e_2,H⟩:=H
  refine OL.zq S (Lf.run_ixs (S.ev rfl) (S.ev rfl) Try.underlying24 ti35 e e_1 e_2) fun _ S=>?_
  obtain⟨y17,y17_1,y17_2,y17_3,y17_4,y17_5,c_10,c_11,c_12,c_13,c_14,c_15,H⟩:=H
  refine OL.zq S (Lf.run_ldA (cs:=[Value.int .i64 y17,Value.string y17_1,Value.bool y17_2,Value.int .i64 y17_3,Value.slice y17_4.a y17_4.n y17_4.c,Value.slice y17_5.a y17_5.n y17_5.c]) (S.ev rfl) ag35 ti35 (by rw[S.heap];exact RowL.toRow ⟨c_10,c_11,c_12,c_13,c_14,c_15,trivial⟩)) fun _ S=>?_
  refine ol_alloc S H ti35 rfl rfl trivial ?_
  clear S H;intro p7 aa ww h5 H S
  refine ol_stoA S H rfl rfl ti35 trivial ?_
  clear S H;intro aa ww h6 H S
  refine OL.nil ?_
  refine W.region ?_
  refine OL.zm S fun _ S=>?_
  obtain⟨y19,y19_1,y19_2,y19_3,y19_4,y19_5,c_4,c_5,c_6,c_7,c_8,c_9,H⟩:=H
  refine OL.zq S (Lf.run_ldA (cs:=[Value.int .i64 y19,Value.string y19_1,Value.bool y19_2,Value.int .i64 y19_3,Value.slice y19_4.a y19_4.n y19_4.c,Value.slice y19_5.a y19_5.n y19_5.c]) (S.ev rfl) ag35 ti35 (by rw[S.heap];exact RowL.toRow ⟨c_4,c_5,c_6,c_7,c_8,c_9,trivial⟩)) fun _ S=>?_
  refine OL.zm S fun _ S=>?_
  refine ol_cal S H isfn44 rfl rfl trivial ?_
  clear S H;intro u_2 aa ww h7 H S
  obtain⟨x21,rfl,H⟩:=H
  refine ol_appS S H Try.underlying22 ti56 rfl rfl rfl trivial ?_
  clear S H;intro s22 aa ww h8 H S
  refine OL.za S fun _ S=>?_
  refine OL.nil ?_
  refine W.region ?_
  refine OL.zq S (Lf.run_add (S.ev rfl) (S.ev rfl)) fun _ S=>?_
  refine OL.zm S fun _ S=>?_
  refine OL.nil ?_
  exact⟨(s22,(IntKind.i64.wrap (x14+1)),h8),⟨S.sub _ ⟨rfl,rfl,rfl,rfl,rfl,trivial⟩,H.1⟩,H.2⟩
 ·
  replace H:=H.2 hb
  refine W.exit_ ?_
  refine xhit ?_
  refine W.seq ?_
  refine W.region ?_
  refine OL.zm S fun _ S=>?_
  refine OL.za S fun _ S=>?_
  refine OL.nil ?_
  refine W.ret ?_
  exact Ret.one S rfl rfl H
def L26 (r0:Option Addr) (a1:Int) (b2:Int) (h:Heap) (R:Value→Heap→Prop):Prop:=
 cal Try.prog 45 #[Value.pointer r0,Value.int .i64 a1] h fun u h1=>asB u fun x11=>
 ∃J:Bool→Heap→Prop,(orj (!x11) (fun k=>
  cal Try.prog 45 #[Value.pointer r0,Value.int .i64 b2] h1 fun u_1 h3=>asB u_1 fun x16=>
  k (!x16) h3) h1 J)∧∀x18 h2,J x18 h2 →
 ifb x18 (
  R (Value.int .i64 14) h2) (
  nn r0 fun p20=>
  ldS h2 (p20.add 1) fun x22=>
  ixS x22 a1 fun q24=>
  ldS h2 (q24.add ((a1:Int).toNat*1)) fun x25=>
  ixS x25 b2 fun q27=>
  ldB h2 (q27.add ((b2:Int).toNat*1)) fun x28=>
  ifb x28 (
   R (Value.int .i64 0) h2) (
   nn r0 fun p30=>
   ldS h2 (p30.add 1) fun x32=>
   ∃(I:Int→Heap→Prop) (m:Int→Heap→Nat),I 0 h2∧∀x34 h4,I x34 h4 →
   ifb (decide (x34<((x32.n:Nat):Int))) (
    ∃J_1:Heap→Prop,(
     nn r0 fun p38=>
     ldS h4 (p38.add 1) fun x40=>
     ixS x40 x34 fun q42=>
     ldS h4 (q42.add ((x34:Int).toNat*1)) fun x43=>
     ixS x43 a1 fun q45=>
     ldB h4 (q45.add ((a1:Int).toNat*1)) fun x46=>
     ifb (!x46) (
      J_1 h4) (
      nn r0 fun p49=>
      ldS h4 (p49.add 1) fun x51=>
      ixS x51 x34 fun q53=>
      ldS h4 (q53.add ((x34:Int).toNat*1)) fun x54=>
      ∃(I_1:Int→Heap→Prop) (m_1:Int→Heap→Nat),I_1 0 h4∧∀x56 h5,I_1 x56 h5 →
      ifb (decide (x56<((x54.n:Nat):Int))) (
       ∃J_2:Heap→Prop,(
        nn r0 fun p60=>
        ldS h5 (p60.add 1) fun x62=>
        ixS x62 x34 fun q64=>
        ldS h5 (q64.add ((x34:Int).toNat*1)) fun x65=>
        nn r0 fun p68=>
        ldS h5 (p68.add 1) fun x70=>
        ixS x70 x34 fun q72=>
        ldS h5 (q72.add ((x34:Int).toNat*1)) fun x73=>
        ixS x73 x56 fun q75=>
        ldB h5 (q75.add ((x56:Int).toNat*1)) fun x76=>
        ifb x76 (
         ixS x65 x56 fun q89_1=>
         sto h5 (q89_1.add ((x56:Int).toNat*1)) (Value.bool true) fun h7=>
         J_2 h7) (
         nn r0 fun p79=>
         ldS h5 (p79.add 1) fun x81=>
         ixS x81 b2 fun q83=>
         ldS h5 (q83.add ((b2:Int).toNat*1)) fun x84=>
         ixS x84 x56 fun q86=>
         ldB h5 (q86.add ((x56:Int).toNat*1)) fun x87=>
         ixS x65 x56 fun q89=>
         sto h5 (q89.add ((x56:Int).toNat*1)) (Value.bool x87) fun h6=>
         J_2 h6))∧(∀h8,J_2 h8 →
       I_1 (IntKind.i64.wrap (x56+1)) h8∧m_1 (IntKind.i64.wrap (x56+1)) h8<m_1 x56 h5)) (
       J_1 h5)))∧(∀h9,J_1 h9 →
    I (IntKind.i64.wrap (x34+1)) h9∧m (IntKind.i64.wrap (x34+1)) h9<m x34 h4)) (
    R (Value.int .i64 0) h4)))
set_option maxRecDepth 100000 in
theorem F26 {r0 a1 b2 h:_} {R:Value→Heap→Prop} (H:L26 r0 a1 b2 h R):CallsH Try.prog 26 #[Value.pointer r0,Value.int .i64 a1,Value.int .i64 b2] h R:=by
 refine CallsH.enter (n:=92) Try.func26 rfl rfl rfl rfl ?_
 intro w0 aa ww S
 unfold L26 at H
 refine W.seq ?_
 refine W.region ?_
 refine OL.za S fun _ S=>?_
 refine OL.nil ?_
 refine W.seq ?_
 refine W.seq ?_
 refine W.region ?_
 refine OL.zm S fun _ S=>?_
 refine OL.zm S fun _ S=>?_
 refine ol_cal S H isfn45 rfl rfl trivial ?_
 clear S H;intro u aa ww h1 H S
 obtain⟨x11,rfl,H⟩:=H
 refine OL.zq S (Lf.run_not (S.ev rfl)) fun _ S=>?_
 refine OL.zm S fun _ S=>?_
 obtain⟨J,H,HK⟩:=H
 refine OL.cutN 5 (fun aa ww=>∃x18 h2,St 92 ((18,Value.bool x18) :: [(0,Value.pointer r0),(1,Value.int .i64 a1),(2,Value.int .i64 b2),(9,Value.pointer r0),(10,Value.int .i64 a1),(11,Value.bool x11),(12,Value.bool (!x11)),(13,Value.bool (!x11))]) h2 w0 aa ww∧J x18 h2) ?_ ?_
 ·
  rcases Bool.eq_false_or_eq_true (!x11) with hb|hb
  ·
   replace H:=H.1 hb
   refine OL.zn S (GNo.mk rfl rfl hb) fun _ S=>?_
   refine OL.zn S (GNo.mk rfl rfl hb) fun _ S=>?_
   refine OL.zn S (GNo.mk rfl rfl hb) fun _ S=>?_
   refine OL.zn S (GNo.mk rfl rfl hb) fun _ S=>?_
   refine OL.zq S (Lf.run_pickT (S.ev rfl) hb (S.ev rfl)) fun _ S=>?_
   refine OL.nil ?_
   exact⟨_,_,S.sub _ ⟨rfl,rfl,rfl,rfl,rfl,rfl,rfl,rfl,rfl,trivial⟩,H⟩
  ·
   replace H:=H.2 hb
   refine OL.zm (hg:=GOk.mk rfl rfl hb) S fun _ S=>?_
   refine OL.zm (hg:=GOk.mk rfl rfl hb) S fun _ S=>?_
   refine ol_cal S H isfn45 rfl rfl (GOk.mk rfl rfl hb) ?_
   clear S H;intro u_1 aa ww h3 H S
   obtain⟨x16,rfl,H⟩:=H
   refine OL.zq (hg:=GOk.mk rfl rfl hb) S (Lf.run_not (S.ev rfl)) fun _ S=>?_
   refine OL.zq S (Lf.run_pickF (S.ev rfl) hb (S.ev rfl)) fun _ S=>?_
   refine OL.nil ?_
   exact⟨_,_,S.sub _ ⟨rfl,rfl,rfl,rfl,rfl,rfl,rfl,rfl,rfl,trivial⟩,H⟩
 ·
  clear S
  rintro aa ww ⟨x18,h2,S,HJ⟩
  replace H:=HK _ _ HJ
  clear HK HJ
  refine OL.nil ?_
  refine W.cond S (b:=x18) rfl (fun hb_1=>?_) (fun hb_1=>?_)
  ·
   replace H:=H.1 hb_1
   refine W.seq ?_
   refine W.region ?_
   refine OL.za S fun _ S=>?_
   refine OL.nil ?_
   refine W.ret ?_
   exact Ret.one S rfl rfl H
  ·
   replace H:=H.2 hb_1
   refine W.skip ?_
   refine W.seq ?_
   refine W.seq ?_
   refine W.region ?_
   refine OL.zm S fun _ S=>?_
   obtain⟨p20,e,H⟩:=H
   refine OL.zq S (Lf.run_nc' (S.ev rfl) e) fun _ S=>?_
   refine OL.zf S fa86_1 fun _ S=>?_
   obtain⟨x22,c,H⟩:=H
   refine OL.zl S fl84 c fun _ S=>?_
   refine OL.zm S fun _ S=>?_
   obtain⟨q24,e_1,e_2,e_3,H⟩:=H
   refine OL.zq S (Lf.run_ixs (S.ev rfl) (S.ev rfl) Try.underlying84 ti87 e_1 e_2 e_3) fun _ S=>?_
   obtain⟨x25,c_1,H⟩:=H
   refine OL.zl S fl87 c_1 fun _ S=>?_
   refine OL.zm S fun _ S=>?_
   obtain⟨q27,e_4,e_5,e_6,H⟩:=H
   refine OL.zq S (Lf.run_ixs (S.ev rfl) (S.ev rfl) Try.underlying87 ti4 e_4 e_5 e_6) fun _ S=>?_
   obtain⟨x28,c_2,H⟩:=H
   refine OL.zl S fl4 c_2 fun _ S=>?_
   refine OL.nil ?_
   refine W.cond S (b:=x28) rfl (fun hb_2=>?_) (fun hb_2=>?_)
   ·
    replace H:=H.1 hb_2
    refine W.seq ?_
    refine W.region ?_
    refine OL.za S fun _ S=>?_
    refine OL.nil ?_
    refine W.ret ?_
    exact Ret.one S rfl rfl H
   ·
    replace H:=H.2 hb_2
    refine W.skip ?_
    refine W.seq ?_
    refine W.seq ?_
    refine W.region ?_
    refine OL.zm S fun _ S=>?_
    obtain⟨p30,e_7,H⟩:=H
    refine OL.zq S (Lf.run_nc' (S.ev rfl) e_7) fun _ S=>?_
    refine OL.zf S fa86_1 fun _ S=>?_
    obtain⟨x32,c_3,H⟩:=H
    refine OL.zl S fl84 c_3 fun _ S=>?_
    refine OL.zq S (Lf.run_lens (S.ev rfl) rfl Try.underlying84) fun _ S=>?_
    refine OL.zm S fun _ S=>?_
    refine OL.nil ?_
    refine W.block ?_
    obtain⟨I,m,H,HB_1⟩:=H
    refine W.loopS (σ:=Int×Heap) (fun s aa ww=>St 92 [(0,Value.pointer r0),(1,Value.int .i64 a1),(2,Value.int .i64 b2),(33,Value.int .i64 ((x32.n:Nat):Int)),(34,Value.int .i64 s.1)] s.2 w0 aa ww∧I s.1 s.2) (fun s=>m s.1 s.2) (0,h2) ⟨S.sub _ ⟨rfl,rfl,rfl,rfl,rfl,trivial⟩,H⟩ ?_
    clear H S
    rintro ⟨x34,h4⟩ aa ww ⟨S,HI⟩
    replace S:St 92 [(0,Value.pointer r0),(1,Value.int .i64 a1),(2,Value.int .i64 b2),(33,Value.int .i64 ((x32.n:Nat):Int)),(34,Value.int .i64 x34)] h4 w0 aa ww:=S
    have H:=HB_1 x34 h4 HI
    clear HI
    refine W.seq ?_
    refine W.region ?_
    refine OL.zq S (Lf.run_lss (S.ev rfl) (S.ev rfl)) fun _ S=>?_
    refine OL.nil ?_
    refine W.seq ?_
    refine W.cond S (b:=(decide (x34<((x32.n:Nat):Int)))) rfl (fun hb_3=>?_) (fun hb_3=>?_)
    ·
     replace H:=H.1 hb_3
     refine W.skip ?_
     obtain⟨J_1,H,HK_1⟩:=H
     refine W.seqJ (fun aa ww=>∃h9,St 92 [(0,Value.pointer r0),(1,Value.int .i64 a1),(2,Value.int .i64 b2),(33,Value.int .i64 ((x32.n:Nat):Int)),(34,Value.int .i64 x34)] h9 w0 aa ww∧J_1 h9) ?_ ?_
     ·
      clear HK_1
      refine W.block ?_
      refine W.seq ?_
      refine W.region ?_
      refine OL.zm S fun _ S=>?_
      refine OL.za S fun _ S=>?_
      refine OL.nil ?_
      refine W.seq ?_
      refine W.seq ?_
      refine W.region ?_
      refine OL.zm S fun _ S=>?_
      obtain⟨p38,e_8,H⟩:=H
      refine OL.zq S (Lf.run_nc' (S.ev rfl) e_8) fun _ S=>?_
      refine OL.zf S fa86_1 fun _ S=>?_
      obtain⟨x40,c_4,H⟩:=H
      refine OL.zl S fl84 c_4 fun _ S=>?_
      refine OL.zm S fun _ S=>?_
      obtain⟨q42,e_9,e_10,e_11,H⟩:=H
      refine OL.zq S (Lf.run_ixs (S.ev rfl) (S.ev rfl) Try.underlying84 ti87 e_9 e_10 e_11) fun _ S=>?_
      obtain⟨x43,c_5,H⟩:=H
      refine OL.zl S fl87 c_5 fun _ S=>?_
      refine OL.zm S fun _ S=>?_
      obtain⟨q45,e_12,e_13,e_14,H⟩:=H
      refine OL.zq S (Lf.run_ixs (S.ev rfl) (S.ev rfl) Try.underlying87 ti4 e_12 e_13 e_14) fun _ S=>?_
      obtain⟨x46,c_6,H⟩:=H
      refine OL.zl S fl4 c_6 fun _ S=>?_
      refine OL.zq S (Lf.run_not (S.ev rfl)) fun _ S=>?_
      refine OL.nil ?_
      refine W.cond S (b:=(!x46)) rfl (fun hb_4=>?_) (fun hb_4=>?_)
      ·
       replace H:=H.1 hb_4
       refine W.exit_ ?_
       refine xhit ?_
       exact⟨h4,S.sub _ ⟨rfl,rfl,rfl,rfl,rfl,trivial⟩,H⟩
      ·
       replace H:=H.2 hb_4
       refine W.skip ?_
       refine W.seq ?_
       refine W.region ?_
       refine OL.zm S fun _ S=>?_
       obtain⟨p49,e_15,H⟩:=H
       refine OL.zq S (Lf.run_nc' (S.ev rfl) e_15) fun _ S=>?_
       refine OL.zf S fa86_1 fun _ S=>?_
       obtain⟨x51,c_7,H⟩:=H
       refine OL.zl S fl84 c_7 fun _ S=>?_
       refine OL.zm S fun _ S=>?_
       obtain⟨q53,e_16,e_17,e_18,H⟩:=H
       refine OL.zq S (Lf.run_ixs (S.ev rfl) (S.ev rfl) Try.underlying84 ti87 e_16 e_17 e_18) fun _ S=>?_
       obtain⟨x54,c_8,H⟩:=H
       refine OL.zl S fl87 c_8 fun _ S=>?_
       refine OL.zq S (Lf.run_lens (S.ev rfl) rfl Try.underlying87) fun _ S=>?_
       refine OL.zm S fun _ S=>?_
       refine OL.nil ?_
       refine W.block ?_
       obtain⟨I_1,m_1,H,HB⟩:=H
       refine W.loopS (σ:=Int×Heap) (fun s aa ww=>St 92 [(0,Value.pointer r0),(1,Value.int .i64 a1),(2,Value.int .i64 b2),(7,Value.int .i64 x34),(33,Value.int .i64 ((x32.n:Nat):Int)),(34,Value.int .i64 x34),(55,Value.int .i64 ((x54.n:Nat):Int)),(56,Value.int .i64 s.1)] s.2 w0 aa ww∧I_1 s.1 s.2) (fun s=>m_1 s.1 s.2) (0,h4) ⟨S.sub _ ⟨rfl,rfl,rfl,rfl,rfl,rfl,rfl,rfl,trivial⟩,H⟩ ?_
       clear H S
       rintro ⟨x56,h5⟩ aa ww ⟨S,HI⟩
       replace S:St 92 [(0,Value.pointer r0),(1,Value.int .i64 a1),(2,Value.int .i64 b2),(7,Value.int .i64 x34),(33,Value.int .i64 ((x32.n:Nat):Int)),(34,Value.int .i64 x34),(55,Value.int .i64 ((x54.n:Nat):Int)),(56,Value.int .i64 x56)] h5 w0 aa ww:=S
       have H:=HB x56 h5 HI
       clear HI
       refine W.seq ?_
       refine W.region ?_
       refine OL.zq S (Lf.run_lss (S.ev rfl) (S.ev rfl)) fun _ S=>?_
       refine OL.nil ?_
       refine W.seq ?_
       refine W.cond S (b:=(decide (x56<((x54.n:Nat):Int)))) rfl (fun hb_5=>?_) (fun hb_5=>?_)
       ·
        replace H:=H.1 hb_5
        refine W.skip ?_
        refine W.seq ?_
        refine W.block ?_
        refine W.seq ?_
        refine W.region ?_
        refine OL.zm S fun _ S=>?_
        refine OL.za S fun _ S=>?_
        refine OL.nil ?_
        replace S:=S.sub [(0,Value.pointer r0),(1,Value.int .i64 a1),(2,Value.int .i64 b2),(7,Value.int .i64 x34),(8,Value.int .i64 x56),(33,Value.int .i64 ((x32.n:Nat):Int)),(34,Value.int .i64 x34),(55,Value.int .i64 ((x54.n:Nat):Int)),(56,Value.int .i64 x56)] ⟨rfl,rfl,rfl,rfl,rfl,rfl,rfl,rfl,rfl,trivial⟩
        obtain⟨J_2,H,HK_2⟩:=H
        refine W.mono (N':=fun aa ww=>∃h8,St 92 [(0,Value.pointer r0),(1,Value.int .i64 a1),(2,Value.int .i64 b2),(7,Value.int .i64 x34),(33,Value.int .i64 ((x32.n:Nat):Int)),(34,Value.int .i64 x34),(55,Value.int .i64 ((x54.n:Nat):Int)),(56,Value.int .i64 x56)] h8 w0 aa ww∧J_2 h8) ?_ ?_
        ·
         refine W.regionD S (by kernel_rfl) ?_
         clear S;intro ww S
         refine AN.zq 0 S rfl (fun _=>Lf.run_move (S.ev rfl)) fun _ S=>?_
         obtain⟨p60,e_19,H⟩:=H
         refine AN.zq 1 S rfl (fun _=>Lf.run_nc' (S.ev rfl) e_19) fun _ S=>?_
         refine AN.zq 2 S rfl (fun _=>Lf.run_fa (S.ev rfl) fa86_1) fun _ S=>?_
         obtain⟨x62,c_9,H⟩:=H
         refine AN.zl 3 S rfl (fun _ hx=>Lf.run_ld (S.ev rfl) fl84 (hx.cell _ _ (S.cl c_9))) fun _ S=>?_
         refine AN.zq 4 S rfl (fun _=>Lf.run_move (S.ev rfl)) fun _ S=>?_
         obtain⟨q64,e_20,e_21,e_22,H⟩:=H
         refine AN.zq 5 S rfl (fun _=>Lf.run_ixs (S.ev rfl) (S.ev rfl) Try.underlying84 ti87 e_20 e_21 e_22) fun _ S=>?_
         obtain⟨x65,c_10,H⟩:=H
         refine AN.zl 6 S rfl (fun _ hx=>Lf.run_ld (S.ev rfl) fl87 (hx.cell _ _ (S.cl c_10))) fun _ S=>?_
         refine AN.zq 7 S rfl (fun _=>Lf.run_move (S.ev rfl)) fun _ S=>?_
         refine AN.zq 8 S rfl (fun _=>Lf.run_move (S.ev rfl)) fun _ S=>?_
         obtain⟨p68,e_23,H⟩:=H
         refine AN.zq 9 S rfl (fun _=>Lf.run_nc' (S.ev rfl) e_23) fun _ S=>?_
         refine AN.zq 10 S rfl (fun _=>Lf.run_fa (S.ev rfl) fa86_1) fun _ S=>?_
         obtain⟨x70,c_11,H⟩:=H
         refine AN.zl 11 S rfl (fun _ hx=>Lf.run_ld (S.ev rfl) fl84 (hx.cell _ _ (S.cl c_11))) fun _ S=>?_
         refine AN.zq 12 S rfl (fun _=>Lf.run_move (S.ev rfl)) fun _ S=>?_
         obtain⟨q72,e_24,e_25,e_26,H⟩:=H
         refine AN.zq 13 S rfl (fun _=>Lf.run_ixs (S.ev rfl) (S.ev rfl) Try.underlying84 ti87 e_24 e_25 e_26) fun _ S=>?_
         obtain⟨x73,c_12,H⟩:=H
         refine AN.zl 14 S rfl (fun _ hx=>Lf.run_ld (S.ev rfl) fl87 (hx.cell _ _ (S.cl c_12))) fun _ S=>?_
         refine AN.zq 15 S rfl (fun _=>Lf.run_move (S.ev rfl)) fun _ S=>?_
         obtain⟨q75,e_27,e_28,e_29,H⟩:=H
         refine AN.zq 16 S rfl (fun _=>Lf.run_ixs (S.ev rfl) (S.ev rfl) Try.underlying87 ti4 e_27 e_28 e_29) fun _ S=>?_
         obtain⟨x76,c_13,H⟩:=H
         refine AN.zl 17 S rfl (fun _ hx=>Lf.run_ld (S.ev rfl) fl4 (hx.cell _ _ (S.cl c_13))) fun _ S=>?_
         refine AN.zq 18 S rfl (fun _=>Lf.run_move (S.ev rfl)) fun _ S=>?_
         rcases Bool.eq_false_or_eq_true x76 with hb_6|hb_6
         ·
          replace H:=H.1 hb_6
          refine AN.zn 19 S rfl (GNo.mk rfl rfl hb_6) fun _ S=>?_
          refine AN.zn 20 S rfl (GNo.mk rfl rfl hb_6) fun _ S=>?_
          refine AN.zn 21 S rfl (GNo.mk rfl rfl hb_6) fun _ S=>?_
          refine AN.zn 22 S rfl (GNo.mk rfl rfl hb_6) fun _ S=>?_
          refine AN.zn 23 S rfl (GNo.mk rfl rfl hb_6) fun _ S=>?_
          refine AN.zn 24 S rfl (GNo.mk rfl rfl hb_6) fun _ S=>?_
          refine AN.zn 25 S rfl (GNo.mk rfl rfl hb_6) fun _ S=>?_
          refine AN.zn 26 S rfl (GNo.mk rfl rfl hb_6) fun _ S=>?_
          refine AN.zn 27 S rfl (GNo.mk rfl rfl hb_6) fun _ S=>?_
          refine AN.zn 28 S rfl (GNo.mk rfl rfl hb_6) fun _ S=>?_
          refine AN.zq 29 S rfl (fun _=>run_pickT (S.ev rfl) hb_6 (S.ev rfl)) fun _ S=>?_
          obtain⟨q89_1,e_40,e_41,e_42,H⟩:=H
          refine AN.zq 30 S rfl (fun _=>Lf.run_ixs (S.ev rfl) (S.ev rfl) Try.underlying87 ti4 e_40 e_41 e_42) fun _ S=>?_
          refine AN.eff 31 rfl (by kernel_rfl) ?_
          refine ol_sto S H rfl rfl rfl ti4 trivial ?_
          clear S H;intro aa ww h7 H S
          refine OL.nil ?_
          refine AN.done (by kernel_rfl) ?_
          exact⟨h7,S.sub _ ⟨rfl,rfl,rfl,rfl,rfl,rfl,rfl,rfl,trivial⟩,H⟩
         ·
          replace H:=H.2 hb_6
          refine AN.zq (hg:=GOk.mk rfl rfl hb_6) 19 S rfl (fun _=>Lf.run_move (S.ev rfl)) fun _ S=>?_
          obtain⟨p79,e_30,H⟩:=H
          refine AN.zq (hg:=GOk.mk rfl rfl hb_6) 20 S rfl (fun _=>Lf.run_nc' (S.ev rfl) e_30) fun _ S=>?_
          refine AN.zq (hg:=GOk.mk rfl rfl hb_6) 21 S rfl (fun _=>Lf.run_fa (S.ev rfl) fa86_1) fun _ S=>?_
          obtain⟨x81,c_14,H⟩:=H
          refine AN.zl (hg:=GOk.mk rfl rfl hb_6) 22 S rfl (fun _ hx=>Lf.run_ld (S.ev rfl) fl84 (hx.cell _ _ (S.cl c_14))) fun _ S=>?_
          refine AN.zq (hg:=GOk.mk rfl rfl hb_6) 23 S rfl (fun _=>Lf.run_move (S.ev rfl)) fun _ S=>?_
          obtain⟨q83,e_31,e_32,e_33,H⟩:=H
          refine AN.zq (hg:=GOk.mk rfl rfl hb_6) 24 S rfl (fun _=>Lf.run_ixs (S.ev rfl) (S.ev rfl) Try.underlying84 ti87 e_31 e_32 e_33) fun _ S=>?_
          obtain⟨x84,c_15,H⟩:=H
          refine AN.zl (hg:=GOk.mk rfl rfl hb_6) 25 S rfl (fun _ hx=>Lf.run_ld (S.ev rfl) fl87 (hx.cell _ _ (S.cl c_15))) fun _ S=>?_
          refine AN.zq (hg:=GOk.mk rfl rfl hb_6) 26 S rfl (fun _=>Lf.run_move (S.ev rfl)) fun _ S=>?_
          obtain⟨q86,e_34,e_35,e_36,H⟩:=H
          refine AN.zq (hg:=GOk.mk rfl rfl hb_6) 27 S rfl (fun _=>Lf.run_ixs (S.ev rfl) (S.ev rfl) Try.underlying87 ti4 e_34 e_35 e_36) fun _ S=>?_
          obtain⟨x87,c_16,H⟩:=H
          refine AN.zl (hg:=GOk.mk rfl rfl hb_6) 28 S rfl (fun _ hx=>Lf.run_ld (S.ev rfl) fl4 (hx.cell _ _ (S.cl c_16))) fun _ S=>?_
          refine AN.zq 29 S rfl (fun _=>run_pickF (S.ev rfl) hb_6 (S.ev rfl)) fun _ S=>?_
          obtain⟨q89,e_37,e_38,e_39,H⟩:=H
          refine AN.zq 30 S rfl (fun _=>Lf.run_ixs (S.ev rfl) (S.ev rfl) Try.underlying87 ti4 e_37 e_38 e_39) fun _ S=>?_
          refine AN.eff 31 rfl (by kernel_rfl) ?_
          refine ol_sto S H rfl rfl rfl ti4 trivial ?_
          clear S H;intro aa ww h6 H S
          refine OL.nil ?_
          refine AN.done (by kernel_rfl) ?_
          exact⟨h6,S.sub _ ⟨rfl,rfl,rfl,rfl,rfl,rfl,rfl,rfl,trivial⟩,H⟩
        ·
         clear H S
         rintro aa ww ⟨h8,S,HJ⟩
         have H:=HK_2 _ HJ
         clear HK_2 HJ
         refine W.region ?_
         refine OL.zq S (Lf.run_add (S.ev rfl) (S.ev rfl)) fun _ S=>?_
         refine OL.zm S fun _ S=>?_
         refine OL.nil ?_
         exact⟨((IntKind.i64.wrap (x56+1)),h8),⟨S.sub _ ⟨rfl,rfl,rfl,rfl,rfl,rfl,rfl,rfl,trivial⟩,H.1⟩,H.2⟩
       ·
        replace H:=H.2 hb_5
        refine W.exit_ ?_
        refine xhit ?_
        exact⟨h5,S.sub _ ⟨rfl,rfl,rfl,rfl,rfl,trivial⟩,H⟩
     ·
      clear H S
      rintro aa ww ⟨h9,S,HJ⟩
      have H:=HK_1 _ HJ
      clear HK_1 HJ
      refine W.region ?_
      refine OL.zq S (Lf.run_add (S.ev rfl) (S.ev rfl)) fun _ S=>?_
      refine OL.zm S fun _ S=>?_
      refine OL.nil ?_
      exact⟨((IntKind.i64.wrap (x34+1)),h9),⟨S.sub _ ⟨rfl,rfl,rfl,rfl,rfl,trivial⟩,H.1⟩,H.2⟩
    ·
     replace H:=H.2 hb_3
     refine W.exit_ ?_
     refine xhit ?_
     refine W.seq ?_
     refine W.region ?_
     refine OL.za S fun _ S=>?_
     refine OL.nil ?_
     refine W.ret ?_
     exact Ret.one S rfl rfl H
def L27 (vw0:Int) (vw0_1:Sv) (vw0_2:Option Nat) (vw0_3:Option Nat) (a1:Int) (a1_1:Sv) (a1_2:Sv) (a1_3:Int) (a1_4:ByteArray) (a1_5:Bool) (a1_6:Int) (a1_7:Sv) (a1_8:Sv) (b2:Int) (b2_1:Sv) (b2_2:Sv) (b2_3:Int) (b2_4:ByteArray) (b2_5:Bool) (b2_6:Int) (b2_7:Sv) (b2_8:Sv) (h:Heap) (R:Value→Heap→Prop):Prop:=
 new 33 #[Value.int .i64 vw0,Value.slice vw0_1.a vw0_1.n vw0_1.c,Value.map vw0_2,Value.map vw0_3] h fun p3 h1=>
 new 37 #[Value.int .i64 a1,Value.slice a1_1.a a1_1.n a1_1.c,Value.slice a1_2.a a1_2.n a1_2.c,Value.int .i64 a1_3,Value.string a1_4,Value.bool a1_5,Value.int .i64 a1_6,Value.slice a1_7.a a1_7.n a1_7.c,Value.slice a1_8.a a1_8.n a1_8.c] h1 fun p4 h2=>
 new 37 #[Value.int .i64 b2,Value.slice b2_1.a b2_1.n b2_1.c,Value.slice b2_2.a b2_2.n b2_2.c,Value.int .i64 b2_3,Value.string b2_4,Value.bool b2_5,Value.int .i64 b2_6,Value.slice b2_7.a b2_7.n b2_7.c,Value.slice b2_8.a b2_8.n b2_8.c] h2 fun p5 h3=>
 ldS h3 (p4.add 2) fun x15=>
 ldS h3 (p5.add 2) fun x18=>
 ifb (((x15.n:Nat):Int) != ((x18.n:Nat):Int)) (
  R (.tuple #[Value.slice (⟨none,0,0⟩:Sv).a (⟨none,0,0⟩:Sv).n (⟨none,0,0⟩:Sv).c,Value.bool false]) h3) (
  ∃(y21:Int) (y21_1:Sv) (y21_2:Sv) (y21_3:Int) (y21_4:ByteArray) (y21_5:Bool) (y21_6:Int) (y21_7:Sv) (y21_8:Sv),cl h3 p4=some (Value.int .i64 y21)∧cl h3 (p4.add 1)=some (Value.slice y21_1.a y21_1.n y21_1.c)∧cl h3 (p4.add 2)=some (Value.slice y21_2.a y21_2.n y21_2.c)∧cl h3 (p4.add 3)=some (Value.int .i64 y21_3)∧cl h3 (p4.add 4)=some (Value.string y21_4)∧cl h3 (p4.add 5)=some (Value.bool y21_5)∧cl h3 (p4.add 6)=some (Value.int .i64 y21_6)∧cl h3 (p4.add 7)=some (Value.slice y21_7.a y21_7.n y21_7.c)∧cl h3 (p4.add 8)=some (Value.slice y21_8.a y21_8.n y21_8.c) ∧
  ldM h3 (p3.add 3) fun x23=>
  cal Try.prog 25 #[Value.agg #[Value.int .i64 y21,Value.slice y21_1.a y21_1.n y21_1.c,Value.slice y21_2.a y21_2.n y21_2.c,Value.int .i64 y21_3,Value.string y21_4,Value.bool y21_5,Value.int .i64 y21_6,Value.slice y21_7.a y21_7.n y21_7.c,Value.slice y21_8.a y21_8.n y21_8.c],Value.map x23] h3 fun u h4=>asS u fun x24=>
  ldS h4 (p4.add 2) fun x26=>
  ∃(I:Sv→Int→Heap→Prop) (m:Sv→Int→Heap→Nat),I x24 0 h4∧∀l8 x28 h5,I l8 x28 h5 →
  ifb (decide (x28<((x26.n:Nat):Int))) (
   ldM h5 (p3.add 2) fun x33=>
   ldS h5 (p5.add 2) fun x35=>
   ixS x35 x28 fun q37=>
   ∃(y38:Int) (y38_1:ByteArray) (y38_2:Bool) (y38_3:Int) (y38_4:Sv) (y38_5:Sv),cl h5 (q37.add ((x28:Int).toNat*6))=some (Value.int .i64 y38)∧cl h5 ((q37.add ((x28:Int).toNat*6)).add 1)=some (Value.string y38_1)∧cl h5 ((q37.add ((x28:Int).toNat*6)).add 2)=some (Value.bool y38_2)∧cl h5 ((q37.add ((x28:Int).toNat*6)).add 3)=some (Value.int .i64 y38_3)∧cl h5 ((q37.add ((x28:Int).toNat*6)).add 4)=some (Value.slice y38_4.a y38_4.n y38_4.c)∧cl h5 ((q37.add ((x28:Int).toNat*6)).add 5)=some (Value.slice y38_5.a y38_5.n y38_5.c) ∧
   ldS h5 (p4.add 2) fun x40=>
   ixS x40 x28 fun q42=>
   ∃(y43:Int) (y43_1:ByteArray) (y43_2:Bool) (y43_3:Int) (y43_4:Sv) (y43_5:Sv),cl h5 (q42.add ((x28:Int).toNat*6))=some (Value.int .i64 y43)∧cl h5 ((q42.add ((x28:Int).toNat*6)).add 1)=some (Value.string y43_1)∧cl h5 ((q42.add ((x28:Int).toNat*6)).add 2)=some (Value.bool y43_2)∧cl h5 ((q42.add ((x28:Int).toNat*6)).add 3)=some (Value.int .i64 y43_3)∧cl h5 ((q42.add ((x28:Int).toNat*6)).add 4)=some (Value.slice y43_4.a y43_4.n y43_4.c)∧cl h5 ((q42.add ((x28:Int).toNat*6)).add 5)=some (Value.slice y43_5.a y43_5.n y43_5.c) ∧
   cal Try.prog 46 #[Value.map x33,Value.agg #[Value.int .i64 y38,Value.string y38_1,Value.bool y38_2,Value.int .i64 y38_3,Value.slice y38_4.a y38_4.n y38_4.c,Value.slice y38_5.a y38_5.n y38_5.c],Value.agg #[Value.int .i64 y43,Value.string y43_1,Value.bool y43_2,Value.int .i64 y43_3,Value.slice y43_4.a y43_4.n y43_4.c,Value.slice y43_5.a y43_5.n y43_5.c]] h5 fun u_1 h6=>∃(x44:Sv) (x44_1:Bool),u_1=Value.tuple #[Value.slice x44.a x44.n x44.c,Value.bool x44_1] ∧
   ifb (!x44_1) (
    R (.tuple #[Value.slice (⟨none,0,0⟩:Sv).a (⟨none,0,0⟩:Sv).n (⟨none,0,0⟩:Sv).c,Value.bool false]) h6) (
    appS 56 (Value.agg #[Value.int .i64 0,Value.int .i64 0]).cells 2 16 h6 l8 x44 fun s51 h7=>
    I s51 (IntKind.i64.wrap (x28+1)) h7∧m s51 (IntKind.i64.wrap (x28+1)) h7<m l8 x28 h5)) (
   ldM h5 (p3.add 2) fun x55=>
   ∃(y57:Int) (y57_1:ByteArray) (y57_2:Bool) (y57_3:Int) (y57_4:Sv) (y57_5:Sv),cl h5 (p4.add 3)=some (Value.int .i64 y57)∧cl h5 ((p4.add 3).add 1)=some (Value.string y57_1)∧cl h5 ((p4.add 3).add 2)=some (Value.bool y57_2)∧cl h5 ((p4.add 3).add 3)=some (Value.int .i64 y57_3)∧cl h5 ((p4.add 3).add 4)=some (Value.slice y57_4.a y57_4.n y57_4.c)∧cl h5 ((p4.add 3).add 5)=some (Value.slice y57_5.a y57_5.n y57_5.c) ∧
   ∃(y59:Int) (y59_1:ByteArray) (y59_2:Bool) (y59_3:Int) (y59_4:Sv) (y59_5:Sv),cl h5 (p5.add 3)=some (Value.int .i64 y59)∧cl h5 ((p5.add 3).add 1)=some (Value.string y59_1)∧cl h5 ((p5.add 3).add 2)=some (Value.bool y59_2)∧cl h5 ((p5.add 3).add 3)=some (Value.int .i64 y59_3)∧cl h5 ((p5.add 3).add 4)=some (Value.slice y59_4.a y59_4.n y59_4.c)∧cl h5 ((p5.add 3).add 5)=some (Value.slice y59_5.a y59_5.n y59_5.c) ∧
   cal Try.prog 46 #[Value.map x55,Value.agg #[Value.int .i64 y57,Value.string y57_1,Value.bool y57_2,Value.int .i64 y57_3,Value.slice y57_4.a y57_4.n y57_4.c,Value.slice y57_5.a y57_5.n y57_5.c],Value.agg #[Value.int .i64 y59,Value.string y59_1,Value.bool y59_2,Value.int .i64 y59_3,Value.slice y59_4.a y59_4.n y59_4.c,Value.slice y59_5.a y59_5.n y59_5.c]] h5 fun u_2 h8=>∃(x60:Sv) (x60_1:Bool),u_2=Value.tuple #[Value.slice x60.a x60.n x60.c,Value.bool x60_1] ∧
   appS 56 (Value.agg #[Value.int .i64 0,Value.int .i64 0]).cells 2 16 h8 l8 x60 fun s65 h9=>
   R (.tuple #[Value.slice s65.a s65.n s65.c,Value.bool x60_1]) h9))
set_option maxRecDepth 100000 in
theorem F27 {vw0 vw0_1 vw0_2 vw0_3 a1 a1_1 a1_2 a1_3 a1_4 a1_5 a1_6 a1_7 a1_8 b2 b2_1 b2_2 b2_3 b2_4 b2_5 b2_6 b2_7 b2_8 h:_} {R:Value→Heap→Prop} (H:L27 vw0 vw0_1 vw0_2 vw0_3 a1 a1_1 a1_2 a1_3 a1_4 a1_5 a1_6 a1_7 a1_8 b2 b2_1 b2_2 b2_3 b2_4 b2_5 b2_6 b2_7 b2_8 h R):CallsH Try.prog 27 #[Value.agg #[Value.int .i64 vw0,Value.slice vw0_1.a vw0_1.n vw0_1.c,Value.map vw0_2,Value.map vw0_3],Value.agg #[Value.int .i64 a1,Value.slice a1_1.a a1_1.n a1_1.c,Value.slice a1_2.a a1_2.n a1_2.c,Value.int .i64 a1_3,Value.string a1_4,Value.bool a1_5,Value.int .i64 a1_6,Value.slice a1_7.a a1_7.n a1_7.c,Value.slice a1_8.a a1_8.n a1_8.c],Value.agg #[Value.int .i64 b2,Value.slice b2_1.a b2_1.n b2_1.c,Value.slice b2_2.a b2_2.n b2_2.c,Value.int .i64 b2_3,Value.string b2_4,Value.bool b2_5,Value.int .i64 b2_6,Value.slice b2_7.a b2_7.n b2_7.c,Value.slice b2_8.a b2_8.n b2_8.c]] h R:=by
 refine CallsH.enter (n:=67) Try.func27 rfl rfl rfl rfl ?_
 intro w0 aa ww S
 unfold L27 at H
 refine W.seq ?_
 refine W.region ?_
 refine ol_box S H rfl rfl rfl trivial ?_
 clear S H;intro p3 aa ww h1 H S
 refine ol_box S H rfl rfl rfl trivial ?_
 clear S H;intro p4 aa ww h2 H S
 refine ol_box S H rfl rfl rfl trivial ?_
 clear S H;intro p5 aa ww h3 H S
 refine OL.za S fun _ S=>?_
 refine OL.za S fun _ S=>?_
 refine OL.nil ?_
 refine W.seq ?_
 refine W.seq ?_
 refine W.region ?_
 refine OL.zf S fa37_2 fun _ S=>?_
 obtain⟨x15,c,H⟩:=H
 refine OL.zl S fl24 c fun _ S=>?_
 refine OL.zq S (Lf.run_lens (S.ev rfl) rfl Try.underlying24) fun _ S=>?_
 refine OL.zf S fa37_2 fun _ S=>?_
 obtain⟨x18,c_1,H⟩:=H
 refine OL.zl S fl24 c_1 fun _ S=>?_
 refine OL.zq S (Lf.run_lens (S.ev rfl) rfl Try.underlying24) fun _ S=>?_
 refine OL.zq S (Lf.run_neq (S.ev rfl) (S.ev rfl)) fun _ S=>?_
 refine OL.nil ?_
 refine W.cond S (b:=(((x15.n:Nat):Int) != ((x18.n:Nat):Int))) rfl (fun hb=>?_) (fun hb=>?_)
 ·
  replace H:=H.1 hb
  refine W.seq ?_
  refine W.region ?_
  refine OL.za S fun _ S=>?_
  refine OL.za S fun _ S=>?_
  refine OL.nil ?_
  refine W.ret ?_
  exact Ret.two S rfl rfl rfl H
 ·
  replace H:=H.2 hb
  refine W.skip ?_
  refine W.seq ?_
  refine W.region ?_
  obtain⟨y21,y21_1,y21_2,y21_3,y21_4,y21_5,y21_6,y21_7,y21_8,c_37,c_38,c_39,c_40,c_41,c_42,c_43,c_44,c_45,H⟩:=H
  refine OL.zq S (Lf.run_ldA (cs:=[Value.int .i64 y21,Value.slice y21_1.a y21_1.n y21_1.c,Value.slice y21_2.a y21_2.n y21_2.c,Value.int .i64 y21_3,Value.string y21_4,Value.bool y21_5,Value.int .i64 y21_6,Value.slice y21_7.a y21_7.n y21_7.c,Value.slice y21_8.a y21_8.n y21_8.c]) (S.ev rfl) ag37 ti37 (by rw[S.heap];exact RowL.toRow ⟨c_37,c_38,c_39,c_40,c_41,c_42,c_43,c_44,c_45,trivial⟩)) fun _ S=>?_
  refine OL.zf S fa33_3 fun _ S=>?_
  obtain⟨x23,c_3,H⟩:=H
  refine OL.zl S fl31 c_3 fun _ S=>?_
  refine ol_cal S H isfn25 rfl rfl trivial ?_
  clear S H;intro u aa ww h4 H S
  obtain⟨x24,rfl,H⟩:=H
  refine OL.za S fun _ S=>?_
  refine OL.nil ?_
  refine W.seq ?_
  refine W.seq ?_
  refine W.region ?_
  refine OL.zf S fa37_2 fun _ S=>?_
  obtain⟨x26,c_4,H⟩:=H
  refine OL.zl S fl24 c_4 fun _ S=>?_
  refine OL.zq S (Lf.run_lens (S.ev rfl) rfl Try.underlying24) fun _ S=>?_
  refine OL.zm S fun _ S=>?_
  refine OL.nil ?_
  refine W.block ?_
  obtain⟨I,m,H,HB⟩:=H
  refine W.loopS (σ:=Sv×Int×Heap) (fun s aa ww=>St 67 [(3,Value.pointer (some p3)),(4,Value.pointer (some p4)),(5,Value.pointer (some p5)),(8,Value.slice s.1.a s.1.n s.1.c),(27,Value.int .i64 ((x26.n:Nat):Int)),(28,Value.int .i64 s.2.1)] s.2.2 w0 aa ww∧I s.1 s.2.1 s.2.2) (fun s=>m s.1 s.2.1 s.2.2) (x24,0,h4) ⟨S.sub _ ⟨rfl,rfl,rfl,rfl,rfl,rfl,trivial⟩,H⟩ ?_
  clear H S
  rintro ⟨l8,x28,h5⟩ aa ww ⟨S,HI⟩
  replace S:St 67 [(3,Value.pointer (some p3)),(4,Value.pointer (some p4)),(5,Value.pointer (some p5)),(8,Value.slice l8.a l8.n l8.c),(27,Value.int .i64 ((x26.n:Nat):Int)),(28,Value.int .i64 x28)] h5 w0 aa ww:=S
  have H:=HB l8 x28 h5 HI
  clear HI
  refine W.seq ?_
  refine W.region ?_
  refine OL.zq S (Lf.run_lss (S.ev rfl) (S.ev rfl)) fun _ S=>?_
  refine OL.nil ?_
  refine W.seq ?_
  refine W.cond S (b:=(decide (x28<((x26.n:Nat):Int)))) rfl (fun hb_1=>?_) (fun hb_1=>?_)
  ·
   replace H:=H.1 hb_1
   refine W.skip ?_
   refine W.seq ?_
   refine W.block ?_
   refine W.seq ?_
   refine W.region ?_
   refine OL.zm S fun _ S=>?_
   refine OL.za S fun _ S=>?_
   refine OL.nil ?_
   refine W.seq ?_
   replace S:=S.sub [(3,Value.pointer (some p3)),(4,Value.pointer (some p4)),(5,Value.pointer (some p5)),(8,Value.slice l8.a l8.n l8.c),(9,Value.int .i64 x28),(27,Value.int .i64 ((x26.n:Nat):Int)),(28,Value.int .i64 x28)] ⟨rfl,rfl,rfl,rfl,rfl,rfl,rfl,trivial⟩
   refine W.regionD S (by kernel_rfl) ?_
   clear S;intro ww S
   refine AN.zq 0 S rfl (fun _=>Lf.run_fa (S.ev rfl) fa33_2) fun _ S=>?_
   obtain⟨x33,c_5,H⟩:=H
   refine AN.zl 1 S rfl (fun _ hx=>Lf.run_ld (S.ev rfl) fl29 (hx.cell _ _ (S.cl c_5))) fun _ S=>?_
   refine AN.zq 2 S rfl (fun _=>Lf.run_fa (S.ev rfl) fa37_2) fun _ S=>?_
   obtain⟨x35,c_6,H⟩:=H
   refine AN.zl 3 S rfl (fun _ hx=>Lf.run_ld (S.ev rfl) fl24 (hx.cell _ _ (S.cl c_6))) fun _ S=>?_
   refine AN.zq 4 S rfl (fun _=>Lf.run_move (S.ev rfl)) fun _ S=>?_
   obtain⟨q37,e,e_1,e_2,H⟩:=H
   refine AN.zq 5 S rfl (fun _=>Lf.run_ixs (S.ev rfl) (S.ev rfl) Try.underlying24 ti35 e e_1 e_2) fun _ S=>?_
   obtain⟨y38,y38_1,y38_2,y38_3,y38_4,y38_5,c_16,c_17,c_18,c_19,c_20,c_21,H⟩:=H
   refine AN.zl 6 S rfl (fun _ hx=>Lf.run_ldA (cs:=[Value.int .i64 y38,Value.string y38_1,Value.bool y38_2,Value.int .i64 y38_3,Value.slice y38_4.a y38_4.n y38_4.c,Value.slice y38_5.a y38_5.n y38_5.c]) (S.ev rfl) ag35 ti35 (hx.row (S.row ⟨c_16,c_17,c_18,c_19,c_20,c_21,trivial⟩))) fun _ S=>?_
   refine AN.zq 7 S rfl (fun _=>Lf.run_fa (S.ev rfl) fa37_2) fun _ S=>?_
   obtain⟨x40,c_8,H⟩:=H
   refine AN.zl 8 S rfl (fun _ hx=>Lf.run_ld (S.ev rfl) fl24 (hx.cell _ _ (S.cl c_8))) fun _ S=>?_
   refine AN.zq 9 S rfl (fun _=>Lf.run_move (S.ev rfl)) fun _ S=>?_
   obtain⟨q42,e_3,e_4,e_5,H⟩:=H
   refine AN.zq 10 S rfl (fun _=>Lf.run_ixs (S.ev rfl) (S.ev rfl) Try.underlying24 ti35 e_3 e_4 e_5) fun _ S=>?_
   obtain⟨y43,y43_1,y43_2,y43_3,y43_4,y43_5,c_10,c_11,c_12,c_13,c_14,c_15,H⟩:=H
   refine AN.zl 11 S rfl (fun _ hx=>Lf.run_ldA (cs:=[Value.int .i64 y43,Value.string y43_1,Value.bool y43_2,Value.int .i64 y43_3,Value.slice y43_4.a y43_4.n y43_4.c,Value.slice y43_5.a y43_5.n y43_5.c]) (S.ev rfl) ag35 ti35 (hx.row (S.row ⟨c_10,c_11,c_12,c_13,c_14,c_15,trivial⟩))) fun _ S=>?_
   refine AN.eff 12 rfl (by kernel_rfl) ?_
   refine ol_cal S H isfn46 rfl rfl trivial ?_
   clear S H;intro u_1 aa ww h6 H S
   obtain⟨x44,x44_1,rfl,H⟩:=H
   refine OL.nil ?_
   refine AN.zq 13 S rfl (fun _=>Lf.run_move (S.ev rfl)) fun _ S=>?_
   refine AN.zq 14 S rfl (fun _=>Lf.run_ex (S.ev rfl) rfl) fun _ S=>?_
   refine AN.zq 15 S rfl (fun _=>Lf.run_ex (S.ev rfl) rfl) fun _ S=>?_
   refine AN.zq 16 S rfl (fun _=>Lf.run_assign (S.ev rfl)) fun _ S=>?_
   refine AN.zq 17 S rfl (fun _=>Lf.run_assign (S.ev rfl)) fun _ S=>?_
   refine AN.done (by kernel_rfl) ?_
   refine W.seq ?_
   refine W.seq ?_
   refine W.region ?_
   refine OL.zm S fun _ S=>?_
   refine OL.zq S (Lf.run_not (S.ev rfl)) fun _ S=>?_
   refine OL.nil ?_
   refine W.cond S (b:=(!x44_1)) rfl (fun hb_2=>?_) (fun hb_2=>?_)
   ·
    replace H:=H.1 hb_2
    refine W.seq ?_
    refine W.region ?_
    refine OL.za S fun _ S=>?_
    refine OL.za S fun _ S=>?_
    refine OL.nil ?_
    refine W.ret ?_
    exact Ret.two S rfl rfl rfl H
   ·
    replace H:=H.2 hb_2
    refine W.skip ?_
    refine W.region ?_
    refine OL.zm S fun _ S=>?_
    refine OL.zm S fun _ S=>?_
    refine ol_appS S H Try.underlying22 ti56 rfl rfl rfl trivial ?_
    clear S H;intro s51 aa ww h7 H S
    refine OL.za S fun _ S=>?_
    refine OL.nil ?_
    refine W.region ?_
    refine OL.zq S (Lf.run_add (S.ev rfl) (S.ev rfl)) fun _ S=>?_
    refine OL.zm S fun _ S=>?_
    refine OL.nil ?_
    exact⟨(s51,(IntKind.i64.wrap (x28+1)),h7),⟨S.sub _ ⟨rfl,rfl,rfl,rfl,rfl,rfl,trivial⟩,H.1⟩,H.2⟩
  ·
   replace H:=H.2 hb_1
   refine W.exit_ ?_
   refine xhit ?_
   refine W.seq ?_
   refine W.region ?_
   refine OL.zf S fa33_2 fun _ S=>?_
   obtain⟨x55,c_22,H⟩:=H
   refine OL.zl S fl29 c_22 fun _ S=>?_
   refine OL.zf S fa37_3 fun _ S=>?_
   obtain⟨y57,y57_1,y57_2,y57_3,y57_4,y57_5,c_31,c_32,c_33,c_34,c_35,c_36,H⟩:=H
   refine OL.zq S (Lf.run_ldA (cs:=[Value.int .i64 y57,Value.string y57_1,Value.bool y57_2,Value.int .i64 y57_3,Value.slice y57_4.a y57_4.n y57_4.c,Value.slice y57_5.a y57_5.n y57_5.c]) (S.ev rfl) ag35 ti35 (by rw[S.heap];exact RowL.toRow ⟨c_31,c_32,c_33,c_34,c_35,c_36,trivial⟩)) fun _ S=>?_
   refine OL.zf S fa37_3 fun _ S=>?_
   obtain⟨y59,y59_1,y59_2,y59_3,y59_4,y59_5,c_25,c_26,c_27,c_28,c_29,c_30,H⟩:=H
   refine OL.zq S (Lf.run_ldA (cs:=[Value.int .i64 y59,Value.string y59_1,Value.bool y59_2,Value.int .i64 y59_3,Value.slice y59_4.a y59_4.n y59_4.c,Value.slice y59_5.a y59_5.n y59_5.c]) (S.ev rfl) ag35 ti35 (by rw[S.heap];exact RowL.toRow ⟨c_25,c_26,c_27,c_28,c_29,c_30,trivial⟩)) fun _ S=>?_
   refine ol_cal S H isfn46 rfl rfl trivial ?_
   clear S H;intro u_2 aa ww h8 H S
   obtain⟨x60,x60_1,rfl,H⟩:=H
   refine OL.zm S fun _ S=>?_
   refine OL.zq S (Lf.run_ex (S.ev rfl) rfl) fun _ S=>?_
   refine OL.zq S (Lf.run_ex (S.ev rfl) rfl) fun _ S=>?_
   refine OL.za S fun _ S=>?_
   refine OL.za S fun _ S=>?_
   refine OL.nil ?_
   refine W.seq ?_
   refine W.region ?_
   refine OL.zm S fun _ S=>?_
   refine OL.zm S fun _ S=>?_
   refine ol_appS S H Try.underlying22 ti56 rfl rfl rfl trivial ?_
   clear S H;intro s65 aa ww h9 H S
   refine OL.zm S fun _ S=>?_
   refine OL.za S fun _ S=>?_
   refine OL.za S fun _ S=>?_
   refine OL.nil ?_
   refine W.ret ?_
   exact Ret.two S rfl rfl rfl H
def L28 (s0:Int) (s0_1:Sv) (s0_2:Sv) (s0_3:Int) (s0_4:ByteArray) (s0_5:Bool) (s0_6:Int) (s0_7:Sv) (s0_8:Sv) (free1:Int) (vby2:Int) (h:Heap) (R:Value→Heap→Prop):Prop:=
 new 37 #[Value.int .i64 s0,Value.slice s0_1.a s0_1.n s0_1.c,Value.slice s0_2.a s0_2.n s0_2.c,Value.int .i64 s0_3,Value.string s0_4,Value.bool s0_5,Value.int .i64 s0_6,Value.slice s0_7.a s0_7.n s0_7.c,Value.slice s0_8.a s0_8.n s0_8.c] h fun p3 h1=>
 new 3 #[Value.int .i64 free1] h1 fun p4 h2=>
 new 3 #[Value.int .i64 vby2] h2 fun p5 h3=>
 new 37 #[Value.int .i64 0,Value.slice (⟨none,0,0⟩:Sv).a (⟨none,0,0⟩:Sv).n (⟨none,0,0⟩:Sv).c,Value.slice (⟨none,0,0⟩:Sv).a (⟨none,0,0⟩:Sv).n (⟨none,0,0⟩:Sv).c,Value.int .i64 0,Value.string (⟨#[]⟩:ByteArray),Value.bool false,Value.int .i64 0,Value.slice (⟨none,0,0⟩:Sv).a (⟨none,0,0⟩:Sv).n (⟨none,0,0⟩:Sv).c,Value.slice (⟨none,0,0⟩:Sv).a (⟨none,0,0⟩:Sv).n (⟨none,0,0⟩:Sv).c] h3 fun p6 h4=>
 ∃T:Heap→Heap→Prop,Pre T ∧
 hlI .i64 (T h4) p3 fun x15=>
 ∃(y17:Int) (y17_1:ByteArray) (y17_2:Bool) (y17_3:Int) (y17_4:Sv) (y17_5:Sv),hld (T h4) (p3.add 3) (Value.int .i64 y17)∧hld (T h4) ((p3.add 3).add 1) (Value.string y17_1)∧hld (T h4) ((p3.add 3).add 2) (Value.bool y17_2)∧hld (T h4) ((p3.add 3).add 3) (Value.int .i64 y17_3)∧hld (T h4) ((p3.add 3).add 4) (Value.slice y17_4.a y17_4.n y17_4.c)∧hld (T h4) ((p3.add 3).add 5) (Value.slice y17_5.a y17_5.n y17_5.c) ∧
 ∃Fq5:Int→ByteArray→Bool→Int→Sv→Sv→Nat→Nat→Heap→Prop,(∀y19 y19_1 y19_2 y19_3 y19_4 y19_5 lo hi h h',T h h'→Fq5 y19 y19_1 y19_2 y19_3 y19_4 y19_5 lo hi h→Fq5 y19 y19_1 y19_2 y19_3 y19_4 y19_5 lo hi h') ∧
 ∃Fq7:Addr→Nat→Nat→Heap→Prop,(∀p8 lo hi h h',T h h'→Fq7 p8 lo hi h→Fq7 p8 lo hi h') ∧
 (∀(h5:Heap),T h4 h5 →
  cal Try.prog 48 #[Value.agg #[Value.int .i64 y17,Value.string y17_1,Value.bool y17_2,Value.int .i64 y17_3,Value.slice y17_4.a y17_4.n y17_4.c,Value.slice y17_5.a y17_5.n y17_5.c],(Value.func (.func 47) #[] #[Value.pointer (some p4),Value.pointer (some p5)])] h5 fun u h6=>∃(y19:Int) (y19_1:ByteArray) (y19_2:Bool) (y19_3:Int) (y19_4:Sv) (y19_5:Sv),u=Value.agg #[Value.int .i64 y19,Value.string y19_1,Value.bool y19_2,Value.int .i64 y19_3,Value.slice y19_4.a y19_4.n y19_4.c,Value.slice y19_5.a y19_5.n y19_5.c] ∧
  T h5 h6∧Fq5 y19 y19_1 y19_2 y19_3 y19_4 y19_5 h5.size h6.size h6) ∧
 (∀(h11:Heap),T h4 h11 →
  new 37 #[Value.int .i64 0,Value.slice (⟨none,0,0⟩:Sv).a (⟨none,0,0⟩:Sv).n (⟨none,0,0⟩:Sv).c,Value.slice (⟨none,0,0⟩:Sv).a (⟨none,0,0⟩:Sv).n (⟨none,0,0⟩:Sv).c,Value.int .i64 0,Value.string (⟨#[]⟩:ByteArray),Value.bool false,Value.int .i64 0,Value.slice (⟨none,0,0⟩:Sv).a (⟨none,0,0⟩:Sv).n (⟨none,0,0⟩:Sv).c,Value.slice (⟨none,0,0⟩:Sv).a (⟨none,0,0⟩:Sv).n (⟨none,0,0⟩:Sv).c] h11 fun p8 h12=>
  T h11 h12∧Fq7 p8 h11.size h12.size h12) ∧
 (∀(y19:Int) (y19_1:ByteArray) (y19_2:Bool) (y19_3:Int) (y19_4:Sv) (y19_5:Sv) (lo5 hi5:Nat) (p8:Addr) (lo7 hi7:Nat) (h15:Heap),T h4 h15→Dis h4.size h15.size [(lo5,hi5),(lo7,hi7)]→Fq5 y19 y19_1 y19_2 y19_3 y19_4 y19_5 lo5 hi5 h15→Fq7 p8 lo7 hi7 h15 →
 stoA h15 p8 [Value.int .i64 x15,Value.slice (⟨none,0,0⟩:Sv).a (⟨none,0,0⟩:Sv).n (⟨none,0,0⟩:Sv).c,Value.slice (⟨none,0,0⟩:Sv).a (⟨none,0,0⟩:Sv).n (⟨none,0,0⟩:Sv).c,Value.int .i64 y19,Value.string y19_1,Value.bool y19_2,Value.int .i64 y19_3,Value.slice y19_4.a y19_4.n y19_4.c,Value.slice y19_5.a y19_5.n y19_5.c] fun h16=>
 ldS h16 (p3.add 1) fun x22=>
 ∃(I:Int→Heap→Prop) (m:Int→Heap→Nat),I 0 h16∧∀x24 h17,I x24 h17 →
 ifb (decide (x24<((x22.n:Nat):Int))) (
  ixS x22 x24 fun q26=>
  ∃(y27:Int) (y27_1:Int),cl h17 (q26.add ((x24:Int).toNat*2))=some (Value.int .i64 y27)∧cl h17 ((q26.add ((x24:Int).toNat*2)).add 1)=some (Value.int .i64 y27_1) ∧
  new 56 #[Value.int .i64 0,Value.int .i64 0] h17 fun p10 h18=>
  stoA h18 p10 [Value.int .i64 y27,Value.int .i64 y27_1] fun h19=>
  ∃Sq:Heap→Prop,Sq h19∧(
   ldI .i64 h19 p10 fun x32=>
   hlS Sq (p8.add 1) fun x29=>
   hlI .i64 Sq (p10.add 1) fun x36=>
   calV Try.prog (Value.func (.func 47) #[] #[Value.pointer (some p4),Value.pointer (some p5)]) #[Value.int .i64 x32] h19 fun u_2 h20=>asI .i64 u_2 fun x33=>
   Sq h20 ∧
   calV Try.prog (Value.func (.func 47) #[] #[Value.pointer (some p4),Value.pointer (some p5)]) #[Value.int .i64 x36] h20 fun u_3 h21=>asI .i64 u_3 fun x37=>
   Sq h21 ∧
   newS 56 #[Value.int .i64 x33,Value.int .i64 x37] 1 h21 fun s39 h22=>
   Sq h22 ∧
   appS 56 (Value.agg #[Value.int .i64 0,Value.int .i64 0]).cells 2 16 h22 x29 s39 fun s40 h23=>
   sto h23 (p8.add 1) (Value.slice s40.a s40.n s40.c) fun h24=>
   I (IntKind.i64.wrap (x24+1)) h24∧m (IntKind.i64.wrap (x24+1)) h24<m x24 h17)) (
  ldS h17 (p3.add 2) fun x44=>
  ∃(I_1:Int→Heap→Prop) (m_1:Int→Heap→Nat),I_1 0 h17∧∀x46 h25,I_1 x46 h25 →
  ifb (decide (x46<((x44.n:Nat):Int))) (
   ixS x44 x46 fun q48=>
   ∃(y49:Int) (y49_1:ByteArray) (y49_2:Bool) (y49_3:Int) (y49_4:Sv) (y49_5:Sv),cl h25 (q48.add ((x46:Int).toNat*6))=some (Value.int .i64 y49)∧cl h25 ((q48.add ((x46:Int).toNat*6)).add 1)=some (Value.string y49_1)∧cl h25 ((q48.add ((x46:Int).toNat*6)).add 2)=some (Value.bool y49_2)∧cl h25 ((q48.add ((x46:Int).toNat*6)).add 3)=some (Value.int .i64 y49_3)∧cl h25 ((q48.add ((x46:Int).toNat*6)).add 4)=some (Value.slice y49_4.a y49_4.n y49_4.c)∧cl h25 ((q48.add ((x46:Int).toNat*6)).add 5)=some (Value.slice y49_5.a y49_5.n y49_5.c) ∧
   new 35 #[Value.int .i64 0,Value.string (⟨#[]⟩:ByteArray),Value.bool false,Value.int .i64 0,Value.slice (⟨none,0,0⟩:Sv).a (⟨none,0,0⟩:Sv).n (⟨none,0,0⟩:Sv).c,Value.slice (⟨none,0,0⟩:Sv).a (⟨none,0,0⟩:Sv).n (⟨none,0,0⟩:Sv).c] h25 fun p12 h26=>
   stoA h26 p12 [Value.int .i64 y49,Value.string y49_1,Value.bool y49_2,Value.int .i64 y49_3,Value.slice y49_4.a y49_4.n y49_4.c,Value.slice y49_5.a y49_5.n y49_5.c] fun h27=>
   ∃Sq_1:Heap→Prop,Sq_1 h27∧(
    ∃(y52:Int) (y52_1:ByteArray) (y52_2:Bool) (y52_3:Int) (y52_4:Sv) (y52_5:Sv),cl h27 p12=some (Value.int .i64 y52)∧cl h27 (p12.add 1)=some (Value.string y52_1)∧cl h27 (p12.add 2)=some (Value.bool y52_2)∧cl h27 (p12.add 3)=some (Value.int .i64 y52_3)∧cl h27 (p12.add 4)=some (Value.slice y52_4.a y52_4.n y52_4.c)∧cl h27 (p12.add 5)=some (Value.slice y52_5.a y52_5.n y52_5.c) ∧
    hlS Sq_1 (p8.add 2) fun x51=>
    cal Try.prog 48 #[Value.agg #[Value.int .i64 y52,Value.string y52_1,Value.bool y52_2,Value.int .i64 y52_3,Value.slice y52_4.a y52_4.n y52_4.c,Value.slice y52_5.a y52_5.n y52_5.c],(Value.func (.func 47) #[] #[Value.pointer (some p4),Value.pointer (some p5)])] h27 fun u_4 h28=>∃(y54:Int) (y54_1:ByteArray) (y54_2:Bool) (y54_3:Int) (y54_4:Sv) (y54_5:Sv),u_4=Value.agg #[Value.int .i64 y54,Value.string y54_1,Value.bool y54_2,Value.int .i64 y54_3,Value.slice y54_4.a y54_4.n y54_4.c,Value.slice y54_5.a y54_5.n y54_5.c] ∧
    Sq_1 h28 ∧
    newS 35 #[Value.int .i64 y54,Value.string y54_1,Value.bool y54_2,Value.int .i64 y54_3,Value.slice y54_4.a y54_4.n y54_4.c,Value.slice y54_5.a y54_5.n y54_5.c] 1 h28 fun s55 h29=>
    Sq_1 h29 ∧
    appS 35 (Value.agg #[Value.int .i64 0,Value.string (⟨#[]⟩:ByteArray),Value.bool false,Value.int .i64 0,Value.slice (⟨none,0,0⟩:Sv).a (⟨none,0,0⟩:Sv).n (⟨none,0,0⟩:Sv).c,Value.slice (⟨none,0,0⟩:Sv).a (⟨none,0,0⟩:Sv).n (⟨none,0,0⟩:Sv).c]).cells 6 88 h29 x51 s55 fun s56 h30=>
    sto h30 (p8.add 2) (Value.slice s56.a s56.n s56.c) fun h31=>
    I_1 (IntKind.i64.wrap (x46+1)) h31∧m_1 (IntKind.i64.wrap (x46+1)) h31<m_1 x46 h25)) (
   ∃(y59:Int) (y59_1:Sv) (y59_2:Sv) (y59_3:Int) (y59_4:ByteArray) (y59_5:Bool) (y59_6:Int) (y59_7:Sv) (y59_8:Sv),cl h25 p8=some (Value.int .i64 y59)∧cl h25 (p8.add 1)=some (Value.slice y59_1.a y59_1.n y59_1.c)∧cl h25 (p8.add 2)=some (Value.slice y59_2.a y59_2.n y59_2.c)∧cl h25 (p8.add 3)=some (Value.int .i64 y59_3)∧cl h25 (p8.add 4)=some (Value.string y59_4)∧cl h25 (p8.add 5)=some (Value.bool y59_5)∧cl h25 (p8.add 6)=some (Value.int .i64 y59_6)∧cl h25 (p8.add 7)=some (Value.slice y59_7.a y59_7.n y59_7.c)∧cl h25 (p8.add 8)=some (Value.slice y59_8.a y59_8.n y59_8.c) ∧
   stoA h25 p6 [Value.int .i64 y59,Value.slice y59_1.a y59_1.n y59_1.c,Value.slice y59_2.a y59_2.n y59_2.c,Value.int .i64 y59_3,Value.string y59_4,Value.bool y59_5,Value.int .i64 y59_6,Value.slice y59_7.a y59_7.n y59_7.c,Value.slice y59_8.a y59_8.n y59_8.c] fun h32=>
   ∃(y:Int) (y_1:Sv) (y_2:Sv) (y_3:Int) (y_4:ByteArray) (y_5:Bool) (y_6:Int) (y_7:Sv) (y_8:Sv),cl h32 p6=some (Value.int .i64 y)∧cl h32 (p6.add 1)=some (Value.slice y_1.a y_1.n y_1.c)∧cl h32 (p6.add 2)=some (Value.slice y_2.a y_2.n y_2.c)∧cl h32 (p6.add 3)=some (Value.int .i64 y_3)∧cl h32 (p6.add 4)=some (Value.string y_4)∧cl h32 (p6.add 5)=some (Value.bool y_5)∧cl h32 (p6.add 6)=some (Value.int .i64 y_6)∧cl h32 (p6.add 7)=some (Value.slice y_7.a y_7.n y_7.c)∧cl h32 (p6.add 8)=some (Value.slice y_8.a y_8.n y_8.c) ∧
   R (Value.agg #[Value.int .i64 y,Value.slice y_1.a y_1.n y_1.c,Value.slice y_2.a y_2.n y_2.c,Value.int .i64 y_3,Value.string y_4,Value.bool y_5,Value.int .i64 y_6,Value.slice y_7.a y_7.n y_7.c,Value.slice y_8.a y_8.n y_8.c]) h32)))
set_option maxRecDepth 100000 in
theorem F28 {s0 s0_1 s0_2 s0_3 s0_4 s0_5 s0_6 s0_7 s0_8 free1 vby2 h:_} {R:Value→Heap→Prop} (H:L28 s0 s0_1 s0_2 s0_3 s0_4 s0_5 s0_6 s0_7 s0_8 free1 vby2 h R):CallsH Try.prog 28 #[Value.agg #[Value.int .i64 s0,Value.slice s0_1.a s0_1.n s0_1.c,Value.slice s0_2.a s0_2.n s0_2.c,Value.int .i64 s0_3,Value.string s0_4,Value.bool s0_5,Value.int .i64 s0_6,Value.slice s0_7.a s0_7.n s0_7.c,Value.slice s0_8.a s0_8.n s0_8.c],Value.int .i64 free1,Value.int .i64 vby2] h R:=by
 refine CallsH.enter (n:=60) Try.func28 rfl rfl rfl rfl ?_
 intro w0 aa ww S
 unfold L28 at H
 refine W.seq ?_
 refine W.region ?_
 refine ol_box S H rfl rfl rfl trivial ?_
 clear S H;intro p3 aa ww h1 H S
 refine ol_box S H rfl rfl rfl trivial ?_
 clear S H;intro p4 aa ww h2 H S
 refine ol_box S H rfl rfl rfl trivial ?_
 clear S H;intro p5 aa ww h3 H S
 refine ol_alloc S H ti37 rfl rfl trivial ?_
 clear S H;intro p6 aa ww h4 H S
 refine OL.nil ?_
 refine W.seq ?_
 refine W.region ?_
 refine OL.zq S (Lf.run_mf (evs_map S rfl)) fun _ S=>?_
 refine OL.za S fun _ S=>?_
 refine OL.nil ?_
 refine W.seq ?_
 replace S:=S.sub [(3,Value.pointer (some p3)),(6,Value.pointer (some p6)),(7,(Value.func (.func 47) #[] #[Value.pointer (some p4),Value.pointer (some p5)]))] ⟨rfl,rfl,rfl,trivial⟩
 refine W.regionD S (by kernel_rfl) ?_
 clear S;intro ww S
 refine AN.zq 0 S rfl (fun _=>Lf.run_fa (S.ev rfl) fa37_0) fun _ S=>?_
 refine AN.zq 2 S rfl (fun _=>Lf.run_fa (S.ev rfl) fa37_3) fun _ S=>?_
 refine AN.zq 4 S rfl (fun _=>Lf.run_move (S.ev rfl)) fun _ S=>?_
 obtain⟨T,hT,H⟩:=H
 obtain⟨x15,c,H⟩:=H
 obtain⟨y17,y17_1,y17_2,y17_3,y17_4,y17_5,c_1,c_2,c_3,c_4,c_5,c_6,H⟩:=H
 obtain⟨Fq5,sq,H⟩:=H
 obtain⟨Fq7,sq_1,H⟩:=H
 obtain⟨Oq,Oq_1,H⟩:=H
 let gq1:GOp:=⟨1,15,false,[1],fun lq=>Value.int .i64 x15,fun _ _ _ _=>True⟩
 let gq3:GOp:=⟨3,17,false,[3],fun lq=>Value.agg #[Value.int .i64 y17,Value.string y17_1,Value.bool y17_2,Value.int .i64 y17_3,Value.slice y17_4.a y17_4.n y17_4.c,Value.slice y17_5.a y17_5.n y17_5.c],fun _ _ _ _=>True⟩
 let gq5:GOp:=⟨5,19,true,[5],fun lq=>Value.agg #[Value.int .i64 (pI (pC 0 (nth lq 0))),Value.string (pT (pC 1 (nth lq 0))),Value.bool (pB (pC 2 (nth lq 0))),Value.int .i64 (pI (pC 3 (nth lq 0))),Value.slice (pS (pC 4 (nth lq 0))).a (pS (pC 4 (nth lq 0))).n (pS (pC 4 (nth lq 0))).c,Value.slice (pS (pC 5 (nth lq 0))).a (pS (pC 5 (nth lq 0))).n (pS (pC 5 (nth lq 0))).c],fun lq lo hi h=>Fq5 (pI (pC 0 (nth lq 0))) (pT (pC 1 (nth lq 0))) (pB (pC 2 (nth lq 0))) (pI (pC 3 (nth lq 0))) (pS (pC 4 (nth lq 0))) (pS (pC 5 (nth lq 0))) lo hi h⟩
 let gq6:GOp:=⟨6,20,false,[6,5],fun lq=>Value.agg #[Value.int .i64 x15,Value.slice (⟨none,0,0⟩:Sv).a (⟨none,0,0⟩:Sv).n (⟨none,0,0⟩:Sv).c,Value.slice (⟨none,0,0⟩:Sv).a (⟨none,0,0⟩:Sv).n (⟨none,0,0⟩:Sv).c,Value.int .i64 (pI (pC 0 (nth lq 1))),Value.string (pT (pC 1 (nth lq 1))),Value.bool (pB (pC 2 (nth lq 1))),Value.int .i64 (pI (pC 3 (nth lq 1))),Value.slice (pS (pC 4 (nth lq 1))).a (pS (pC 4 (nth lq 1))).n (pS (pC 4 (nth lq 1))).c,Value.slice (pS (pC 5 (nth lq 1))).a (pS (pC 5 (nth lq 1))).n (pS (pC 5 (nth lq 1))).c],fun _ _ _ _=>True⟩
 let gq7:GOp:=⟨7,8,true,[7],fun lq=>Value.pointer (some (pA (nth lq 0))),fun lq lo hi h=>Fq7 (pA (nth lq 0)) lo hi h⟩
 replace S:=S.sub [(3,Value.pointer (some p3)),(6,Value.pointer (some p6)),(7,(Value.func (.func 47) #[] #[Value.pointer (some p4),Value.pointer (some p5)])),(14,Value.pointer (some p3)),(16,Value.pointer (some (p3.add 3))),(18,(Value.func (.func 47) #[] #[Value.pointer (some p4),Value.pointer (some p5)]))] ⟨rfl,rfl,rfl,rfl,rfl,rfl,trivial⟩
 refine AN.group (fuel:=1) T hT [(gq1,[]),(gq3,[]),(gq5,[gq3]),(gq6,[gq1,gq5]),(gq7,[])] [(1,15,[1],[]),(3,17,[3],[]),(5,19,[5],[3]),(6,20,[6,5],[1,5]),(7,8,[7],[])] [3,6,7,14,16,18] S rfl rfl (by kernel_rfl) (by simp) ⟨?_,?_,?_,?_,?_,trivial⟩ ?_
 ·
  refine⟨_,rfl,rfl,fun _ _ _ _ _ _ _=>trivial,?_⟩
  intro Xg Bg aa ww h33 Ef S hTg hok
  replace S:St 60 ((3,Value.pointer (some p3)) :: (6,Value.pointer (some p6)) :: (7,(Value.func (.func 47) #[] #[Value.pointer (some p4),Value.pointer (some p5)])) :: (14,Value.pointer (some p3)) :: (16,Value.pointer (some (p3.add 3))) :: (18,(Value.func (.func 47) #[] #[Value.pointer (some p4),Value.pointer (some p5)])) :: Ef) h33 w0 aa ww:=S
  refine OL.zq S (Lf.run_ld (S.ev rfl) fl3 (S.cl (c _ hTg))) fun _ S=>?_
  refine OL.nil ?_
  exact⟨undef,_,S,hT.refl _,trivial⟩
 ·
  refine⟨_,rfl,rfl,fun _ _ _ _ _ _ _=>trivial,?_⟩
  intro Xg Bg aa ww h34 Ef S hTg hok
  replace S:St 60 ((3,Value.pointer (some p3)) :: (6,Value.pointer (some p6)) :: (7,(Value.func (.func 47) #[] #[Value.pointer (some p4),Value.pointer (some p5)])) :: (14,Value.pointer (some p3)) :: (16,Value.pointer (some (p3.add 3))) :: (18,(Value.func (.func 47) #[] #[Value.pointer (some p4),Value.pointer (some p5)])) :: Ef) h34 w0 aa ww:=S
  refine OL.zq S (Lf.run_ldA (cs:=[Value.int .i64 y17,Value.string y17_1,Value.bool y17_2,Value.int .i64 y17_3,Value.slice y17_4.a y17_4.n y17_4.c,Value.slice y17_5.a y17_5.n y17_5.c]) (S.ev rfl) ag35 ti35 (by rw[S.heap];exact RowL.toRow ⟨c_1 _ hTg,c_2 _ hTg,c_3 _ hTg,c_4 _ hTg,c_5 _ hTg,c_6 _ hTg,trivial⟩)) fun _ S=>?_
  refine OL.nil ?_
  exact⟨undef,_,S,hT.refl _,trivial⟩
 ·
  refine⟨_,rfl,rfl,fun _ _ _ _ _ ht hf=>sq _ _ _ _ _ _ _ _ _ _ ht hf,?_⟩
  intro Xg Bg aa ww h7 Ef S hTg hok
  obtain⟨kq3,-⟩:=hok
  replace S:St 60 ((17,Value.agg #[Value.int .i64 y17,Value.string y17_1,Value.bool y17_2,Value.int .i64 y17_3,Value.slice y17_4.a y17_4.n y17_4.c,Value.slice y17_5.a y17_5.n y17_5.c]) :: (3,Value.pointer (some p3)) :: (6,Value.pointer (some p6)) :: (7,(Value.func (.func 47) #[] #[Value.pointer (some p4),Value.pointer (some p5)])) :: (14,Value.pointer (some p3)) :: (16,Value.pointer (some (p3.add 3))) :: (18,(Value.func (.func 47) #[] #[Value.pointer (some p4),Value.pointer (some p5)])) :: Ef) h7 w0 aa ww:=S
  have H:=Oq h7 hTg
  refine ol_cal S H isfn48 rfl rfl trivial ?_
  clear S H;intro u_1 aa ww h8 H S
  obtain⟨y19_6,y19_7,y19_8,y19_9,y19_10,y19_11,rfl,H⟩:=H
  refine OL.nil ?_
  exact⟨Value.agg #[Value.int .i64 y19_6,Value.string y19_7,Value.bool y19_8,Value.int .i64 y19_9,Value.slice y19_10.a y19_10.n y19_10.c,Value.slice y19_11.a y19_11.n y19_11.c],_,S,H.1,H.2⟩
 ·
  refine⟨_,rfl,rfl,fun _ _ _ _ _ _ _=>trivial,?_⟩
  intro Xg Bg aa ww h10 Ef S hTg hok
  obtain⟨kq1,kq5,-⟩:=hok
  replace S:St 60 ((15,Value.int .i64 x15) :: (19,Value.agg #[Value.int .i64 (pI (pC 0 (Xg 5))),Value.string (pT (pC 1 (Xg 5))),Value.bool (pB (pC 2 (Xg 5))),Value.int .i64 (pI (pC 3 (Xg 5))),Value.slice (pS (pC 4 (Xg 5))).a (pS (pC 4 (Xg 5))).n (pS (pC 4 (Xg 5))).c,Value.slice (pS (pC 5 (Xg 5))).a (pS (pC 5 (Xg 5))).n (pS (pC 5 (Xg 5))).c]) :: (3,Value.pointer (some p3)) :: (6,Value.pointer (some p6)) :: (7,(Value.func (.func 47) #[] #[Value.pointer (some p4),Value.pointer (some p5)])) :: (14,Value.pointer (some p3)) :: (16,Value.pointer (some (p3.add 3))) :: (18,(Value.func (.func 47) #[] #[Value.pointer (some p4),Value.pointer (some p5)])) :: Ef) h10 w0 aa ww:=S
  refine OL.zq S (Lf.run_build (cs:=#[Value.int .i64 x15,Value.slice (⟨none,0,0⟩:Sv).a (⟨none,0,0⟩:Sv).n (⟨none,0,0⟩:Sv).c,Value.slice (⟨none,0,0⟩:Sv).a (⟨none,0,0⟩:Sv).n (⟨none,0,0⟩:Sv).c,Value.int .i64 (pI (pC 0 (Xg 5))),Value.string (pT (pC 1 (Xg 5))),Value.bool (pB (pC 2 (Xg 5))),Value.int .i64 (pI (pC 3 (Xg 5))),Value.slice (pS (pC 4 (Xg 5))).a (pS (pC 4 (Xg 5))).n (pS (pC 4 (Xg 5))).c,Value.slice (pS (pC 5 (Xg 5))).a (pS (pC 5 (Xg 5))).n (pS (pC 5 (Xg 5))).c]) pl37 ti37 (parts_map S rfl) (by kernel_rfl)) fun _ S=>?_
  refine OL.nil ?_
  exact⟨undef,_,S,hT.refl _,trivial⟩
 ·
  refine⟨_,rfl,rfl,fun _ _ _ _ _ ht hf=>sq_1 _ _ _ _ _ ht hf,?_⟩
  intro Xg Bg aa ww h13 Ef S hTg hok
  replace S:St 60 ((3,Value.pointer (some p3)) :: (6,Value.pointer (some p6)) :: (7,(Value.func (.func 47) #[] #[Value.pointer (some p4),Value.pointer (some p5)])) :: (14,Value.pointer (some p3)) :: (16,Value.pointer (some (p3.add 3))) :: (18,(Value.func (.func 47) #[] #[Value.pointer (some p4),Value.pointer (some p5)])) :: Ef) h13 w0 aa ww:=S
  have H:=Oq_1 h13 hTg
  refine ol_alloc S H ti37 rfl rfl trivial ?_
  clear S H;intro p8_1 aa ww h14 H S
  refine OL.nil ?_
  exact⟨Value.pointer (some p8_1),_,S,H.1,H.2⟩
 clear S
 intro Xg Bg aa ww h15 S hTg hok hdis
 obtain⟨kq1,kq3,kq5,kq6,kq7,-⟩:=hok
 replace H:=H (pI (pC 0 (Xg 5))) (pT (pC 1 (Xg 5))) (pB (pC 2 (Xg 5))) (pI (pC 3 (Xg 5))) (pS (pC 4 (Xg 5))) (pS (pC 5 (Xg 5))) (Bg 5).1 (Bg 5).2 (pA (Xg 7)) (Bg 7).1 (Bg 7).2 h15 hTg hdis kq5 kq7
 replace S:=S.sub [(3,Value.pointer (some p3)),(6,Value.pointer (some p6)),(7,(Value.func (.func 47) #[] #[Value.pointer (some p4),Value.pointer (some p5)])),(8,Value.pointer (some (pA (Xg 7)))),(14,Value.pointer (some p3)),(15,Value.int .i64 x15),(16,Value.pointer (some (p3.add 3))),(17,Value.agg #[Value.int .i64 y17,Value.string y17_1,Value.bool y17_2,Value.int .i64 y17_3,Value.slice y17_4.a y17_4.n y17_4.c,Value.slice y17_5.a y17_5.n y17_5.c]),(18,(Value.func (.func 47) #[] #[Value.pointer (some p4),Value.pointer (some p5)])),(19,Value.agg #[Value.int .i64 (pI (pC 0 (Xg 5))),Value.string (pT (pC 1 (Xg 5))),Value.bool (pB (pC 2 (Xg 5))),Value.int .i64 (pI (pC 3 (Xg 5))),Value.slice (pS (pC 4 (Xg 5))).a (pS (pC 4 (Xg 5))).n (pS (pC 4 (Xg 5))).c,Value.slice (pS (pC 5 (Xg 5))).a (pS (pC 5 (Xg 5))).n (pS (pC 5 (Xg 5))).c]),(20,Value.agg #[Value.int .i64 x15,Value.slice (⟨none,0,0⟩:Sv).a (⟨none,0,0⟩:Sv).n (⟨none,0,0⟩:Sv).c,Value.slice (⟨none,0,0⟩:Sv).a (⟨none,0,0⟩:Sv).n (⟨none,0,0⟩:Sv).c,Value.int .i64 (pI (pC 0 (Xg 5))),Value.string (pT (pC 1 (Xg 5))),Value.bool (pB (pC 2 (Xg 5))),Value.int .i64 (pI (pC 3 (Xg 5))),Value.slice (pS (pC 4 (Xg 5))).a (pS (pC 4 (Xg 5))).n (pS (pC 4 (Xg 5))).c,Value.slice (pS (pC 5 (Xg 5))).a (pS (pC 5 (Xg 5))).n (pS (pC 5 (Xg 5))).c])] ⟨rfl,rfl,rfl,rfl,rfl,rfl,rfl,rfl,rfl,rfl,rfl,trivial⟩
 generalize (pI (pC 0 (Xg 5)))=y19 at H S
 generalize (pT (pC 1 (Xg 5)))=y19_1 at H S
 generalize (pB (pC 2 (Xg 5)))=y19_2 at H S
 generalize (pI (pC 3 (Xg 5)))=y19_3 at H S
 generalize (pS (pC 4 (Xg 5)))=y19_4 at H S
 generalize (pS (pC 5 (Xg 5)))=y19_5 at H S
 generalize (pA (Xg 7))=p8 at H S
 generalize Bg 5=bq5 at H
 generalize Bg 7=bq7 at H
 clear hTg hdis kq7 kq6 kq5 kq3 kq1 gq7 gq6 gq5 gq3 gq1 Oq Oq_1 sq sq_1
 refine AN.eff 8 rfl (by kernel_rfl) ?_
 refine ol_stoA S H rfl rfl ti37 trivial ?_
 clear S H;intro aa ww h16 H S
 refine OL.nil ?_
 refine AN.done (by kernel_rfl) ?_
 refine W.seq ?_
 refine W.seq ?_
 refine W.region ?_
 refine OL.zf S fa37_1 fun _ S=>?_
 obtain⟨x22,c_7,H⟩:=H
 refine OL.zl S fl22 c_7 fun _ S=>?_
 refine OL.zq S (Lf.run_lens (S.ev rfl) rfl Try.underlying22) fun _ S=>?_
 refine OL.zm S fun _ S=>?_
 refine OL.nil ?_
 refine W.block ?_
 obtain⟨I,m,H,HB_1⟩:=H
 refine W.loopS (σ:=Int×Heap) (fun s aa ww=>St 60 [(3,Value.pointer (some p3)),(6,Value.pointer (some p6)),(7,(Value.func (.func 47) #[] #[Value.pointer (some p4),Value.pointer (some p5)])),(8,Value.pointer (some p8)),(22,Value.slice x22.a x22.n x22.c),(23,Value.int .i64 ((x22.n:Nat):Int)),(24,Value.int .i64 s.1)] s.2 w0 aa ww∧I s.1 s.2) (fun s=>m s.1 s.2) (0,h16) ⟨S.sub _ ⟨rfl,rfl,rfl,rfl,rfl,rfl,rfl,trivial⟩,H⟩ ?_
 clear H S
 rintro ⟨x24,h17⟩ aa ww ⟨S,HI⟩
 replace S:St 60 [(3,Value.pointer (some p3)),(6,Value.pointer (some p6)),(7,(Value.func (.func 47) #[] #[Value.pointer (some p4),Value.pointer (some p5)])),(8,Value.pointer (some p8)),(22,Value.slice x22.a x22.n x22.c),(23,Value.int .i64 ((x22.n:Nat):Int)),(24,Value.int .i64 x24)] h17 w0 aa ww:=S
 have H:=HB_1 x24 h17 HI
 clear HI
 refine W.seq ?_
 refine W.region ?_
 refine OL.zq S (Lf.run_lss (S.ev rfl) (S.ev rfl)) fun _ S=>?_
 refine OL.nil ?_
 refine W.seq ?_
 refine W.cond S (b:=(decide (x24<((x22.n:Nat):Int)))) rfl (fun hb=>?_) (fun hb=>?_)
 ·
  replace H:=H.1 hb
  refine W.skip ?_
  refine W.seq ?_
  refine W.block ?_
  refine W.seq ?_
  refine W.region ?_
  obtain⟨q26,e,e_1,e_2,H⟩:=H
  refine OL.zq S (Lf.run_ixs (S.ev rfl) (S.ev rfl) Try.underlying22 ti56 e e_1 e_2) fun _ S=>?_
  obtain⟨y27,y27_1,c_12,c_13,H⟩:=H
  refine OL.zq S (Lf.run_ldA (cs:=[Value.int .i64 y27,Value.int .i64 y27_1]) (S.ev rfl) ag56 ti56 (by rw[S.heap];exact RowL.toRow ⟨c_12,c_13,trivial⟩)) fun _ S=>?_
  refine ol_alloc S H ti56 rfl rfl trivial ?_
  clear S H;intro p10 aa ww h18 H S
  refine ol_stoA S H rfl rfl ti56 trivial ?_
  clear S H;intro aa ww h19 H S
  refine OL.nil ?_
  replace S:=S.sub [(3,Value.pointer (some p3)),(6,Value.pointer (some p6)),(7,(Value.func (.func 47) #[] #[Value.pointer (some p4),Value.pointer (some p5)])),(8,Value.pointer (some p8)),(10,Value.pointer (some p10)),(22,Value.slice x22.a x22.n x22.c),(23,Value.int .i64 ((x22.n:Nat):Int)),(24,Value.int .i64 x24)] ⟨rfl,rfl,rfl,rfl,rfl,rfl,rfl,rfl,trivial⟩
  obtain⟨Sq,HS,H⟩:=H
  refine W.regionN [1,8] [5,9,11,12,14] Sq S (by kernel_rfl) ?_
  clear S;intro ww S
  refine BN.pure 0 S (fun _=>HS) rfl (by kernel_rfl) (by kernel_rfl) (fun _=>Lf.run_fa (S.ev rfl) fa37_1) rfl rfl trivial fun _ S=>?_
  refine BN.pure 2 S (fun _=>HS) rfl (by kernel_rfl) (by kernel_rfl) (fun _=>Lf.run_move (S.ev rfl)) rfl rfl trivial fun _ S=>?_
  refine BN.pure 3 S (fun _=>HS) rfl (by kernel_rfl) (by kernel_rfl) (fun _=>Lf.run_ixa (S.ev rfl) (S.ev rfl) Try.underlying56 ti3 (by decide) (by decide)) rfl rfl trivial fun _ S=>?_
  obtain⟨x32,c_9,H⟩:=H
  refine BN.load 4 S (fun _=>HS) rfl (by kernel_rfl) (by kernel_rfl) (fun _ hx=>Lf.run_ld (S.ev rfl) fl3 (hx.cell _ _ (S.cl c_9))) rfl rfl trivial fun _ S=>?_
  refine BN.pure 6 S (fun _=>HS) rfl (by kernel_rfl) (by kernel_rfl) (fun _=>Lf.run_move (S.ev rfl)) rfl rfl trivial fun _ S=>?_
  refine BN.pure 7 S (fun _=>HS) rfl (by kernel_rfl) (by kernel_rfl) (fun _=>Lf.run_ixa (S.ev rfl) (S.ev rfl) Try.underlying56 ti3 (by decide) (by decide)) rfl rfl trivial fun _ S=>?_
  obtain⟨x29,c_10,H⟩:=H
  refine BN.held 1 S HS rfl (by kernel_rfl) (fun _ hq=>Lf.run_ld (S.ev rfl) fl22 (c_10 _ hq)) rfl rfl trivial fun _ S=>?_
  obtain⟨x36,c_11,H⟩:=H
  refine BN.held 8 S HS rfl (by kernel_rfl) (fun _ hq=>Lf.run_ld (S.ev rfl) fl3 (c_11 _ hq)) rfl rfl trivial fun _ S=>?_
  refine BN.eff 5 rfl (by kernel_rfl) ?_
  refine ol_calV S H rfl rfl rfl trivial ?_
  clear S H;intro u_2 aa ww h20 H S
  obtain⟨x33,rfl,H⟩:=H
  refine OL.nil ?_
  clear HS;obtain⟨HS,H⟩:=H
  refine⟨fun _=>by rw[S.heap];exact HS,?_⟩
  refine BN.eff 9 rfl (by kernel_rfl) ?_
  refine ol_calV S H rfl rfl rfl trivial ?_
  clear S H;intro u_3 aa ww h21 H S
  obtain⟨x37,rfl,H⟩:=H
  refine OL.nil ?_
  clear HS;obtain⟨HS,H⟩:=H
  refine⟨fun _=>by rw[S.heap];exact HS,?_⟩
  refine BN.pure 10 S (fun _=>HS) rfl (by kernel_rfl) (by kernel_rfl) (fun _=>Lf.run_buildArr (cs:=#[Value.int .i64 x33,Value.int .i64 x37]) Try.underlying56 ti3 ti56 (parts_map S rfl) (by kernel_rfl)) rfl rfl trivial fun _ S=>?_
  refine BN.eff 11 rfl (by kernel_rfl) ?_
  refine ol_newS S H Try.underlying22 ti56 (by decide) (parts_map S rfl) (by kernel_rfl) (by decide) rfl trivial ?_
  clear S H;intro s39 aa ww h22 H S
  refine OL.nil ?_
  clear HS;obtain⟨HS,H⟩:=H
  refine⟨fun _=>by rw[S.heap];exact HS,?_⟩
  refine BN.eff 12 rfl (by kernel_rfl) ?_
  refine ol_appS S H Try.underlying22 ti56 rfl rfl rfl trivial ?_
  clear S H;intro s40 aa ww h23 H S
  refine OL.nil ?_
  refine⟨noNeed (by kernel_rfl),?_⟩
  refine BN.pure 13 S (noNeed (by kernel_rfl)) rfl (by kernel_rfl) (by kernel_rfl) (fun _=>Lf.run_fa (S.ev rfl) fa37_1) rfl rfl trivial fun _ S=>?_
  refine BN.eff 14 rfl (by kernel_rfl) ?_
  refine ol_sto S H rfl rfl rfl ti22 trivial ?_
  clear S H;intro aa ww h24 H S
  refine OL.nil ?_
  refine⟨noNeed (by kernel_rfl),?_⟩
  refine BN.done (by kernel_rfl) ?_
  refine W.region ?_
  refine OL.zq S (Lf.run_add (S.ev rfl) (S.ev rfl)) fun _ S=>?_
  refine OL.zm S fun _ S=>?_
  refine OL.nil ?_
  exact⟨((IntKind.i64.wrap (x24+1)),h24),⟨S.sub _ ⟨rfl,rfl,rfl,rfl,rfl,rfl,rfl,trivial⟩,H.1⟩,H.2⟩
 ·
  replace H:=H.2 hb
  refine W.exit_ ?_
  refine xhit ?_
  refine W.seq ?_
  refine W.seq ?_
  refine W.region ?_
  refine OL.zf S fa37_2 fun _ S=>?_
  obtain⟨x44,c_14,H⟩:=H
  refine OL.zl S fl24 c_14 fun _ S=>?_
  refine OL.zq S (Lf.run_lens (S.ev rfl) rfl Try.underlying24) fun _ S=>?_
  refine OL.zm S fun _ S=>?_
  refine OL.nil ?_
  refine W.block ?_
  obtain⟨I_1,m_1,H,HB⟩:=H
  refine W.loopS (σ:=Int×Heap) (fun s aa ww=>St 60 [(6,Value.pointer (some p6)),(7,(Value.func (.func 47) #[] #[Value.pointer (some p4),Value.pointer (some p5)])),(8,Value.pointer (some p8)),(44,Value.slice x44.a x44.n x44.c),(45,Value.int .i64 ((x44.n:Nat):Int)),(46,Value.int .i64 s.1)] s.2 w0 aa ww∧I_1 s.1 s.2) (fun s=>m_1 s.1 s.2) (0,h17) ⟨S.sub _ ⟨rfl,rfl,rfl,rfl,rfl,rfl,trivial⟩,H⟩ ?_
  clear H S
  rintro ⟨x46,h25⟩ aa ww ⟨S,HI⟩
  replace S:St 60 [(6,Value.pointer (some p6)),(7,(Value.func (.func 47) #[] #[Value.pointer (some p4),Value.pointer (some p5)])),(8,Value.pointer (some p8)),(44,Value.slice x44.a x44.n x44.c),(45,Value.int .i64 ((x44.n:Nat):Int)),(46,Value.int .i64 x46)] h25 w0 aa ww:=S
  have H:=HB x46 h25 HI
  clear HI
  refine W.seq ?_
  refine W.region ?_
  refine OL.zq S (Lf.run_lss (S.ev rfl) (S.ev rfl)) fun _ S=>?_
  refine OL.nil ?_
  refine W.seq ?_
  refine W.cond S (b:=(decide (x46<((x44.n:Nat):Int)))) rfl (fun hb_1=>?_) (fun hb_1=>?_)
  ·
   replace H:=H.1 hb_1
   refine W.skip ?_
   refine W.seq ?_
   refine W.block ?_
   refine W.seq ?_
   refine W.region ?_
   obtain⟨q48,e_7,e_8,e_9,H⟩:=H
   refine OL.zq S (Lf.run_ixs (S.ev rfl) (S.ev rfl) Try.underlying24 ti35 e_7 e_8 e_9) fun _ S=>?_
   obtain⟨y49,y49_1,y49_2,y49_3,y49_4,y49_5,c_24,c_25,c_26,c_27,c_28,c_29,H⟩:=H
   refine OL.zq S (Lf.run_ldA (cs:=[Value.int .i64 y49,Value.string y49_1,Value.bool y49_2,Value.int .i64 y49_3,Value.slice y49_4.a y49_4.n y49_4.c,Value.slice y49_5.a y49_5.n y49_5.c]) (S.ev rfl) ag35 ti35 (by rw[S.heap];exact RowL.toRow ⟨c_24,c_25,c_26,c_27,c_28,c_29,trivial⟩)) fun _ S=>?_
   refine ol_alloc S H ti35 rfl rfl trivial ?_
   clear S H;intro p12 aa ww h26 H S
   refine ol_stoA S H rfl rfl ti35 trivial ?_
   clear S H;intro aa ww h27 H S
   refine OL.nil ?_
   replace S:=S.sub [(6,Value.pointer (some p6)),(7,(Value.func (.func 47) #[] #[Value.pointer (some p4),Value.pointer (some p5)])),(8,Value.pointer (some p8)),(12,Value.pointer (some p12)),(44,Value.slice x44.a x44.n x44.c),(45,Value.int .i64 ((x44.n:Nat):Int)),(46,Value.int .i64 x46)] ⟨rfl,rfl,rfl,rfl,rfl,rfl,rfl,trivial⟩
   obtain⟨Sq_1,HS_1,H⟩:=H
   refine W.regionN [1] [4,5,6,8] Sq_1 S (by kernel_rfl) ?_
   clear S;intro ww S
   refine BN.pure 0 S (fun _=>HS_1) rfl (by kernel_rfl) (by kernel_rfl) (fun _=>Lf.run_fa (S.ev rfl) fa37_2) rfl rfl trivial fun _ S=>?_
   obtain⟨y52,y52_1,y52_2,y52_3,y52_4,y52_5,c_18,c_19,c_20,c_21,c_22,c_23,H⟩:=H
   refine BN.load 2 S (fun _=>HS_1) rfl (by kernel_rfl) (by kernel_rfl) (fun _ hx=>Lf.run_ldA (cs:=[Value.int .i64 y52,Value.string y52_1,Value.bool y52_2,Value.int .i64 y52_3,Value.slice y52_4.a y52_4.n y52_4.c,Value.slice y52_5.a y52_5.n y52_5.c]) (S.ev rfl) ag35 ti35 (hx.row (S.row ⟨c_18,c_19,c_20,c_21,c_22,c_23,trivial⟩))) rfl rfl trivial fun _ S=>?_
   refine BN.pure 3 S (fun _=>HS_1) rfl (by kernel_rfl) (by kernel_rfl) (fun _=>Lf.run_move (S.ev rfl)) rfl rfl trivial fun _ S=>?_
   obtain⟨x51,c_17,H⟩:=H
   refine BN.held 1 S HS_1 rfl (by kernel_rfl) (fun _ hq=>Lf.run_ld (S.ev rfl) fl24 (c_17 _ hq)) rfl rfl trivial fun _ S=>?_
   refine BN.eff 4 rfl (by kernel_rfl) ?_
   refine ol_cal S H isfn48 rfl rfl trivial ?_
   clear S H;intro u_4 aa ww h28 H S
   obtain⟨y54,y54_1,y54_2,y54_3,y54_4,y54_5,rfl,H⟩:=H
   refine OL.nil ?_
   clear HS_1;obtain⟨HS_1,H⟩:=H
   refine⟨fun _=>by rw[S.heap];exact HS_1,?_⟩
   refine BN.eff 5 rfl (by kernel_rfl) ?_
   refine ol_newS S H Try.underlying24 ti35 (by decide) (parts_map S rfl) (by kernel_rfl) (by decide) rfl trivial ?_
   clear S H;intro s55 aa ww h29 H S
   refine OL.nil ?_
   clear HS_1;obtain⟨HS_1,H⟩:=H
   refine⟨fun _=>by rw[S.heap];exact HS_1,?_⟩
   refine BN.eff 6 rfl (by kernel_rfl) ?_
   refine ol_appS S H Try.underlying24 ti35 rfl rfl rfl trivial ?_
   clear S H;intro s56 aa ww h30 H S
   refine OL.nil ?_
   refine⟨noNeed (by kernel_rfl),?_⟩
   refine BN.pure 7 S (noNeed (by kernel_rfl)) rfl (by kernel_rfl) (by kernel_rfl) (fun _=>Lf.run_fa (S.ev rfl) fa37_2) rfl rfl trivial fun _ S=>?_
   refine BN.eff 8 rfl (by kernel_rfl) ?_
   refine ol_sto S H rfl rfl rfl ti24 trivial ?_
   clear S H;intro aa ww h31 H S
   refine OL.nil ?_
   refine⟨noNeed (by kernel_rfl),?_⟩
   refine BN.done (by kernel_rfl) ?_
   refine W.region ?_
   refine OL.zq S (Lf.run_add (S.ev rfl) (S.ev rfl)) fun _ S=>?_
   refine OL.zm S fun _ S=>?_
   refine OL.nil ?_
   exact⟨((IntKind.i64.wrap (x46+1)),h31),⟨S.sub _ ⟨rfl,rfl,rfl,rfl,rfl,rfl,trivial⟩,H.1⟩,H.2⟩
  ·
   replace H:=H.2 hb_1
   refine W.exit_ ?_
   refine xhit ?_
   refine W.seq ?_
   refine W.region ?_
   obtain⟨y59,y59_1,y59_2,y59_3,y59_4,y59_5,y59_6,y59_7,y59_8,c_40,c_41,c_42,c_43,c_44,c_45,c_46,c_47,c_48,H⟩:=H
   refine OL.zq S (Lf.run_ldA (cs:=[Value.int .i64 y59,Value.slice y59_1.a y59_1.n y59_1.c,Value.slice y59_2.a y59_2.n y59_2.c,Value.int .i64 y59_3,Value.string y59_4,Value.bool y59_5,Value.int .i64 y59_6,Value.slice y59_7.a y59_7.n y59_7.c,Value.slice y59_8.a y59_8.n y59_8.c]) (S.ev rfl) ag37 ti37 (by rw[S.heap];exact RowL.toRow ⟨c_40,c_41,c_42,c_43,c_44,c_45,c_46,c_47,c_48,trivial⟩)) fun _ S=>?_
   refine ol_stoA S H rfl rfl ti37 trivial ?_
   clear S H;intro aa ww h32 H S
   refine OL.nil ?_
   refine W.ret ?_
   obtain⟨y,y_1,y_2,y_3,y_4,y_5,y_6,y_7,y_8,c_31,c_32,c_33,c_34,c_35,c_36,c_37,c_38,c_39,H⟩:=H
   exact Ret.gen S rfl (RV.cellA (cs:=[Value.int .i64 y,Value.slice y_1.a y_1.n y_1.c,Value.slice y_2.a y_2.n y_2.c,Value.int .i64 y_3,Value.string y_4,Value.bool y_5,Value.int .i64 y_6,Value.slice y_7.a y_7.n y_7.c,Value.slice y_8.a y_8.n y_8.c]) rfl ag37 ti37 ⟨c_31,c_32,c_33,c_34,c_35,c_36,c_37,c_38,c_39,trivial⟩ RV.nil) rfl H
def L29 (known0:Option Addr) (l1:Sv) (h:Heap) (R:Value→Heap→Prop):Prop:=
 ∃(I:Int→Heap→Prop) (m:Int→Heap→Nat),I 0 h∧∀vfrom5 h1,I vfrom5 h1 →
 cal Try.prog 49 #[Value.pointer known0] h1 fun u h2=>asI .i64 u fun x10=>
 ifb (decide (vfrom5≤x10)) (
  cal Try.prog 50 #[Value.int .i64 vfrom5,Value.slice l1.a l1.n l1.c] h2 fun u_1 h3=>asS u_1 fun x16=>
  ∃(I_1:Int→Heap→Prop) (m_1:Int→Heap→Nat),I_1 0 h3∧∀x18 h4,I_1 x18 h4 →
  ifb (decide (x18<((x16.n:Nat):Int))) (
   ixS x16 x18 fun q20=>
   ldI .i64 h4 (q20.add ((x18:Int).toNat*1)) fun x21=>
   cal Try.prog 49 #[Value.pointer known0] h4 fun u_2 h5=>asI .i64 u_2 fun x24=>
   ∃J:Bool→Heap→Prop,(andj (decide (x21≤x24)) (fun k=>
    cal Try.prog 51 #[Value.pointer known0,Value.int .i64 vfrom5,Value.int .i64 x21] h5 fun u_3 h7=>asB u_3 fun x30=>
    k (!x30) h7) h5 J)∧∀x32 h6,J x32 h6 →
   ifb x32 (
    R (Value.bool false) h6) (
    I_1 (IntKind.i64.wrap (x18+1)) h6∧m_1 (IntKind.i64.wrap (x18+1)) h6<m_1 x18 h4)) (
   I (IntKind.i64.wrap (vfrom5+1)) h4∧m (IntKind.i64.wrap (vfrom5+1)) h4<m vfrom5 h1)) (
  R (Value.bool true) h2)
set_option maxRecDepth 100000 in
theorem F29 {known0 l1 h:_} {R:Value→Heap→Prop} (H:L29 known0 l1 h R):CallsH Try.prog 29 #[Value.pointer known0,Value.slice l1.a l1.n l1.c] h R:=by
 refine CallsH.enter (n:=34) Try.func29 rfl rfl rfl rfl ?_
 intro w0 aa ww S
 unfold L29 at H
 refine W.seq ?_
 refine W.region ?_
 refine OL.za S fun _ S=>?_
 refine OL.nil ?_
 refine W.seq ?_
 refine W.seq ?_
 refine W.region ?_
 refine OL.za S fun _ S=>?_
 refine OL.nil ?_
 refine W.block ?_
 obtain⟨I,m,H,HB_1⟩:=H
 refine W.loopS (σ:=Int×Heap) (fun s aa ww=>St 34 [(0,Value.pointer known0),(1,Value.slice l1.a l1.n l1.c),(5,Value.int .i64 s.1)] s.2 w0 aa ww∧I s.1 s.2) (fun s=>m s.1 s.2) (0,h) ⟨S.sub _ ⟨rfl,rfl,rfl,trivial⟩,H⟩ ?_
 clear H S
 rintro ⟨vfrom5,h1⟩ aa ww ⟨S,HI⟩
 replace S:St 34 [(0,Value.pointer known0),(1,Value.slice l1.a l1.n l1.c),(5,Value.int .i64 vfrom5)] h1 w0 aa ww:=S
 have H:=HB_1 vfrom5 h1 HI
 clear HI
 refine W.seq ?_
 refine W.seq ?_
 refine W.region ?_
 refine OL.zm S fun _ S=>?_
 refine OL.zm S fun _ S=>?_
 refine ol_cal S H isfn49 rfl rfl trivial ?_
 clear S H;intro u aa ww h2 H S
 obtain⟨x10,rfl,H⟩:=H
 refine OL.zq S (Lf.run_leq (S.ev rfl) (S.ev rfl)) fun _ S=>?_
 refine OL.nil ?_
 refine W.cond S (b:=(decide (vfrom5≤x10))) rfl (fun hb=>?_) (fun hb=>?_)
 ·
  replace H:=H.1 hb
  refine W.skip ?_
  refine W.seq ?_
  refine W.block ?_
  refine W.seq ?_
  refine W.region ?_
  refine OL.zm S fun _ S=>?_
  refine OL.zm S fun _ S=>?_
  refine ol_cal S H isfn50 rfl rfl trivial ?_
  clear S H;intro u_1 aa ww h3 H S
  obtain⟨x16,rfl,H⟩:=H
  refine OL.zq S (Lf.run_lens (S.ev rfl) rfl Try.underlying25) fun _ S=>?_
  refine OL.zm S fun _ S=>?_
  refine OL.nil ?_
  refine W.block ?_
  obtain⟨I_1,m_1,H,HB⟩:=H
  refine W.loopS (σ:=Int×Heap) (fun s aa ww=>St 34 [(0,Value.pointer known0),(1,Value.slice l1.a l1.n l1.c),(5,Value.int .i64 vfrom5),(16,Value.slice x16.a x16.n x16.c),(17,Value.int .i64 ((x16.n:Nat):Int)),(18,Value.int .i64 s.1)] s.2 w0 aa ww∧I_1 s.1 s.2) (fun s=>m_1 s.1 s.2) (0,h3) ⟨S.sub _ ⟨rfl,rfl,rfl,rfl,rfl,rfl,trivial⟩,H⟩ ?_
  clear H S
  rintro ⟨x18,h4⟩ aa ww ⟨S,HI⟩
  replace S:St 34 [(0,Value.pointer known0),(1,Value.slice l1.a l1.n l1.c),(5,Value.int .i64 vfrom5),(16,Value.slice x16.a x16.n x16.c),(17,Value.int .i64 ((x16.n:Nat):Int)),(18,Value.int .i64 x18)] h4 w0 aa ww:=S
  have H:=HB x18 h4 HI
  clear HI
  refine W.seq ?_
  refine W.region ?_
  refine OL.zq S (Lf.run_lss (S.ev rfl) (S.ev rfl)) fun _ S=>?_
  refine OL.nil ?_
  refine W.seq ?_
  refine W.cond S (b:=(decide (x18<((x16.n:Nat):Int)))) rfl (fun hb_1=>?_) (fun hb_1=>?_)
  ·
   replace H:=H.1 hb_1
   refine W.skip ?_
   refine W.seq ?_
   refine W.block ?_
   refine W.seq ?_
   refine W.region ?_
   obtain⟨q20,e,e_1,e_2,H⟩:=H
   refine OL.zq S (Lf.run_ixs (S.ev rfl) (S.ev rfl) Try.underlying25 ti3 e e_1 e_2) fun _ S=>?_
   obtain⟨x21,c,H⟩:=H
   refine OL.zl S fl3 c fun _ S=>?_
   refine OL.za S fun _ S=>?_
   refine OL.nil ?_
   refine W.seq ?_
   refine W.region ?_
   refine OL.zm S fun _ S=>?_
   refine OL.zm S fun _ S=>?_
   refine ol_cal S H isfn49 rfl rfl trivial ?_
   clear S H;intro u_2 aa ww h5 H S
   obtain⟨x24,rfl,H⟩:=H
   refine OL.zq S (Lf.run_leq (S.ev rfl) (S.ev rfl)) fun _ S=>?_
   refine OL.zm S fun _ S=>?_
   obtain⟨J,H,HK⟩:=H
   refine OL.cutN 6 (fun aa ww=>∃x32 h6,St 34 ((32,Value.bool x32) :: [(0,Value.pointer known0),(1,Value.slice l1.a l1.n l1.c),(5,Value.int .i64 vfrom5),(7,Value.int .i64 x21),(16,Value.slice x16.a x16.n x16.c),(17,Value.int .i64 ((x16.n:Nat):Int)),(18,Value.int .i64 x18),(22,Value.int .i64 x21),(23,Value.pointer known0),(24,Value.int .i64 x24),(25,Value.bool (decide (x21≤x24))),(26,Value.bool (decide (x21≤x24)))]) h6 w0 aa ww∧J x32 h6) ?_ ?_
   ·
    rcases Bool.eq_false_or_eq_true (decide (x21≤x24)) with hb_2|hb_2
    ·
     replace H:=H.1 hb_2
     refine OL.zm (hg:=GOk.mk rfl rfl hb_2) S fun _ S=>?_
     refine OL.zm (hg:=GOk.mk rfl rfl hb_2) S fun _ S=>?_
     refine OL.zm (hg:=GOk.mk rfl rfl hb_2) S fun _ S=>?_
     refine ol_cal S H isfn51 rfl rfl (GOk.mk rfl rfl hb_2) ?_
     clear S H;intro u_3 aa ww h7 H S
     obtain⟨x30,rfl,H⟩:=H
     refine OL.zq (hg:=GOk.mk rfl rfl hb_2) S (Lf.run_not (S.ev rfl)) fun _ S=>?_
     refine OL.zq S (Lf.run_pickT (S.ev rfl) hb_2 (S.ev rfl)) fun _ S=>?_
     refine OL.nil ?_
     exact⟨_,_,S.sub _ ⟨rfl,rfl,rfl,rfl,rfl,rfl,rfl,rfl,rfl,rfl,rfl,rfl,rfl,trivial⟩,H⟩
    ·
     replace H:=H.2 hb_2
     refine OL.zn S (GNo.mk rfl rfl hb_2) fun _ S=>?_
     refine OL.zn S (GNo.mk rfl rfl hb_2) fun _ S=>?_
     refine OL.zn S (GNo.mk rfl rfl hb_2) fun _ S=>?_
     refine OL.zn S (GNo.mk rfl rfl hb_2) fun _ S=>?_
     refine OL.zn S (GNo.mk rfl rfl hb_2) fun _ S=>?_
     refine OL.zq S (Lf.run_pickF (S.ev rfl) hb_2 (S.ev rfl)) fun _ S=>?_
     refine OL.nil ?_
     exact⟨_,_,S.sub _ ⟨rfl,rfl,rfl,rfl,rfl,rfl,rfl,rfl,rfl,rfl,rfl,rfl,rfl,trivial⟩,H⟩
   ·
    clear S
    rintro aa ww ⟨x32,h6,S,HJ⟩
    replace H:=HK _ _ HJ
    clear HK HJ
    refine OL.nil ?_
    refine W.cond S (b:=x32) rfl (fun hb_3=>?_) (fun hb_3=>?_)
    ·
     replace H:=H.1 hb_3
     refine W.seq ?_
     refine W.region ?_
     refine OL.za S fun _ S=>?_
     refine OL.nil ?_
     refine W.ret ?_
     exact Ret.one S rfl rfl H
    ·
     replace H:=H.2 hb_3
     refine W.skip ?_
     refine W.region ?_
     refine OL.zq S (Lf.run_add (S.ev rfl) (S.ev rfl)) fun _ S=>?_
     refine OL.zm S fun _ S=>?_
     refine OL.nil ?_
     exact⟨((IntKind.i64.wrap (x18+1)),h6),⟨S.sub _ ⟨rfl,rfl,rfl,rfl,rfl,rfl,trivial⟩,H.1⟩,H.2⟩
  ·
   replace H:=H.2 hb_1
   refine W.exit_ ?_
   refine xhit ?_
   refine W.region ?_
   refine OL.zm S fun _ S=>?_
   refine OL.zq S (Lf.run_add (S.ev rfl) (S.ev rfl)) fun _ S=>?_
   refine OL.za S fun _ S=>?_
   refine OL.nil ?_
   exact⟨((IntKind.i64.wrap (vfrom5+1)),h4),⟨S.sub _ ⟨rfl,rfl,rfl,trivial⟩,H.1⟩,H.2⟩
 ·
  replace H:=H.2 hb
  refine W.exit_ ?_
  refine xhit ?_
  refine W.seq ?_
  refine W.region ?_
  refine OL.za S fun _ S=>?_
  refine OL.nil ?_
  refine W.ret ?_
  exact Ret.one S rfl rfl H
end Go.Proofs.Yteofligmdngdgaa

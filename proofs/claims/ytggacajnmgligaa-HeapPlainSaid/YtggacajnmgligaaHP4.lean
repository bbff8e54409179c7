/- HeapPlain: for every input that its row covers the law returns true, and its arguments read as they did; under no other conditions. This text is joined by a program of ours out of smaller ones. -/
import Derived.Test.YtggacajnmgligaaHP3
namespace Go.Proofs.Ytggacajnmgligaa
open Go Go.Lf
set_option linter.unusedVariables false
def c7 (us:List Vv):List Value:=us.flatMap fun u=>(vvs u).toList
theorem c7_len (us:List Vv):(c7 us).length=us.length*7:=by
 induction us with
 | nil=>rfl
 | cons a l ih=>
  have e:c7 (a :: l)=(vvs a).toList++c7 l:=rfl
  rw[e,List.length_append,ih,List.length_cons]
  simp
  omega
theorem c7_app (l m:List Vv):c7 (l++m)=c7 l++c7 m:=by simp[c7]
theorem c7_get:∀(us:List Vv) (i:Nat) (hi:i<us.length) (q:Nat),q<7→(c7 us)[i*7+q]?=(vvs us[i])[q]?
 | a :: us,0,_,q,hq=>by
  have e:c7 (a :: us)=(vvs a).toList++c7 us:=rfl
  rw[e,Nat.zero_mul,Nat.zero_add,List.getElem?_append_left (by simpa [vvs] using hq)]
  simp
 | a :: us,i+1,hi,q,hq=>by
  have e:c7 (a :: us)=(vvs a).toList++c7 us:=rfl
  have:=c7_get us i (by simpa using hi) q hq
  rw[e,List.getElem?_append_right (by simp;omega)]
  have e2:(i+1)*7+q - (vvs a).toList.length=i*7+q:=by simp;omega
  rw[e2,this]
  simp
theorem own7 {h:Heap} {B:Nat} {s:Sv} {us:List Vv} (o:Own h B 7 s (c7 us)) {i:Nat} (hi:i<us.length):∃p,s.a=some p∧s.own p.block∧(p.off=0∧p.spot=none∧∃cs,blk h p.block cs∧(i+1)*7≤cs.size)∧Vv7 h (p.add (i*7)) us[i]:=by
 have hn:=o.len
 rw[c7_len] at hn
 have hr:=o.row
 rcases o.mem with⟨_,e,_⟩|⟨g,cur,e,_,k,hc,hsz,_⟩
 ·omega
 rw[e] at hr
 refine⟨_,e,⟨_,e,rfl⟩,⟨rfl,rfl,cur,k,?_⟩,fun j u hu=>?_⟩
 ·rw[hsz];exact Nat.mul_le_mul_right 7 (by omega)
 ·have hj:j<7:=(Array.getElem?_eq_some_iff.1 hu).1
  have:=hr (i*7+j) u (by rw[c7_get us i hi j hj];exact hu)
  rw[add_plain] at this
  rw[add_plain,add_plain,Nat.add_assoc]
  exact this
theorem c7_take:∀(us:List Vv) (i:Nat),(c7 us).take (i*7)=c7 (us.take i)
 | [],i=>by simp[c7]
 | a :: us,0=>by simp[c7]
 | a :: us,i+1=>by
  have e:c7 (a :: us)=(vvs a).toList++c7 us:=rfl
  have e2:c7 ((a :: us).take (i+1))=(vvs a).toList++c7 (us.take i):=rfl
  rw[e,e2,←c7_take us i,List.take_append]
  have hl:(vvs a).toList.length=7:=rfl
  rw[hl,List.take_of_length_le (by rw[hl];omega)]
  congr 2
  omega
theorem c7_drop:∀(us:List Vv) (i:Nat),(c7 us).drop (i*7)=c7 (us.drop i)
 | [],i=>by simp[c7]
 | a :: us,0=>by simp[c7]
 | a :: us,i+1=>by
  have e:c7 (a :: us)=(vvs a).toList++c7 us:=rfl
  rw[e,List.drop_succ_cons,←c7_drop us i,List.drop_append]
  have hl:(vvs a).toList.length=7:=rfl
  rw[hl,List.drop_of_length_le (by rw[hl];omega),List.nil_append]
  congr 1
  omega
theorem c7_set (us:List Vv) (i:Nat) (hi:i<us.length) (u:Vv):(c7 us).take (i*7)++(vvs u).toList++(c7 us).drop (i*7+7)=c7 (us.set i u):=by
 rw[c7_take,show i*7+7=(i+1)*7 by omega,c7_drop,List.set_eq_take_append_cons_drop,if_pos hi,c7_app]
 have:c7 (u :: us.drop (i+1))=(vvs u).toList++c7 (us.drop (i+1)):=rfl
 rw[this,List.append_assoc]
theorem one_c7l (us:List Vv):∀u∈c7 us,u.oneCell'=true:=by
 intro u hu
 obtain⟨v,_,hu⟩:=List.mem_flatMap.1 hu
 exact one_vv v u hu
theorem own_empty' (sz:Nat) (h:Heap) (B:Nat) (E:TypeId) (hB:B≤h.size):Own (h.push (.cells #[] E)) B sz ⟨some ⟨h.size,0,none⟩,0,0⟩ []:=
 ⟨by simp,.inr ⟨h.size,#[],rfl,hB,blk.new h #[] E,Nat.le_refl _,by simp,by simp⟩⟩
section
variable {h:Heap}
theorem cloneV_spec {s:Sv} {us:List Vv} (hn:s.n=us.length) (x:RowO h s.a (c7 us)) (hb:us.length≤1000000):CallsH Try.prog 44 #[.slice s.a s.n s.c] h (fun v h'=>Grow h h'∧∃s':Sv,v=.slice s'.a s'.n s'.c∧Own h' h.size 7 s' (c7 us)):=by
 apply F44
 unfold L44
 refine⟨fun e=>⟨Fr.refl _ _,⟨none,0,0⟩,rfl,?_⟩,fun _=>?_⟩
 ·have hs:s.a=none:=by simpa using e
  rw[hs] at x
  have x':c7 us=[]:=x
  have:us=[]:=by
   have:=congrArg List.length x'
   rw[c7_len] at this
   have h0:us.length*7=0:=this
   exact List.eq_nil_of_length_eq_zero (by omega)
  subst this
  exact Own.nil _ _ _
 ·rintro s5 h1 rfl rfl
  have f1:Grow h (h.push (.cells #[] 33)):=Fr.push _ _ _
  have x1:RowO (h.push (.cells #[] 33)) s.a (c7 us):=by
   cases ha:s.a with
   | none=>rw[ha] at x;exact x
   | some p=>rw[ha] at x;exact fun j v hv=>f1.clk (x j v hv) fun h=>h
  refine appS_own rfl (own_empty' 7 h h.size 33 (Nat.le_refl _)) (news:=c7 us) (by rw[c7_len,hn]) x1 (one_c7l _) (by simp) (by dsimp only;rw[hn];omega) (by dsimp only;rw[hn];omega) ?_
  intro s' h' _ o' f' _
  exact⟨f1.trans' f' fun i hi ⟨a,ea,eb⟩=>(by simp only[Option.some.injEq] at ea;subst ea;simp only at eb;omega),s',rfl,by simpa using o'⟩
theorem one_intsL (xs:List Int):∀u∈ints xs,u.oneCell'=true:=by
 intro u hu
 obtain⟨x,_,rfl⟩:=List.mem_map.1 hu
 rfl
theorem ints_rowL {s:Sv} {xs:List Int} (x:IntsAt h s xs):RowO h s.a (ints xs):=by
 cases ha:s.a with
 | none=>
  cases xs with
  | nil=>rfl
  | cons a xs=>
   obtain⟨p,e,_⟩:=x.at_ 0 (by simp)
   rw[ha] at e;cases e
 | some p=>
  intro j w hw
  unfold ints at hw
  rw[List.getElem?_map] at hw
  have hj:j<xs.length:=by
   rcases Nat.lt_or_ge j xs.length with h|h
   ·exact h
   ·rw[List.getElem?_eq_none h] at hw;cases hw
  rw[List.getElem?_eq_getElem hj] at hw
  simp only[Option.map_some,Option.some.injEq] at hw
  obtain⟨q,e,c⟩:=x.at_ j hj
  rw[ha] at e
  obtain rfl:p=q:=by simpa using e
  rw[Nat.mul_one] at c
  rw[←hw];exact c
theorem cloneI_spec {s:Sv} {xs:List Int} (x:IntsAt h s xs) (hb:xs.length≤1000000):CallsH Try.prog 30 #[.slice s.a s.n s.c] h (fun v h'=>Grow h h'∧∃s':Sv,v=.slice s'.a s'.n s'.c∧IntsC (fun b=>h.size≤b) h' s' xs):=by
 apply F30
 unfold L30
 refine⟨fun e=>⟨Fr.refl _ _,⟨none,0,0⟩,rfl,?_⟩,fun _=>?_⟩
 ·have:xs=[]:=by
   cases xs with
   | nil=>rfl
   | cons a xs=>
    obtain⟨p,e',_⟩:=x.at_ 0 (by simp)
    rw[e'] at e;cases e
  subst this
  exact IntsC.nil _ _
 ·rintro s5 h1 rfl rfl
  have f1:Grow h (h.push (.cells #[] 3)):=Fr.push _ _ _
  have i1:=x.keep f1 fun _ _ h=>h
  refine appS_own rfl (own_empty' 1 h h.size 3 (Nat.le_refl _)) (news:=ints xs) (by simp[ints,x.len]) (ints_rowL i1) (one_intsL _) (by simp) (by dsimp only;rw[x.len];omega) (by dsimp only;rw[x.len];omega) ?_
  intro s' h' _ o' f' _
  have o2:Own h' h.size 1 s' (ints xs):=by simpa using o'
  exact⟨f1.trans' f' fun i hi ⟨a,ea,eb⟩=>(by simp only[Option.some.injEq] at ea;subst ea;simp only at eb;omega),s',rfl,IntsQ.of (own_ints o2) fun b hb _=>(o2.ge hb).1,own_cap o2⟩
theorem parts_row {o:Bool} {Q:Nat→Prop} {A:List Nat→Nat→Prop} {k n:Int} {nm:ByteArray} {ts:List Vl} {al:Int} {pa:List Int} {tg:Int} {v:Vv} (x:VAt o Q h (.mk k n nm ts al pa tg) A v) :
  ∃us:List Vv,us.length=ts.length∧RowO h v.ps.a (c7 us)∧∀i (hi:i<us.length) (hi':i<ts.length),VAt o Q h ts[i] (shA A i) us[i]:=by
 obtain⟨-,-,-,-,-,-,e7,e8⟩:=vAt_iff.1 x
 have:Inhabited Vv:=⟨zVv⟩
 have key:∀i,i<ts.length→∃u:Vv,∃p,v.ps.a=some p∧Vv7 h (p.add (i*7)) u∧∀(hi:i<ts.length),VAt o Q h ts[i] (shA A i) u:=by
  intro i hi
  obtain⟨p,u,q1,q2,q3,q4,q5⟩:=e8 i hi
  exact⟨u,p,q1,q4,fun _=>q5⟩
 obtain⟨f,hf⟩:=Go.Deep.choose_lt (α:=Vv) key
 refine⟨(List.range ts.length).map f,by simp,?_,fun i hi hi'=>by
  obtain⟨p,_,_,h3⟩:=hf i hi'
  simpa using h3 hi'⟩
 cases ha:v.ps.a with
 | none=>
  cases hz:ts.length with
  | zero=>simp[RowO,c7]
  | succ m=>
   obtain⟨p,e,_⟩:=hf 0 (by omega)
   rw[ha] at e;cases e
 | some p=>
  intro j w hw
  have hj:j<(c7 ((List.range ts.length).map f)).length:=(List.getElem?_eq_some_iff.1 hw).1
  rw[c7_len] at hj
  simp only[List.length_map,List.length_range] at hj
  have hi:j / 7<ts.length:=by omega
  obtain⟨q,e,T,_⟩:=hf (j / 7) hi
  rw[ha] at e
  obtain rfl:p=q:=by simpa using e
  have ej:j=j / 7*7+j % 7:=by omega
  rw[ej] at hw ⊢
  rw[c7_get _ (j / 7) (by simpa using hi) (j % 7) (by omega)] at hw
  simp only[List.getElem_map,List.getElem_range] at hw
  have:=T _ _ hw
  rw[add_add] at this
  exact this
def Fresh (h h':Heap) (t:Vl) (v:Vv):Prop:=∃lab:Nat→Option (List Nat),(∀b,b<h.size∨h'.size≤b→lab b=none)∧VAt true (fun b=>h.size≤b∧lab b=none) h' t (fun σ b=>lab b=some σ) v
def few:Vl→Prop:=Vl.rec (motive_1:=fun _=>Prop) (motive_2:=fun _=>Prop) (fun _ _ _ ts _ pa _ ih=>ts.length≤1000000∧pa.length≤1000000∧ih) True (fun _ _ a b=>a∧b)
theorem few_mk {k n:Int} {nm:ByteArray} {ts:List Vl} {al:Int} {pa:List Int} {tg:Int}:few (.mk k n nm ts al pa tg)↔ts.length≤1000000∧pa.length≤1000000∧∀a∈ts,few a:=by
 have e:∀ts:List Vl,(Vl.rec_1 (motive_1:=fun _=>Prop) (motive_2:=fun _=>Prop) (fun _ _ _ ts _ pa _ ih=>ts.length≤1000000∧pa.length≤1000000∧ih) True (fun _ _ a b=>a∧b) ts:Prop)↔∀a∈ts,few a:=by
  intro ts
  induction ts with
  | nil=>simp
  | cons a ts ih=>
   constructor
   ·rintro ⟨h1,h2⟩ b hb
    rcases List.mem_cons.1 hb with rfl|hb
    ·exact h1
    ·exact ih.1 h2 b hb
   ·intro H
    exact⟨H a (by simp),ih.2 fun b hb=>H b (by simp[hb])⟩
 constructor
 ·rintro ⟨h1,h2,h3⟩
  exact⟨h1,h2,(e ts).1 h3⟩
 ·rintro ⟨h1,h2,h3⟩
  exact⟨h1,h2,(e ts).2 h3⟩
theorem clone_spec (t:Vl):∀(o:Bool) (Q:Nat→Prop) (A:List Nat→Nat→Prop) (v:Vv) (h:Heap),few t→VAt o Q h t A v →
  CallsH Try.prog 27 #[.agg (vvs v)] h (fun x h'=>Grow h h'∧∃v',x=.agg (vvs v')∧Fresh h h' t v'):=by
 refine Vl.ind (P:=fun t=>∀(o:Bool) (Q:Nat→Prop) (A:List Nat→Nat→Prop) (v:Vv) (h:Heap),few t→VAt o Q h t A v →
  CallsH Try.prog 27 #[.agg (vvs v)] h (fun x h'=>Grow h h'∧∃v',x=.agg (vvs v')∧Fresh h h' t v')) ?_ t
 intro k n nm ts al pa tg ih o Q A v h hfew hv
 obtain⟨hf1,hf2,hf3⟩:=few_mk.1 hfew
 obtain⟨e1,e2,e3,e4,e5,e6,e7,e8⟩:=vAt_iff.1 hv
 apply F27
 unfold L27
 refine newV (v:=v) fun h1 b1 f1 z1=>newV (v:=zVv) fun h2 b2 f2 z2=>?_
 have g2:=f1.trans f2
 have B1:=f2.blk b1 fun h=>h
 refine ldS_i (s:=v.ps) (Vv7.blk B1 3 _ rfl) ?_
 obtain⟨us,hul,hrow,hparts⟩:=parts_row (hv.grow g2)
 refine cal_of (cloneV_spec (by omega) hrow (by omega)) ?_
 rintro _ h3 ⟨f3,s7,rfl,o7⟩
 refine⟨s7,rfl,?_⟩
 have B13:=f3.blk B1 fun h=>h
 have B23:=f3.blk b2 fun h=>h
 have s3:=f3.size
 rw[add_plain]
 refine sto_i B13 (by simp) ?_
 have B14:blk (sc h3 ⟨h.size,0+3,none⟩ (.slice s7.a s7.n s7.c)) h.size (vvs { v with ps:=s7 }):=B13.sc 3 (.slice s7.a s7.n s7.c)
 have f4:Fr (fun b=>b=h.size) h3 (sc h3 ⟨h.size,0+3,none⟩ (.slice s7.a s7.n s7.c)):=Fr.scb _ _ _ _
 have z4:(sc h3 ⟨h.size,0+3,none⟩ (.slice s7.a s7.n s7.c)).size=h3.size:=sc_size _ _ _
 generalize sc h3 ⟨h.size,0+3,none⟩ (.slice s7.a s7.n s7.c)=h4 at *
 have B24:=f4.blk B23 (by omega)
 have g4:Grow h h4:=(g2.trans f3).trans' f4 fun i hi e=>by omega
 have o4:=o7.frame f4 fun b hb e=>by have:=(o7.ge hb).1;omega
 have hn7:s7.n=us.length:=by have:=o7.len;rw[c7_len] at this;omega
 refine ldS_i (s:=s7) (by rw[B14.cl];rfl) ?_
 refine⟨fun i h'=>∃(j:Nat) (ws:List Vv) (lab:Nat→Option (List Nat)),i=j∧j≤us.length∧ws.length=us.length∧Grow h h'∧h4.size≤h'.size∧blk h' h.size (vvs { v with ps:=s7 })∧blk h' h1.size (vvs zVv)∧Own h' h2.size 7 s7 (c7 ws) ∧
   (∀q (h1:q<ws.length) (h2:q<us.length),j≤q→ws[q]=us[q])∧(∀b,b<h4.size∨h'.size≤b→lab b=none) ∧
   (∀q (h1:q<ws.length) (h2:q<ts.length),q<j→VAt true (fun b=>h4.size≤b∧lab b=none) h' ts[q] (fun σ b=>lab b=some (q :: σ)) ws[q]),
  fun i _=>us.length - i.toNat,⟨0,us,fun _=>none,rfl,Nat.zero_le _,rfl,g4,Nat.le_refl _,B14,B24,o4,fun _ _ _ _=>rfl,fun _ _=>rfl,fun q _ _ h=>absurd h (Nat.not_lt_zero _)⟩,?_⟩
 rintro _ h5 ⟨j,ws,lab,rfl,hj,hwl,g5,z5,c1,c2,o5,hsame,hlab,hdone⟩
 refine ifb_iff (q:=j<us.length) (by rw[hn7];simp) (fun hlt=>?_) (fun hge=>?_)
 ·have hltw:j<ws.length:=by omega
  have hltt:j<ts.length:=by omega
  obtain⟨p,ea,op,⟨po,ps,cs,kcs,hcs⟩,T⟩:=own7 o5 hltw
  have hwu:=hsame j hltw hlt (Nat.le_refl _)
  rw[hwu] at T
  refine⟨p,ea,by omega,by rw[hn7];omega,?_⟩
  rw[Int.toNat_natCast]
  refine rd7 T ?_
  refine mineV (v:=us[j]) fun h7 b7 f7=>?_
  have s7':=f7.size
  have C1:=f7.blk c1 fun h=>h
  refine⟨fun h'=>blk h' h.size (vvs { v with ps:=s7 }),C1,?_⟩
  refine rd7 (Vv7.blk b7) ⟨s7,fun h' hs=>by rw[hs.cl];rfl,?_⟩
  have hvj:VAt o Q h7 ts[j] (shA A j) us[j]:=by
   have h0:=hparts j hlt hltt
   obtain⟨p0,u0,q1,q2,q3,q4,q5⟩:=e8 j hltt
   have hrow0:=hrow
   rw[q1] at hrow0
   have hu0:us[j]=u0:=by
    have hc:∀m (hm:m<7),(vvs us[j])[m]?=(vvs u0)[m]?:=fun m hm=>by
     have r1:=hrow0 (j*7+m) _ (by rw[c7_get us j hlt m hm];exact Array.getElem?_eq_getElem (by simpa using hm))
     have r2:=(q4.fr g2 fun h=>h) m _ (Array.getElem?_eq_getElem (show m<(vvs u0).size by simpa using hm))
     rw[add_add] at r2
     rw[r1] at r2
     rw[Array.getElem?_eq_getElem (show m<(vvs us[j]).size by simpa using hm),Array.getElem?_eq_getElem (show m<(vvs u0).size by simpa using hm)]
     exact r2
    have z0:=hc 0 (by omega)
    have z1:=hc 1 (by omega)
    have z2:=hc 2 (by omega)
    have z3:=hc 3 (by omega)
    have z4:=hc 4 (by omega)
    have z5:=hc 5 (by omega)
    have z6:=hc 6 (by omega)
    simp at z0 z1 z2 z3 z4 z5 z6
    generalize us[j]=a at *
    obtain⟨a1,a2,a3,⟨a4,a5,a6⟩,a7,⟨a8,a9,a10⟩,a11⟩:=a
    obtain⟨c1,c2,c3,⟨c4,c5,c6⟩,c7,⟨c8,c9,c10⟩,c11⟩:=u0
    simp only at z0 z1 z2 z3 z4 z5 z6
    obtain⟨rfl,rfl,rfl⟩:=z3
    obtain⟨rfl,rfl,rfl⟩:=z5
    subst z0 z1 z2 z4 z6
    rfl
   rw[hu0]
   exact (q5.grow g5).grow f7
  refine cal_of (ih ts[j] (List.getElem_mem hltt) o Q (shA A j) us[j] h7 (hf3 _ (List.getElem_mem hltt)) hvj) ?_
  rintro _ h8 ⟨f8,w,rfl,labc,hlc1,hlc2⟩
  have C8:=f8.blk C1 fun h=>h
  refine⟨_,_,_,w.ps,_,w.pa,_,rfl,C8,?_⟩
  have o8:=(o5.frame f7 fun _ _ h=>h).frame f8 fun _ _ h=>h
  refine⟨p,ea,by omega,by rw[hn7];omega,?_⟩
  refine own_stoA o8 (by omega) (vs:=(vvs w).toList) rfl (one_vv w) ea fun h9 o9 f9=>?_
  rw[c7_set ws j hltw w] at o9
  have hown:∀b,s7.own b→h2.size≤b∧b<h3.size:=fun b hb=>o7.ge hb
  have s9:=f9.size
  have s8:=f8.size
  rw[wrap_succ hlt (by omega)]
  refine⟨⟨j+1,ws.set j w,fun b=>if b<h7.size then lab b else (labc b).map (j :: ·),rfl,hlt,by rw[List.length_set];exact hwl,((g5.trans f7).trans f8).trans' f9 fun i hi e=>by have:=(hown i e).1;have:=g2.size;omega,by omega,
   f9.blk C8 fun e=>by have:=(hown _ e).1;omega,f9.blk ((f7.trans f8).blk c2 fun h=>h) (fun e=>by have:=(hown _ e).1;omega),o9,fun q q1 q2 hq=>?_,fun b hb=>?_,fun q q1 q2 hq=>?_⟩,by dsimp only;omega⟩
  ·rw[List.getElem_set_ne (by omega)]
   exact hsame q (by simpa using q1) q2 (by omega)
  ·show (if b<h7.size then lab b else (labc b).map (j :: ·))=none
   by_cases hb7:b<h7.size
   ·rw[if_pos hb7];exact hlab b (by omega)
   ·rw[if_neg hb7,hlc1 b (by omega)];rfl
  ·have hno:∀b,h4.size≤b→¬s7.own b:=fun b hb e=>by have:=(hown _ e).2;omega
   by_cases hqj:q=j
   ·subst hqj
    rw[List.getElem_set_self]
    refine (hlc2.fr f9 (fun b hb e=>hno b (by omega) e) fun σ b hb e=>?_).weak (fun b hb _=>⟨by omega,?_⟩) (fun h=>h) fun σ b hb _=>?_
    ·refine hno b ?_ e
     have:¬b<h7.size:=fun hl=>by rw[hlc1 b (.inl hl)] at hb;cases hb
     omega
    ·have:¬b<h7.size:=fun hl=>by rw[hlc1 b (.inl hl)] at hb;cases hb
     show (if b<h7.size then lab b else (labc b).map (q :: ·))=some (q :: σ)
     rw[if_neg this,hb];rfl
    ·have:¬b<h7.size:=by omega
     show (if b<h7.size then lab b else (labc b).map (q :: ·))=none
     rw[if_neg this,hb.2];rfl
   ·rw[List.getElem_set_ne (fun e=>hqj e.symm)]
    have hd:=hdone q (by simpa using q1) q2 (by omega)
    have hd5:VAt true (fun b=>(h4.size≤b∧lab b=none)∧b<h5.size) h5 ts[q] (fun σ b=>lab b=some (q :: σ)∧b<h5.size) ws[q]:=hd.weak (fun b hb hl=>⟨hb,hl⟩) (fun h=>h) fun σ b hb hl=>⟨hb,hl⟩
    refine (((hd5.grow f7).grow f8).fr f9 (fun b hb e=>hno b hb.1.1 e) fun σ b hb e=>?_).weak (fun b hb _=>⟨hb.1.1,?_⟩) (fun h=>h) fun σ b hb _=>?_
    ·refine hno b ?_ e
     rcases Nat.lt_or_ge b h4.size with hl|hl
     ·rw[hlab b (.inl hl)] at hb;cases hb.1
     ·exact hl
    ·show (if b<h7.size then lab b else (labc b).map (j :: ·))=some (q :: σ)
     rw[if_pos (by have:=hb.2;omega)];exact hb.1
    ·show (if b<h7.size then lab b else (labc b).map (j :: ·))=none
     rw[if_pos (by have:=hb.2;omega)];exact hb.1.2
 ·
  obtain rfl:j=us.length:=by omega
  have e65:=e6.fr g5 fun _ _ h=>h
  refine ldS_i (s:=v.pa) (by rw[add_plain,add_plain,c1.cl];rfl) ?_
  refine cal_of (cloneI_spec e65.ints hf2) ?_
  rintro _ h10 ⟨f10,sp,rfl,ip⟩
  refine⟨sp,rfl,?_⟩
  have C1:=f10.blk c1 fun h=>h
  have C2:=f10.blk c2 fun h=>h
  rw[add_plain,add_plain]
  refine sto_i C1 (by simp) ?_
  have C11:blk (sc h10 ⟨h.size,0+4+1,none⟩ (.slice sp.a sp.n sp.c)) h.size (vvs { v with ps:=s7,pa:=sp }):=C1.sc 5 (.slice sp.a sp.n sp.c)
  have f11:Fr (fun b=>b=h.size) h10 (sc h10 ⟨h.size,0+4+1,none⟩ (.slice sp.a sp.n sp.c)):=Fr.scb _ _ _ _
  have z11:(sc h10 ⟨h.size,0+4+1,none⟩ (.slice sp.a sp.n sp.c)).size=h10.size:=sc_size _ _ _
  generalize sc h10 ⟨h.size,0+4+1,none⟩ (.slice sp.a sp.n sp.c)=h11 at *
  refine rd7 (Vv7.blk C11) ?_
  refine stoV (v:={ v with ps:=s7,pa:=sp }) (f11.blk C2 (by omega)) rfl fun h12 b12 f12=>rd7 (Vv7.blk b12) ?_
  have s10:=f10.size
  have s12:=f12.size
  refine⟨(((g5.trans f10).trans' f11 fun i hi e=>by omega)).trans' f12 fun i hi e=>by omega,_,rfl,?_⟩
  have hown:∀b,s7.own b→h2.size≤b∧b<h3.size:=fun b hb=>o7.ge hb
  refine⟨fun b=>if h4.size≤b∧b<h5.size then lab b else if s7.a.map (·.block)=some b∧b<h3.size∧h2.size≤b then some [] else none,fun b hb=>?_,?_⟩
  ·show (if h4.size≤b∧b<h5.size then lab b else if s7.a.map (·.block)=some b∧b<h3.size∧h2.size≤b then some [] else none)=none
   by_cases q:h4.size≤b∧b<h5.size
   ·omega
   ·rw[if_neg q,if_neg (by have:=g2.size;omega)]
  ·refine vAt_iff.2 ⟨e1,e2,e3,e4,e5,?_,by show s7.n=_;omega,fun q hq=>?_⟩
   ·refine ((ip.fr f11 fun b hb e=>by omega).fr f12 fun b hb e=>by omega).weak fun b hb _=>⟨by omega,?_⟩
    have hnot:¬(h4.size≤b∧b<h5.size):=by omega
    show (if h4.size≤b∧b<h5.size then lab b else if s7.a.map (·.block)=some b∧b<h3.size∧h2.size≤b then some [] else none)=none
    rw[if_neg hnot,if_neg (by omega)]
   ·have hqw:q<ws.length:=by omega
    obtain⟨p,ea,op,⟨po,psp,cs,kcs,hcs⟩,T⟩:=own7 o5 hqw
    have hob:=hown _ op
    have hd:=hdone q hqw hq (by omega)
    have hd5:VAt true (fun b=>(h4.size≤b∧lab b=none)∧b<h5.size) h5 ts[q] (fun σ b=>lab b=some (q :: σ)∧b<h5.size) ws[q]:=hd.weak (fun b hb hl=>⟨hb,hl⟩) (fun h=>h) fun σ b hb hl=>⟨hb,hl⟩
    have n1:¬p.block=h.size:=by omega
    have n2:¬p.block=h1.size:=by omega
    refine⟨p,ws[q],ea,?_,fun _=>⟨po,psp,cs,f12.blk (f11.blk (f10.blk kcs fun h=>h) n1) n2,hcs⟩,(((T.fr f10 fun h=>h).fr f11 (by rw[add_block];exact n1)).fr f12 (by rw[add_block];exact n2)),?_⟩
    ·show (if h4.size≤p.block∧p.block<h5.size then lab p.block else if s7.a.map (·.block)=some p.block∧p.block<h3.size∧h2.size≤p.block then some [] else none)=some []
     have hnot:¬(h4.size≤p.block∧p.block<h5.size):=by omega
     rw[if_neg hnot,if_pos ⟨by rw[ea];rfl,hob.2,hob.1⟩]
    ·have hbig:∀σ b,lab b=some (q :: σ)→h4.size≤b:=fun σ b hb=>by
      rcases Nat.lt_or_ge b h4.size with hl|hl
      ·rw[hlab b (.inl hl)] at hb;cases hb
      ·exact hl
     refine ((((hd5.grow f10).fr f11 (fun b hb e=>by omega) fun σ b hb e=>by have:=hbig σ b hb.1;omega)).fr f12 (fun b hb e=>by omega) fun σ b hb e=>by have:=hbig σ b hb.1;omega).weak (fun b hb _=>⟨by omega,?_⟩) (fun h=>h) fun σ b hb _=>?_
     ·show (if h4.size≤b∧b<h5.size then lab b else _)=some (q :: σ)
      rw[if_pos ⟨hbig σ b hb.1,hb.2⟩];exact hb.1
     ·show (if h4.size≤b∧b<h5.size then lab b else _)=none
      rw[if_pos ⟨hb.1.1,hb.2⟩];exact hb.1.2
end
end Go.Proofs.Ytggacajnmgligaa
namespace Go.Proofs.Ytggacajnmgligaa
open Go Go.Lf
set_option linter.unusedVariables false
section
variable {h:Heap}
theorem eq_spec {a b:Sv} {xs ys:List Int} (hx:IntsAt h a xs) (hy:IntsAt h b ys) (hb:xs.length≤1000000):CallsH Try.prog 58 #[.slice a.a a.n a.c,.slice b.a b.n b.c] h (fun v h'=>h=h'∧v=.bool (xs == ys)):=by
 apply F58
 unfold L58
 rw[hx.len,hy.len]
 refine ifb_iff (q:=xs.length≠ys.length) (by simp;omega) (fun hne=>⟨rfl,?_⟩) (fun heq=>?_)
 ·have:(xs == ys)=false:=by
   rw[beq_eq_false_iff_ne]
   exact fun e=>hne (by rw[e])
  rw[this]
 have heq:xs.length=ys.length:=by omega
 refine⟨fun i=>∃j:Nat,i=j∧j≤xs.length∧xs.take j=ys.take j,fun i=>xs.length - i.toNat,⟨0,rfl,Nat.zero_le _,rfl⟩,?_⟩
 rintro _ ⟨j,rfl,hj,hh⟩
 refine ifb_iff (q:=j<xs.length) (by simp) (fun hlt=>?_) (fun hge=>?_)
 ·have hlt':j<ys.length:=by omega
  obtain⟨p,e1,c1⟩:=hx.at_ j hlt
  obtain⟨q,e2,c2⟩:=hy.at_ j hlt'
  refine⟨p,e1,by omega,by rw[hx.len];omega,_,by rw[Int.toNat_natCast];exact c1,q,e2,by omega,by rw[hy.len];omega,_,by rw[Int.toNat_natCast];exact c2,fun e=>⟨rfl,?_⟩,fun e=>?_⟩
  ·have:(xs == ys)=false:=by
    rw[beq_eq_false_iff_ne]
    intro he
    subst he
    simp at e
   rw[this]
  ·have e':xs[j]=ys[j]:=by simpa using e
   rw[wrap_succ hlt (by omega)]
   refine⟨⟨j+1,rfl,hlt,?_⟩,by simp;omega⟩
   rw[List.take_succ_eq_append_getElem hlt,List.take_succ_eq_append_getElem hlt',hh,e']
 ·have:j=xs.length:=by omega
  subst this
  rw[List.take_length,heq,List.take_length] at hh
  exact⟨rfl,by rw[hh];simp⟩
structure PAt (h:Heap) (s:Sv) (xs:List Int):Prop where
 ints:IntsAt h s xs
 cap:s.n≤s.c
 few:xs.length≤1000000
theorem PAt.grow {h h':Heap} {s:Sv} {xs:List Int} (x:PAt h s xs) (g:Grow h h'):PAt h' s xs:=⟨x.ints.keep g fun _ _ h=>h,x.cap,x.few⟩
theorem PAt.nil (h:Heap):PAt h ⟨none,0,0⟩ []:=⟨⟨rfl,fun i hi=>by simp at hi⟩,Nat.le_refl _,by simp⟩
theorem PAt.ofC {Q:Nat→Prop} {s:Sv} {xs:List Int} (x:IntsC Q h s xs) (hf:xs.length≤1000000):PAt h s xs:=⟨x.ints,x.cap,hf⟩
theorem PAt.head {s:Sv} {xs:List Int} (x:PAt h s xs) {m:Nat} (hm:m≤xs.length):IntsAt h ⟨s.a,m,s.c⟩ (xs.take m):=by
 refine⟨by simp;omega,fun i hi=>?_⟩
 have hi':i<xs.length:=by simp at hi;omega
 obtain⟨p,e,c⟩:=x.ints.at_ i hi'
 exact⟨p,e,by simpa using c⟩
def begB (xs ys:List Int):Bool:=decide (xs.length≤ys.length) && xs == ys.take xs.length
theorem begins_spec {sa sb:Sv} {xs ys:List Int} (ha:PAt h sa xs) (hb:PAt h sb ys):CallsH Try.prog 47 #[.slice sa.a sa.n sa.c,.slice sb.a sb.n sb.c] h (fun v h'=>h=h'∧v=.bool (begB xs ys)):=by
 apply F47
 unfold L47
 have hna:=ha.ints.len
 have hnb:=hb.ints.len
 unfold begB
 refine⟨fun v h'=>h=h'∧v=(decide (xs.length≤ys.length) && xs == ys.take xs.length),?_,fun _ _ ⟨rfl,e⟩=>⟨rfl,by rw[e]⟩⟩
 refine ifb_iff (q:=xs.length≤ys.length) (by rw[hna,hnb];simp) (fun hle=>?_) (fun hgt=>⟨rfl,by rw[decide_eq_false hgt];rfl⟩)
 refine slS_head (m:=sa.n) (by have:=hb.cap;omega) ?_
 rw[hna]
 refine cal_of (f:=58) (eq_spec (a:=⟨sa.a,xs.length,sa.c⟩) (b:=⟨sb.a,xs.length,sb.c⟩) (h:=h) (by have:=ha.ints;rw[←hna];exact this) (hb.head hle) ha.few) ?_
 rintro _ _ ⟨rfl,rfl⟩
 exact⟨_,rfl,rfl,by rw[decide_eq_true hle];rfl⟩
def ovB (xs ys:List Int):Bool:=begB xs ys || begB ys xs
theorem overlap_spec {sa sb:Sv} {xs ys:List Int} (ha:PAt h sa xs) (hb:PAt h sb ys):CallsH Try.prog 48 #[.slice sa.a sa.n sa.c,.slice sb.a sb.n sb.c] h (fun v h'=>h=h'∧v=.bool (ovB xs ys)):=by
 apply F48
 unfold L48
 refine cal_of (begins_spec ha hb) ?_
 rintro _ _ ⟨rfl,rfl⟩
 refine⟨_,rfl,fun v h'=>h=h'∧v=ovB xs ys,⟨fun e=>⟨rfl,by unfold ovB;rw[e];rfl⟩,fun e=>?_⟩,fun _ _ ⟨rfl,e⟩=>⟨rfl,by rw[e]⟩⟩
 refine cal_of (begins_spec hb ha) ?_
 rintro _ _ ⟨rfl,rfl⟩
 exact⟨_,rfl,rfl,by unfold ovB;rw[e];rfl⟩
noncomputable def wholeV:Vl→Bool:=Vl.rec (motive_1:=fun _=>Bool) (motive_2:=fun _=>Bool) (fun k _ _ _ _ _ _ ih=>decide (k≠0) && ih) true (fun _ _ a b=>a && b)
theorem whole_mk {k n:Int} {nm:ByteArray} {ts:List Vl} {al:Int} {pa:List Int} {tg:Int}:wholeV (.mk k n nm ts al pa tg)=(decide (k≠0) && ts.all wholeV):=by
 have e:∀ts:List Vl,(Vl.rec_1 (motive_1:=fun _=>Bool) (motive_2:=fun _=>Bool) (fun k _ _ _ _ _ _ ih=>decide (k≠0) && ih) true (fun _ _ a b=>a && b) ts:Bool)=ts.all wholeV:=by
  intro ts
  induction ts with
  | nil=>rfl
  | cons a ts ih=>rw[List.all_cons,←ih];rfl
 rw[←e];rfl
theorem whole_spec (t:Vl):∀(o:Bool) (Q:Nat→Prop) (A:List Nat→Nat→Prop) (v:Vv) (h:Heap),few t→VAt o Q h t A v →
  CallsH Try.prog 49 #[.agg (vvs v)] h (fun x h'=>Grow h h'∧x=.bool (wholeV t)):=by
 refine Vl.ind (P:=fun t=>∀(o:Bool) (Q:Nat→Prop) (A:List Nat→Nat→Prop) (v:Vv) (h:Heap),few t→VAt o Q h t A v →
  CallsH Try.prog 49 #[.agg (vvs v)] h (fun x h'=>Grow h h'∧x=.bool (wholeV t))) ?_ t
 intro k n nm ts al pa tg ih o Q A v h hfew hv
 obtain⟨hf1,hf2,hf3⟩:=few_mk.1 hfew
 obtain⟨e1,e2,e3,e4,e5,e6,e7,e8⟩:=vAt_iff.1 hv
 apply F49
 unfold L49
 refine newV (v:=v) fun h1 b1 f1 z1=>?_
 refine ldI_i (x:=v.k) (by rw[b1.cl];rfl) ?_
 refine⟨fun x h'=>Grow h1 h'∧x=wholeV (.mk k n nm ts al pa tg),⟨fun ek=>?_,fun ek=>⟨Fr.refl _ _,?_⟩⟩,fun _ h2 ⟨f2,e⟩=>⟨f1.trans f2,by rw[e]⟩⟩
 rotate_left
 ·have hk:k=0:=by rw[←e1];simpa using ek
  rw[whole_mk,hk];rfl
 have hk:k≠0:=by rw[←e1];simpa using ek
 rw[whole_mk,decide_eq_true hk,Bool.true_and]
 refine ldS_i (s:=v.ps) (by rw[add_plain,b1.cl];rfl) ?_
 refine cal_of (f:=59) (J:=fun x h'=>Grow h1 h'∧x=.bool (!ts.all wholeV)) ?_ ?_
 rotate_left
 ·rintro _ h3 ⟨f3,rfl⟩
  exact⟨_,rfl,f3,by simp⟩
 apply F59
 unfold L59
 refine cal_of (f:=63) (J:=fun x h'=>Grow h1 h'∧∃i:Int,x=.int .i64 i∧decide (0≤i)=!ts.all wholeV) ?_ ?_
 rotate_left
 ·rintro _ h3 ⟨f3,i,rfl,e⟩
  exact⟨_,rfl,f3,by rw[e]⟩
 apply F63
 unfold L63
 refine⟨fun i h'=>∃j:Nat,i=j∧j≤ts.length∧Grow h1 h'∧(ts.take j).all wholeV=true,fun i _=>ts.length - i.toNat,⟨0,rfl,Nat.zero_le _,Fr.refl _ _,rfl⟩,?_⟩
 rintro _ h3 ⟨j,rfl,hj,f3,hall⟩
 refine ifb_iff (q:=j<ts.length) (by rw[e7];simp) (fun hlt=>?_) (fun hge=>?_)
 ·obtain⟨p,u,q1,q2,q3,q4,q5⟩:=e8 j hlt
  have g3:=f1.trans f3
  refine⟨p,q1,by omega,by rw[e7];omega,?_⟩
  rw[Int.toNat_natCast]
  refine rd7 (q4.fr g3 fun h=>h) ?_
  refine⟨_,_,rfl,⟨Try.f60,Try.func60,by kernel_rfl,by kernel_rfl⟩,?_⟩
  refine cal_of (f:=60) (J:=fun x h'=>Grow h3 h'∧x=.bool (!wholeV ts[j])) ?_ ?_
  ·apply F60
   unfold L60
   refine newV (v:=u) fun h4 b4 f4 z4=>?_
   refine rd7 (Vv7.blk b4) ?_
   refine cal_of (ih ts[j] (List.getElem_mem hlt) o Q (shA A j) u h4 (hf3 _ (List.getElem_mem hlt)) ((q5.grow g3).grow f4)) ?_
   rintro _ h5 ⟨f5,rfl⟩
   exact⟨_,rfl,f4.trans f5,rfl⟩
  ·rintro _ h4 ⟨f4,rfl⟩
   refine⟨_,rfl,fun e=>⟨f3.trans f4,_,rfl,?_⟩,fun e=>?_⟩
   ·have hw:wholeV ts[j]=false:=by simpa using e
    have:ts.all wholeV=false:=by
     rw[List.all_eq_false]
     exact⟨_,List.getElem_mem hlt,by simp[hw]⟩
    rw[this];simp
   ·have hw:wholeV ts[j]=true:=by simpa using e
    rw[wrap_succ hlt (by omega)]
    refine⟨⟨j+1,rfl,hlt,f3.trans f4,?_⟩,by dsimp only;omega⟩
    rw[List.take_succ_eq_append_getElem hlt,List.all_append,hall]
    simp[hw]
 ·have:j=ts.length:=by omega
  subst this
  rw[List.take_length] at hall
  exact⟨f3,_,rfl,by rw[hall];rfl⟩
def natsOf (xs:List Int):List Nat:=xs.map Int.toNat
theorem getV_getN:∀(xs:List Int) (t y:Vl),getV t xs=.ok y→getN t (natsOf xs)=some y
 | [],t,y,h=>by
  unfold getV at h
  simp only[Except.ok.injEq] at h
  subst h;rfl
 | i :: xs,.mk k n nm ts al pa tg,y,h=>by
  unfold getV at h
  split at h
  ·cases h
  split at h
  ·cases h
  show (match ts[i.toNat]? with|some u=>getN u (natsOf xs)|none=>none)=some y
  split at h
  ·rename_i u hu
   rw[hu]
   exact getV_getN xs u y h
  ·cases h
theorem getV_few:∀(xs:List Int) (t y:Vl),getV t xs=.ok y→few t→few y
 | [],t,y,h,hf=>by
  unfold getV at h
  simp only[Except.ok.injEq] at h
  subst h;exact hf
 | i :: xs,.mk k n nm ts al pa tg,y,h,hf=>by
  unfold getV at h
  split at h
  ·cases h
  split at h
  ·cases h
  split at h
  ·rename_i u hu
   exact getV_few xs u y h ((few_mk.1 hf).2.2 u (List.mem_of_getElem? hu))
  ·cases h
theorem part_spec {o:Bool} {Q:Nat→Prop} {A:List Nat→Nat→Prop} {t:Vl} {v:Vv} {p0:Addr} {s:Sv} {xs:List Int} (ht:VAt o Q h t A v) (hv:Vv7 h (p0.add 1) v) (hx:IntsAt h s xs) (hl:xs.length≤1000000) :
  CallsH Try.prog 32 #[.pointer (some p0),.slice s.a s.n s.c] h (fun x h'=>h=h'∧match getV t xs with
   | .ok _=>∃p,x=.tuple #[.pointer (some p),.int .i64 0]∧Pl h (p0.add 1) (natsOf xs) p
   | .error f=>x=.tuple #[.pointer none,.int .i64 f]):=by
 apply F32
 unfold L32
 refine⟨p0,rfl,?_⟩
 refine⟨fun v6 i=>∃(j:Nat) (p:Addr) (u:Vv) (y:Vl) (o':Bool) (A':List Nat→Nat→Prop),i=j∧v6=some p∧j≤xs.length∧VAt o' Q h y A' u∧Vv7 h p u∧getV t xs=getV y (xs.drop j)∧∀q,Pl h p (natsOf (xs.drop j)) q→Pl h (p0.add 1) (natsOf xs) q,fun _ i=>xs.length - i.toNat,⟨0,p0.add 1,v,t,o,A,rfl,rfl,Nat.zero_le _,ht,hv,rfl,fun q hq=>hq⟩,?_⟩
 rintro _ _ ⟨j,p,u,⟨k,n,nm,ts,al,pa,tg⟩,o',A',rfl,rfl,hj,hy,hu,hg,hq⟩
 refine ifb_iff (q:=j<xs.length) (by rw[hx.len];simp) (fun hlt=>?_) (fun hge=>?_)
 rotate_left
 ·obtain rfl:j=xs.length:=by omega
  rw[List.drop_length] at hg hq
  rw[hg]
  exact⟨rfl,p,rfl,hq _ rfl⟩
 obtain⟨e1,e2,e3,e4,e5,e6,e7,e8⟩:=vAt_iff.1 hy
 obtain⟨q,ea,c⟩:=hx.at_ j hlt
 refine⟨q,ea,by omega,by rw[hx.len];omega,?_⟩
 rw[Int.toNat_natCast]
 refine ldI_i c ?_
 have hd:xs.drop j=xs[j] :: xs.drop (j+1):=List.drop_eq_getElem_cons hlt
 rw[hd] at hg hq
 generalize xs[j]=i at *
 have hk:cl h p=some (.int .i64 u.k):=by have:=hu 0 _ rfl;rwa [add_zero] at this
 have hs:cl h (p.add 3)=some (.slice u.ps.a u.ps.n u.ps.c):=hu 3 _ rfl
 refine⟨p,rfl,ldI_i hk ?_⟩
 rw[e1]
 refine ifb_iff (q:=k=0) (by simp) (fun hk0=>?_) (fun hk0=>?_)
 ·rw[hg];unfold getV;rw[if_pos hk0]
  exact⟨rfl,rfl⟩
 refine⟨p,rfl,ldI_i hk ?_⟩
 rw[e1]
 refine⟨fun b=>b=decide (k≠5∨i<0∨(ts.length:Int)≤i),⟨fun e=>?_,fun e=>?_⟩,?_⟩
 ·have:k≠5∨i<0:=by simpa using e
  have h3:k≠5∨i<0∨(ts.length:Int)≤i:=this.elim .inl fun h=>.inr (.inl h)
  exact (decide_eq_true h3).symm
 ·have e':k=5∧0≤i:=by simpa using e
  refine⟨p,rfl,ldS_i hs ?_⟩
  rw[e7]
  simp only[ne_eq,e'.1,not_true,false_or]
  have h0:¬i<0:=by omega
  simp only[h0,false_or]
 intro x42 hx42
 refine ifb_iff (q:=k≠5∨i<0∨(ts.length:Int)≤i) (by rw[hx42];exact decide_eq_true_iff) (fun hbad=>?_) (fun hok=>?_)
 ·rw[hg];unfold getV;rw[if_neg hk0,if_pos hbad]
  exact⟨rfl,rfl⟩
 have hok':k=5∧0≤i∧i<(ts.length:Int):=by
  refine⟨Decidable.not_not.1 fun e=>hok (.inl e),Int.not_lt.1 fun e=>hok (.inr (.inl e)),Int.not_le.1 fun e=>hok (.inr (.inr e))⟩
 have hit:i.toNat<ts.length:=by omega
 obtain⟨q',u',r1,r2,r3,r4,r5⟩:=e8 i.toNat hit
 refine⟨p,rfl,ldS_i hs ⟨q',r1,hok'.2.1,by rw[e7];exact hok'.2.2,?_⟩⟩
 rw[wrap_succ hlt (by omega)]
 refine⟨⟨j+1,_,u',ts[i.toNat],o',shA A' i.toNat,rfl,rfl,hlt,r5,r4,?_,fun z hz=>hq z ⟨u.ps,q',hs,r1,hz⟩⟩,by dsimp only;omega⟩
 rw[hg]
 conv=>lhs;unfold getV
 rw[if_neg hk0,if_neg hok,List.getElem?_eq_getElem hit]
theorem get_spec {o:Bool} {Q:Nat→Prop} {A:List Nat→Nat→Prop} {t:Vl} {v:Vv} {p0:Addr} {s:Sv} {xs:List Int} (ht:VAt o Q h t A v) (hv:Vv7 h (p0.add 1) v) (hx:IntsAt h s xs) (hl:xs.length≤1000000) (hfew:few t) :
  CallsH Try.prog 29 #[.pointer (some p0),.slice s.a s.n s.c] h (fun x h'=>Grow h h'∧match getV t xs with
   | .ok y=>if wholeV y=true then ∃p,x=.tuple #[.pointer (some p),.int .i64 0]∧Pl h (p0.add 1) (natsOf xs) p else x=.tuple #[.pointer none,.int .i64 3]
   | .error f=>x=.tuple #[.pointer none,.int .i64 f]):=by
 apply F29
 unfold L29
 refine cal_of (part_spec ht hv hx hl) ?_
 rintro x _ ⟨rfl,hm⟩
 cases hg:getV t xs with
 | error f=>
  rw[hg] at hm
  have hf:f≠0:=by
   clear hm ht hv
   intro e
   subst e
   revert hg
   generalize t=t'
   clear hx hl hfew
   induction xs generalizing t' with
   | nil=>intro h;unfold getV at h;cases h
   | cons i xs ih=>
    obtain⟨k,n,nm,ts,al,pa,tg⟩:=t'
    intro h
    unfold getV at h
    split at h
    ·cases h
    split at h
    ·cases h
    split at h
    ·exact ih _ h
    ·cases h
  have hm:x=.tuple #[.pointer none,.int .i64 f]:=hm
  subst hm
  refine⟨_,rfl,_,rfl,_,rfl,_,rfl,_,rfl,fun e=>⟨Fr.refl _ _,rfl⟩,fun e=>?_⟩
  exact absurd (by simpa using e) hf
 | ok y=>
  rw[hg] at hm
  obtain⟨p,rfl,hpl⟩:=hm
  refine⟨_,rfl,_,rfl,_,rfl,_,rfl,_,rfl,fun e=>by simp at e,fun _=>?_⟩
  obtain⟨u,hu,hyu,-⟩:=hpl.at_ hv ht (getV_getN xs t y hg)
  refine⟨p,rfl,rd7 hu ?_⟩
  refine cal_of (whole_spec y o Q _ u h (getV_few xs t y hg hfew) hyu) ?_
  rintro _ h2 ⟨f2,rfl⟩
  refine⟨_,rfl,fun e=>⟨f2,?_⟩,fun e=>⟨f2,?_⟩⟩
  ·have:¬wholeV y=true:=by simpa using e
   show if wholeV y=true then _ else _
   rw[if_neg this]
  ·have:wholeV y=true:=by simpa using e
   show if wholeV y=true then _ else _
   rw[if_pos this]
   exact⟨p,rfl,hpl⟩
end
end Go.Proofs.Ytggacajnmgligaa
namespace Go.Proofs.Ytggacajnmgligaa
open Go Go.Lf
set_option linter.unusedVariables false
structure Hd where
 tg:Int
 pa:List Int
 uq:Bool
structure Al where
 live:Bool
 v:Vl
 st:List Hd
structure Hs where
 l:List Al
 tags:Int
 live:Int
 most:Int
 watch:Bool
abbrev zVl:Vl:=.mk 0 0 ⟨#[]⟩ [] 0 [] 0
inductive Lb where
 | no
 | q
 | hp
 | al
 | bx (i:Nat)
 | st (i:Nat)
 | pt (i:Nat) (σ:List Nat)
structure Hr where
 tg:Int
 s:Sv
 uq:Bool
abbrev hvs (x:Hr):Array Value:=#[.int .i64 x.tg,.slice x.s.a x.s.n x.s.c,.bool x.uq]
def c3 (us:List Hr):List Value:=us.flatMap fun u=>(hvs u).toList
theorem c3_len (us:List Hr):(c3 us).length=us.length*3:=by
 induction us with
 | nil=>rfl
 | cons a l ih=>
  have e:c3 (a :: l)=(hvs a).toList++c3 l:=rfl
  rw[e,List.length_append,ih,List.length_cons]
  simp
  omega
theorem c3_app (l m:List Hr):c3 (l++m)=c3 l++c3 m:=by simp[c3]
theorem c3_get:∀(us:List Hr) (i:Nat) (hi:i<us.length) (q:Nat),q<3→(c3 us)[i*3+q]?=(hvs us[i])[q]?
 | a :: us,0,_,q,hq=>by
  have e:c3 (a :: us)=(hvs a).toList++c3 us:=rfl
  rw[e,Nat.zero_mul,Nat.zero_add,List.getElem?_append_left (by simpa [hvs] using hq)]
  simp
 | a :: us,i+1,hi,q,hq=>by
  have e:c3 (a :: us)=(hvs a).toList++c3 us:=rfl
  have:=c3_get us i (by simpa using hi) q hq
  rw[e,List.getElem?_append_right (by simp;omega)]
  have e2:(i+1)*3+q - (hvs a).toList.length=i*3+q:=by simp;omega
  rw[e2,this]
  simp
theorem c3_take:∀(us:List Hr) (i:Nat),(c3 us).take (i*3)=c3 (us.take i)
 | [],i=>by simp[c3]
 | a :: us,0=>by simp[c3]
 | a :: us,i+1=>by
  have e:c3 (a :: us)=(hvs a).toList++c3 us:=rfl
  have e2:c3 ((a :: us).take (i+1))=(hvs a).toList++c3 (us.take i):=rfl
  rw[e,e2,←c3_take us i,List.take_append]
  have hl:(hvs a).toList.length=3:=rfl
  rw[hl,List.take_of_length_le (by rw[hl];omega)]
  congr 2
  omega
theorem one_hv (x:Hr):∀u∈(hvs x).toList,u.oneCell'=true:=by
 intro u hu
 simp only[List.mem_cons,List.not_mem_nil,or_false] at hu
 rcases hu with rfl|rfl|rfl<;>rfl
abbrev bxs (live:Bool) (v:Vv) (s:Sv):Array Value:=#[.bool live,.int .i64 v.k,.int .u64 v.n,.string v.nm,.slice v.ps.a v.ps.n v.ps.c,.int .i64 v.al,.slice v.pa.a v.pa.n v.pa.c,.int .i64 v.tg,.slice s.a s.n s.c]
abbrev hps (s:Sv) (tags live most:Int) (w:Bool):Array Value:=#[.slice s.a s.n s.c,.int .i64 tags,.int .i64 live,.int .i64 most,.bool w]
theorem bx7 {h:Heap} {b:Nat} {live:Bool} {v:Vv} {s:Sv} (k:blk h b (bxs live v s)):Vv7 h ⟨b,1,none⟩ v:=by
 intro j u hu
 rw[add_plain,k.cl]
 have hj:j<7:=(Array.getElem?_eq_some_iff.1 hu).1
 match j,hj with
 | 0,_=>exact hu
 | 1,_=>exact hu
 | 2,_=>exact hu
 | 3,_=>exact hu
 | 4,_=>exact hu
 | 5,_=>exact hu
 | 6,_=>exact hu
def ptr (b:Nat):Value:=.pointer (some ⟨b,0,none⟩)
def StAt (lab:Nat→Lb) (h:Heap) (i:Nat) (s:Sv) (st:List Hd):Prop:=
 ∃zs:List (Hr×Hd),zs.map (·.2)=st∧Own h 0 3 s (c3 (zs.map (·.1)))∧(∀b,s.own b→lab b=.st i)∧∀z∈zs,z.1.tg=z.2.tg∧z.1.uq=z.2.uq∧IntsC (fun b=>lab b=.q) h z.1.s z.2.pa∧z.2.pa.length≤1000000
def BxAt (lab:Nat→Lb) (h:Heap) (i b:Nat) (a:Al):Prop:=
 lab b=.bx i∧few a.v∧∃v s,blk h b (bxs a.live v s)∧VAt true (fun c=>lab c=.q) h a.v (fun σ c=>lab c=.pt i σ) v∧StAt lab h i s a.st
structure HpAt (lab:Nat→Lb) (h:Heap) (hp:Nat) (S:Hs) (s:Sv) (bs:List Nat):Prop where
 hd:blk h hp (hps s S.tags S.live S.most S.watch)
 lhp:lab hp=.hp
 len:bs.length=S.l.length
 al:Own h 0 1 s (bs.map ptr)
 lal:∀b,s.own b→lab b=.al
 bx:∀i (h1:i<bs.length) (h2:i<S.l.length),BxAt lab h i bs[i] S.l[i]
 out:∀b,h.size≤b→lab b=.no
section
variable {lab lab':Nat→Lb} {h h':Heap} {T:Nat→Prop} {hp:Nat} {S:Hs} {s:Sv} {bs:List Nat}
theorem StAt.to {i:Nat} {u:Sv} {st:List Hd} (x:StAt lab h i u st) (f:Fr T h h') (hT:∀b,lab b=.st i∨lab b=.q→¬T b) (hl:∀b,b<h.size→lab b=.st i∨lab b=.q→lab' b=lab b):StAt lab' h' i u st:=by
 obtain⟨zs,e1,o,e2,e3⟩:=x
 refine⟨zs,e1,o.frame f fun b hb=>hT b (.inl (e2 b hb)),fun b hb=>?_,fun z hz=>?_⟩
 ·rw[hl b (o.ge hb).2 (.inl (e2 b hb))];exact e2 b hb
 ·obtain⟨a1,a2,a3,a4⟩:=e3 z hz
  have b3:IntsC (fun b=>lab b=.q∧b<h.size) h z.1.s z.2.pa:=a3.weak fun b hb hs=>⟨hb,hs⟩
  refine⟨a1,a2,(b3.fr f fun b hb=>hT b (.inr hb.1)).weak fun b hb _=>?_,a4⟩
  rw[hl b hb.2 (.inr hb.1)];exact hb.1
def Fam (i:Nat) (l:Lb):Prop:=l=.bx i∨l=.st i∨∃σ,l=.pt i σ
theorem vTo {i:Nat} {t:Vl} {v:Vv} {o:Bool} (x:VAt o (fun c=>lab c=.q) h t (fun σ c=>lab c=.pt i σ) v) (f:Fr T h h') (hT:∀b,(∃σ,lab b=.pt i σ)∨lab b=.q→¬T b) (hl:∀b,b<h.size→(∃σ,lab b=.pt i σ)∨lab b=.q→lab' b=lab b) :
  VAt o (fun c=>lab' c=.q) h' t (fun σ c=>lab' c=.pt i σ) v:=by
 have x1:VAt o (fun c=>lab c=.q∧c<h.size) h t (fun σ c=>lab c=.pt i σ∧c<h.size) v:=x.weak (fun b hb hs=>⟨hb,hs⟩) (fun h=>h) fun σ b hb hs=>⟨hb,hs⟩
 refine (x1.fr f (fun b hb=>hT b (.inr hb.1)) fun σ b hb=>hT b (.inl ⟨σ,hb.1⟩)).weak (fun b hb _=>?_) (fun h=>h) fun σ b hb _=>?_
 ·rw[hl b hb.2 (.inr hb.1)];exact hb.1
 ·rw[hl b hb.2 (.inl ⟨σ,hb.1⟩)];exact hb.1
theorem BxAt.to {i b:Nat} {a:Al} (x:BxAt lab h i b a) (f:Fr T h h') (hT:∀c,Fam i (lab c)∨lab c=.q→¬T c) (hl:∀c,c<h.size→Fam i (lab c)∨lab c=.q→lab' c=lab c):BxAt lab' h' i b a:=by
 obtain⟨e1,e2,v,u,k,e3,e4⟩:=x
 refine⟨by rw[hl b k.lt (.inl (.inl e1))];exact e1,e2,v,u,f.blk k (hT b (.inl (.inl e1))),?_,?_⟩
 ·exact vTo e3 f (fun c hc=>hT c (hc.imp (fun h=>.inr (.inr h)) id)) fun c h1 hc=>hl c h1 (hc.imp (fun h=>.inr (.inr h)) id)
 ·exact e4.to f (fun c hc=>hT c (hc.imp (fun h=>.inr (.inl h)) id)) fun c h1 hc=>hl c h1 (hc.imp (fun h=>.inr (.inl h)) id)
theorem HpAt.fr (x:HpAt lab h hp S s bs) (f:Fr T h h') (hT:∀b,T b→lab b=.no):HpAt lab h' hp S s bs:=by
 have hn:∀b,lab b≠.no→¬T b:=fun b hb ht=>hb (hT b ht)
 refine⟨f.blk x.hd (hn _ (by rw[x.lhp];exact Lb.noConfusion)),x.lhp,x.len,x.al.frame f fun b hb=>hn b (by rw[x.lal b hb];exact Lb.noConfusion),x.lal,fun i h1 h2=>(x.bx i h1 h2).to f (fun c hc=>hn c ?_) fun c _ _=>rfl,fun b hb=>x.out b (Nat.le_trans f.size hb)⟩
 rcases hc with (hc|hc|⟨σ,hc⟩)|hc<;>rw[hc]<;>exact Lb.noConfusion
theorem HpAt.grow (x:HpAt lab h hp S s bs) (f:Grow h h'):HpAt lab h' hp S s bs:=x.fr f fun _ h=>h.elim
theorem HpAt.set (x:HpAt lab h hp S s bs) {i:Nat} {a':Al} (f:Fr T h h') (hT:∀b,T b→b<h.size→Fam i (lab b)∨lab b=.no) (hl:∀b,b<h.size→¬Fam i (lab b)→lab' b=lab b)
  (hi:i<bs.length) (nb:BxAt lab' h' i bs[i] a') (hn:∀b,h'.size≤b→lab' b=.no):HpAt lab' h' hp { S with l:=S.l.set i a' } s bs:=by
 have hnT:∀b,b<h.size→¬Fam i (lab b)→lab b≠.no→¬T b:=fun b hb h1 h2 ht=>(hT b ht hb).elim h1 h2
 have n1:¬Fam i (lab hp):=by rw[x.lhp];rintro (h|h|⟨σ,h⟩)<;>cases h
 have n2:∀b,s.own b→¬Fam i (lab b):=fun b hb=>by rw[x.lal b hb];rintro (h|h|⟨σ,h⟩)<;>cases h
 refine⟨f.blk x.hd (hnT _ x.hd.lt n1 (by rw[x.lhp];exact Lb.noConfusion)),by rw[hl _ x.hd.lt n1];exact x.lhp,by simpa using x.len,x.al.frame f fun b hb=>hnT b (x.al.ge hb).2 (n2 b hb) (by rw[x.lal b hb];exact Lb.noConfusion),
  fun b hb=>by rw[hl b (x.al.ge hb).2 (n2 b hb)];exact x.lal b hb,fun j h1 h2=>?_,hn⟩
 by_cases hj:i=j
 ·subst hj
  simp only[List.getElem_set_self]
  exact nb
 ·simp only[List.getElem_set_ne hj]
  have h2':j<S.l.length:=by simpa using h2
  have hfam:∀c,Fam j (lab c)∨lab c=.q→¬Fam i (lab c)∧lab c≠.no:=by
   intro c hc
   rcases hc with (hc|hc|⟨σ,hc⟩)|hc<;>rw[hc]<;>refine⟨?_,Lb.noConfusion⟩<;>rintro (h|h|⟨σ',h⟩)<;>cases h<;>exact hj rfl
  have hb:=x.bx j h1 h2'
  have hsz:∀c,Fam j (lab c)∨lab c=.q→c<h.size:=fun c hc=>by
   rcases Nat.lt_or_ge c h.size with h|h
   ·exact h
   ·have:=x.out c h
    rw[this] at hc
    rcases hc with (hc|hc|⟨σ,hc⟩)|hc<;>cases hc
  exact hb.to f (fun c hc=>hnT c (hsz c hc) (hfam c hc).1 (hfam c hc).2) fun c h1 hc=>hl c h1 (hfam c hc).1
theorem HpAt.hdr (x:HpAt lab h hp S s bs) {tags live:Int} (f:Fr (fun b=>b=hp) h h') (k:blk h' hp (hps s tags live S.most S.watch)):HpAt lab h' hp { S with tags:=tags,live:=live } s bs:=by
 have hn:∀b,lab b≠.hp→¬b=hp:=fun b hb ht=>hb (by rw[ht];exact x.lhp)
 refine⟨k,x.lhp,x.len,x.al.frame f fun b hb=>hn b (by rw[x.lal b hb];exact Lb.noConfusion),x.lal,fun i h1 h2=>(x.bx i h1 h2).to f (fun c hc=>hn c ?_) fun c _ _=>rfl,fun b hb=>x.out b (Nat.le_trans f.size hb)⟩
 rcases hc with (hc|hc|⟨σ,hc⟩)|hc<;>rw[hc]<;>exact Lb.noConfusion
theorem new_spec (most:Int) (w:Bool):CallsH Try.prog 8 #[.int .i64 most,.bool w] h (fun x h'=>Grow h h'∧x=ptr h.size∧HpAt (fun b=>if b=h.size then .hp else .no) h' h.size ⟨[],0,0,most,w⟩ ⟨none,0,0⟩ []):=by
 apply F8
 unfold L8
 rintro p h1 rfl rfl
 refine⟨Fr.push _ _ _,rfl,blk.new _ _ _,by simp,rfl,Own.nil _ _ _,fun b hb=>?_,fun i h1=>absurd h1 (Nat.not_lt_zero _),fun b hb=>?_⟩
 ·obtain⟨a,ea,_⟩:=hb;cases ea
 ·show (if b=h.size then Lb.hp else .no)=.no
  rw[if_neg]
  simp at hb
  omega
theorem live_spec (x:HpAt lab h hp S s bs):CallsH Try.prog 13 #[ptr hp] h (fun v h'=>h=h'∧v=.int .i64 S.live):=by
 apply F13
 unfold L13
 refine⟨fun e=>(by cases e),fun _=>⟨_,rfl,ldI_i (x:=S.live) (by rw[add_plain,x.hd.cl];rfl) ⟨rfl,rfl⟩⟩⟩
def isAt (S:Hs) (i:Int):Prop:=0≤i∧∃a,S.l[i.toNat]?=some a∧a.live=true
theorem own1 {s:Sv} {xs:List Value} (o:Own h 0 1 s xs) {i:Nat} (hi:i<xs.length):∃p,s.a=some p∧cl h (p.add (i*1))=some xs[i]:=by
 have hr:=o.row
 have hl:=o.len
 rcases o.mem with⟨_,e,_⟩|⟨g,cur,e,_⟩
 ·omega
 rw[e] at hr
 refine⟨_,e,?_⟩
 have:=hr i _ (List.getElem?_eq_getElem hi)
 rwa [Nat.mul_one]
theorem at_spec (x:HpAt lab h hp S s bs) (i:Int):CallsH Try.prog 31 #[ptr hp,.int .i64 i] h (fun v h'=>h=h'∧((¬isAt S i∧v=.pointer none)∨∃(j:Nat) (h1:j<bs.length) (h2:j<S.l.length),i=j∧S.l[j].live=true∧v=ptr bs[j])):=by
 have hsn:s.n=bs.length:=by have:=x.al.len;simpa using this.symm
 have hs:cl h ⟨hp,0,none⟩=some (.slice s.a s.n s.c):=by rw[x.hd.cl];rfl
 apply F31
 unfold L31
 refine⟨fun b=>b=decide (i<0∨(bs.length:Int)≤i),⟨fun e=>?_,fun e=>?_⟩,?_⟩
 ·have:i<0:=by simpa [ptr] using e
  exact (decide_eq_true (p:=i<0∨(bs.length:Int)≤i) (.inl this)).symm
 ·have e':¬i<0:=by simpa [ptr] using e
  refine⟨_,rfl,ldS_i hs ?_⟩
  rw[hsn]
  simp only[e',false_or]
 intro x19 h19
 have cell:∀j (hj:j<bs.length),∃p,s.a=some p∧cl h (p.add (j*1))=some (ptr bs[j]):=fun j hj=>by
  obtain⟨p,e,c⟩:=own1 x.al (i:=j) (by simpa using hj)
  refine⟨p,e,?_⟩
  rw[c];simp
 refine⟨fun b=>b=true↔¬isAt S i,⟨fun e=>?_,fun e=>?_⟩,?_⟩
 ·rw[h19] at e
  have e':=of_decide_eq_true e
  refine⟨fun _ ⟨h0,a,ha,_⟩=>?_,fun _=>rfl⟩
  have hl:=(List.getElem?_eq_some_iff.1 ha).1
  have:=x.len
  rcases e' with e'|e'<;>omega
 ·rw[h19] at e
  have e':=of_decide_eq_false e
  have h0:0≤i:=Int.not_lt.1 fun h=>e' (.inl h)
  have h1:i<(bs.length:Int):=Int.not_le.1 fun h=>e' (.inr h)
  have hj:i.toNat<bs.length:=by omega
  have hj2:i.toNat<S.l.length:=by rw[←x.len];exact hj
  obtain⟨p,ea,c⟩:=cell i.toNat hj
  obtain⟨-,-,v,u,k,-⟩:=x.bx i.toNat hj hj2
  refine⟨_,rfl,ldS_i hs ⟨p,ea,h0,by rw[hsn];exact h1,some ⟨bs[i.toNat],0,none⟩,c,_,rfl,S.l[i.toNat].live,by rw[k.cl];rfl,?_⟩⟩
  constructor
  ·intro hb ⟨_,a,ha,hl⟩
   rw[List.getElem?_eq_getElem hj2] at ha
   simp only[Option.some.injEq] at ha
   rw[←ha] at hl
   rw[hl] at hb
   cases hb
  ·intro hn
   cases hl:S.l[i.toNat].live with
   | false=>rfl
   | true=>exact absurd ⟨h0,_,List.getElem?_eq_getElem hj2,hl⟩ hn
 intro x32 h32
 refine⟨fun e=>⟨rfl,.inl ⟨h32.1 e,rfl⟩⟩,fun e=>?_⟩
 have hat:isAt S i:=Classical.not_not.1 fun hn=>by
  have:=h32.2 hn
  rw[this] at e;cases e
 obtain⟨h0,a,ha,hl⟩:=hat
 obtain⟨hj2,rfl⟩:=List.getElem?_eq_some_iff.1 ha
 have hj:i.toNat<bs.length:=by rw[x.len];exact hj2
 obtain⟨p,ea,c⟩:=cell i.toNat hj
 refine⟨_,rfl,ldS_i hs ⟨p,ea,h0,by rw[hsn];omega,some ⟨bs[i.toNat],0,none⟩,c,rfl,.inr ⟨i.toNat,hj,hj2,by omega,hl,rfl⟩⟩⟩
end
end Go.Proofs.Ytggacajnmgligaa
namespace Go.Proofs.Ytggacajnmgligaa
open Go Go.Lf
set_option linter.unusedVariables false
theorem app1_in {E:TypeId} {z vs:Array Value} {sz bytes:Nat} {h:Heap} {g n c:Nat} {cur:Array Value} {K:Sv→Heap→Prop} (kk:blk h g cur) (hsz:cur.size=c*sz) (hroom:n+1≤c) (hl:vs.size=sz) (h1:∀u∈vs.toList,u.oneCell'=true)
  (k:∀h' cur',blk h' g cur'→cur'.size=cur.size→(∀i,n*sz≤i→i<n*sz+sz→cur'[i]?=vs[i - n*sz]?)→(∀i,i<n*sz∨n*sz+sz≤i→cur'[i]?=cur[i]?)→Fr (fun b=>b=g) h h'→K ⟨some ⟨g,0,none⟩,n+1,c⟩ h') :
  newS E vs 1 h fun s1 h1=>appS E z sz bytes h1 ⟨some ⟨g,0,none⟩,n,c⟩ s1 K:=by
 rintro s1 h1' rfl rfl
 have f1:Grow h (h.push (.cells vs E)):=Fr.push _ _ _
 have k1:=f1.blk kk fun h=>h
 have hfit:n*sz+vs.toList.length≤cur.size:=by
  rw[hsz,Array.length_toList,hl]
  have:=Nat.mul_le_mul_right sz hroom
  rw[Nat.add_mul,Nat.one_mul] at this
  exact this
 have H:=stoB (o:=n*sz) (vs:=vs.toList) (K:=fun h'=>K ⟨some ⟨g,0,none⟩,n+1,c⟩ h') k1 hfit h1 (fun h' cur' b1 b2 b3 b4 b5=>k h' cur' b1 b2 (fun i i1 i2=>by
  have:=b3 i i1 (by rw[Array.length_toList,hl];exact i2)
  rwa [Array.getElem?_toList] at this) (fun i hi=>b4 i (by rw[Array.length_toList,hl];exact hi)) ((f1.mono fun _ _ h=>h.elim).trans b5))
 refine⟨vs.toList,by simp[hl],?_,h1,fun _=>⟨?_,?_⟩,fun hg=>?_⟩
 ·intro j v hv
  rw[add_plain,(blk.new h vs E).cl]
  simpa using hv
 ·have:=H.2.1
  show Lf.Free _ ((⟨g,0,none⟩:Addr).add (n*sz)) _
  rw[add_plain,Nat.zero_add]
  exact this
 ·rintro s' h' rfl rfl
  refine H.2.2 _ ?_
  show scs _ ((⟨g,0,none⟩:Addr).add (n*sz)) _ 0=_
  rw[add_plain,Nat.zero_add]
 ·exact absurd hroom (by dsimp only at hg;omega)
abbrev pvs (al:Int) (s:Sv) (tg:Int):Array Value:=#[.int .i64 al,.slice s.a s.n s.c,.int .i64 tg]
theorem one_pv (al:Int) (s:Sv) (tg:Int):∀u∈(pvs al s tg).toList,u.oneCell'=true:=by
 intro u hu
 simp only[List.mem_cons,List.not_mem_nil,or_false] at hu
 rcases hu with rfl|rfl|rfl<;>rfl
def keepB (pa:List Int) (w:Bool) (x:Hd):Bool:=!ovB x.pa pa || (!w && !x.uq)
def useAl (a:Al) (pa:List Int) (tg:Int) (w:Bool):Option Al:=
 match a.st.findIdx? (fun x=>x.tg == tg) with
 | none=>none
 | some k=>match a.st[k]? with
  | none=>none
  | some x=>if begB x.pa pa=false∨(w=true∧x.uq=false) then none else some { a with st:=a.st.take (k+1)++(a.st.drop (k+1)).filter (keepB pa w) }
def atS (S:Hs) (i:Int):Option Al:=if 0≤i then (match S.l[i.toNat]? with|some a=>if a.live=true then some a else none|none=>none) else none
def useS (S:Hs) (al:Int) (pa:List Int) (tg:Int) (w:Bool):Except Int Hs:=
 match atS S al with
 | none=>.error 1
 | some a=>if S.watch=false then .ok S else match useAl a pa tg w with
  | none=>.error 2
  | some a'=>.ok { S with l:=S.l.set al.toNat a' }
theorem atS_of {S:Hs} {j:Nat} (h:j<S.l.length) (hl:S.l[j].live=true):atS S j=some S.l[j]:=by
 unfold atS
 rw[if_pos (by omega),Int.toNat_natCast,List.getElem?_eq_getElem h]
 simp[hl]
theorem atS_not {S:Hs} {i:Int} (h:¬isAt S i):atS S i=none:=by
 unfold atS
 split
 ·rename_i h0
  split
  ·rename_i a ha
   split
   ·rename_i hl
    exact absurd ⟨h0,a,ha,hl⟩ h
   ·rfl
  ·rfl
 ·rfl
def Mut (l:Lb):Prop:=l≠.no∧l≠.q
section
variable {lab:Nat→Lb} {h:Heap} {hp:Nat} {S:Hs} {s:Sv} {bs:List Nat}
theorem idx_spec {zs:List (Hr×Hd)} {u:Sv} {b4:Nat} {al tg:Int} {sp:Sv} (o:Own h 0 3 u (c3 (zs.map (·.1)))) (hz:∀z∈zs,z.1.tg=z.2.tg) (hb:zs.length≤1000000) (k4:blk h b4 (pvs al sp tg)) :
  CallsH Try.prog 45 #[.slice u.a u.n u.c,.func (.func 46) #[] #[ptr b4]] h (fun v h'=>Grow h h'∧v=.int .i64 (match (zs.map (·.2)).findIdx? (fun x=>x.tg == tg) with|some k=>(k:Int)|none=>-1)):=by
 have hn:u.n=zs.length:=by have:=o.len;rw[c3_len] at this;simp at this;omega
 apply F45
 unfold L45
 refine⟨fun i h'=>∃j:Nat,i=j∧j≤zs.length∧Grow h h'∧∀q (hq:q<zs.length),q<j→zs[q].2.tg≠tg,fun i _=>zs.length - i.toNat,⟨0,rfl,Nat.zero_le _,Fr.refl _ _,fun q _ h=>absurd h (Nat.not_lt_zero _)⟩,?_⟩
 rintro _ h1 ⟨j,rfl,hj,f1,hne⟩
 refine ifb_iff (q:=j<zs.length) (by rw[hn];simp) (fun hlt=>?_) (fun hge=>?_)
 rotate_left
 ·refine⟨f1,?_⟩
  have:(zs.map (·.2)).findIdx? (fun x=>x.tg == tg)=none:=by
   rw[List.findIdx?_eq_none_iff]
   intro x hx
   obtain⟨z,hz,rfl⟩:=List.mem_map.1 hx
   obtain⟨q,hq,rfl⟩:=List.getElem_of_mem hz
   simpa using hne q hq (by omega)
  rw[this]
 have hr:=(o.frame f1 fun _ _ h=>h).row
 have ho:=o.mem
 rcases ho with⟨_,e,_⟩|⟨g,cur,e,_⟩
 ·omega
 rw[e] at hr
 have cell:∀q,q<3→cl h1 (((⟨g,0,none⟩:Addr).add (j*3)).add q)=(hvs zs[j].1)[q]?:=fun q hq=>by
  have c:=c3_get (zs.map (·.1)) j (by simpa using hlt) q hq
  rw[List.getElem_map] at c
  rw[add_add,hr (j*3+q) _ (by rw[c];exact Array.getElem?_eq_getElem (by simpa using hq)),Array.getElem?_eq_getElem (show q<(hvs zs[j].1).size by simpa using hq)]
 refine⟨_,e,by omega,by rw[hn];omega,zs[j].1.tg,zs[j].1.s,zs[j].1.uq,?_⟩
 rw[Int.toNat_natCast]
 refine⟨by have:=cell 0 (by omega);rw[add_zero] at this;exact this,cell 1 (by omega),cell 2 (by omega),?_⟩
 refine⟨46,#[ptr b4],rfl,⟨Try.f46,Try.func46,by kernel_rfl,by kernel_rfl⟩,?_⟩
 refine cal_of (f:=46) (J:=fun x h'=>Grow h1 h'∧x=.bool (zs[j].1.tg == tg)) ?_ ?_
 ·apply F46
  unfold L46
  rintro p2 h2 rfl rfl
  have f2:Grow h1 (h1.push (.cells #[Value.int .i64 zs[j].1.tg,Value.slice zs[j].1.s.a zs[j].1.s.n zs[j].1.s.c,Value.bool zs[j].1.uq] 80)):=Fr.push _ _ _
  refine ldI_i (x:=zs[j].1.tg) (by rw[(blk.new h1 _ _).cl];rfl) (ldI_i (x:=tg) ?_ ⟨f2,rfl⟩)
  rw[add_plain,(f2.blk (f1.blk k4 fun h=>h) fun h=>h).cl];rfl
 ·rintro _ h2 ⟨f2,rfl⟩
  have htg:=hz _ (List.getElem_mem hlt)
  refine⟨_,rfl,fun e=>⟨f1.trans f2,?_⟩,fun e=>?_⟩
  ·have e':zs[j].2.tg=tg:=by rw[←htg];simpa using e
   have:(zs.map (·.2)).findIdx? (fun x=>x.tg == tg)=some j:=by
    rw[List.findIdx?_eq_some_iff_getElem]
    refine⟨by simpa using hlt,by simpa using e',fun q hq=>?_⟩
    simpa using hne q (by omega) hq
   rw[this]
  ·have e':zs[j].2.tg≠tg:=by rw[←htg];simpa using e
   rw[wrap_succ hlt (by omega)]
   refine⟨⟨j+1,rfl,hlt,f1.trans f2,fun q hq hq2=>?_⟩,by dsimp only;omega⟩
   by_cases hqj:q=j
   ·subst hqj;exact e'
   ·exact hne q hq (by omega)
end
end Go.Proofs.Ytggacajnmgligaa
namespace Go.Proofs.Ytggacajnmgligaa
open Go Go.Lf
set_option linter.unusedVariables false
section
variable {lab:Nat→Lb} {h:Heap} {hp:Nat} {S:Hs} {s:Sv} {bs:List Nat}
theorem filt_spec {zs:List (Hr×Hd)} {u:Sv} {g b4 k:Nat} {cur:Array Value} {pa:List Int} {sp:Sv} {al tg:Int} {w:Bool} {R:Sv→Heap→Prop} {s74:Sv}
  (hu:u.a=some ⟨g,0,none⟩) (kk:blk h g cur) (hc:cur.size=u.c*3) (hn:u.n=zs.length) (hnc:u.n≤u.c) (ht:cur.toList.take (u.n*3)=c3 (zs.map (·.1))) (hk:k+1≤zs.length) (hb:zs.length≤1000000) (k4:blk h b4 (pvs al sp tg)) (h4g:b4≠g)
  (hR:∀z∈zs,z.1.uq=z.2.uq∧IntsC (fun b=>lab b=.q) h z.1.s z.2.pa∧z.2.pa.length≤1000000) (hq:lab g≠.q) (hps:IntsC (fun b=>b≠g) h sp pa) (hpl:pa.length≤1000000)
  (e1:s74.a=if u.c=k+1 then u.a else u.a.map (·.add ((k+1)*3))) (e2:s74.n=u.n - (k+1))
  (fin:∀h' s',Fr (fun b=>b=g) h h'→s'.a=u.a→Own h' 0 3 s' (c3 ((zs.take (k+1)++(zs.drop (k+1)).filter (fun z=>keepB pa w z.2)).map (·.1)))→R s' h') :
  ∃(I:Sv→Int→Heap→Prop) (m:Sv→Int→Heap→Nat),I ⟨u.a,k+1,u.c⟩ 0 h∧∀kept10 x76 h6,I kept10 x76 h6 →
    ifb (decide (x76<(s74.n:Int))) (
     ∃J_1:Sv→Heap→Prop,(
      ixS s74 x76 fun q78=>
      ∃(y79:Int) (y79_1:Sv) (y79_2:Bool),cl h6 (q78.add ((x76:Int).toNat*3))=some (.int .i64 y79)∧cl h6 ((q78.add ((x76:Int).toNat*3)).add 1)=some (.slice y79_1.a y79_1.n y79_1.c)∧cl h6 ((q78.add ((x76:Int).toNat*3)).add 2)=some (.bool y79_2) ∧
      new 80 #[.int .i64 0,.slice (⟨none,0,0⟩:Sv).a (⟨none,0,0⟩:Sv).n (⟨none,0,0⟩:Sv).c,.bool false] h6 fun p12 h7=>
      stoA h7 p12 [.int .i64 y79,.slice y79_1.a y79_1.n y79_1.c,.bool y79_2] fun h8=>
      ldS h8 (p12.add 1) fun x81=>
      ldS h8 ((⟨b4,0,none⟩:Addr).add 1) fun x83=>
      cal Try.prog 48 #[.slice x81.a x81.n x81.c,.slice x83.a x83.n x83.c] h8 fun u_3 h9=>asB u_3 fun x84=>
      ∃J_2:Bool→Prop,(orr (!x84) (fun k=>
       ∃J_3:Bool→Prop,(andr (!w) (fun k_1=>
        ldB h9 (p12.add 2) fun x91=>
        k_1 (!x91)) J_3)∧∀x93,J_3 x93 →
       k x93) J_2)∧∀x94,J_2 x94 →
      ifb x94 (
       ∃(y96:Int) (y96_1:Sv) (y96_2:Bool),cl h9 p12=some (.int .i64 y96)∧cl h9 (p12.add 1)=some (.slice y96_1.a y96_1.n y96_1.c)∧cl h9 (p12.add 2)=some (.bool y96_2) ∧
       newS 80 #[.int .i64 y96,.slice y96_1.a y96_1.n y96_1.c,.bool y96_2] 1 h9 fun s97 h10=>
       appS 80 (Value.agg #[.int .i64 0,.slice (⟨none,0,0⟩:Sv).a (⟨none,0,0⟩:Sv).n (⟨none,0,0⟩:Sv).c,.bool false]).cells 3 40 h10 kept10 s97 fun s98 h11=>
       J_1 s98 h11) (
       J_1 kept10 h9))∧(∀kept10_1 h12,J_1 kept10_1 h12 →
     I kept10_1 (IntKind.i64.wrap (x76+1)) h12∧m kept10_1 (IntKind.i64.wrap (x76+1)) h12<m kept10 x76 h6))
     (R kept10 h6):=by
 have hn74:s74.n=zs.length - (k+1):=by rw[e2,hn]
 let F:Nat→List (Hr×Hd):=fun m=>zs.take (k+1)++((zs.drop (k+1)).take m).filter (fun z=>keepB pa w z.2)
 have hFl:∀m,(F m).length≤k+1+m:=fun m=>by
  have:=List.length_filter_le (fun z:Hr×Hd=>keepB pa w z.2) ((zs.drop (k+1)).take m)
  simp only[F,List.length_append,List.length_take,List.length_drop] at this ⊢
  omega
 refine⟨fun kept x h'=>∃(m:Nat) (cur':Array Value),x=m∧m≤zs.length - (k+1)∧kept=⟨u.a,(F m).length,u.c⟩∧blk h' g cur'∧cur'.size=cur.size∧cur'.toList.take ((F m).length*3)=c3 ((F m).map (·.1))∧(∀i,(k+1+m)*3≤i→cur'[i]?=cur[i]?)∧Fr (fun b=>b=g) h h',
  fun _ x _=>zs.length - x.toNat,⟨0,cur,rfl,Nat.zero_le _,?_,kk,rfl,?_,fun _ _=>rfl,Fr.refl _ _⟩,?_⟩
 ·have:(F 0).length=k+1:=by simp[F];omega
  rw[this]
 ·have hF0:F 0=zs.take (k+1):=by simp[F]
  have hl0:(F 0).length=k+1:=by rw[hF0];simp;omega
  rw[hl0,hF0,List.map_take,←c3_take,←ht,List.take_take]
  congr 1
  omega
 rintro _ _ h6 ⟨m,cur',rfl,hm,rfl,k6,hs6,ht6,hr6,f6⟩
 refine ifb_iff (q:=m<zs.length - (k+1)) (by rw[hn74];simp) (fun hlt=>?_) (fun hge=>?_)
 rotate_left
 ·obtain rfl:m=zs.length - (k+1):=by omega
  have hF:F (zs.length - (k+1))=zs.take (k+1)++(zs.drop (k+1)).filter (fun z=>keepB pa w z.2):=by
   simp only[F]
   rw[List.take_of_length_le (Nat.le_of_eq (List.length_drop ..))]
  rw[hF] at ht6 ⊢
  refine fin h6 _ f6 rfl ⟨by rw[c3_len,List.length_map],.inr ⟨g,cur',hu,Nat.zero_le _,k6,?_,by rw[hs6,hc],ht6⟩⟩
  have:=hFl (zs.length - (k+1))
  rw[hF] at this
  dsimp only
  omega
 have hz:k+1+m<zs.length:=by omega
 have hF1:F (m+1)=F m++(if keepB pa w zs[k+1+m].2=true then [zs[k+1+m]] else []):=by
  simp only[F]
  rw[List.append_assoc]
  congr 1
  rw[List.take_succ_eq_append_getElem (by simp;omega),List.filter_append,List.getElem_drop]
  congr 1
  rw[List.filter_cons,List.filter_nil]
 have hcell:∀q,q<3→cl h6 ((((⟨g,0,none⟩:Addr).add ((k+1)*3)).add (m*3)).add q)=(hvs zs[k+1+m].1)[q]?:=fun q hq=>by
  have c:=c3_get (zs.map (·.1)) (k+1+m) (by simpa using hz) q hq
  rw[List.getElem_map] at c
  rw[add_plain,add_plain,add_plain,k6.cl,hr6 _ (by rw[Nat.add_mul];omega),←c,←ht,List.getElem?_take,if_pos (by omega),Array.getElem?_toList]
  congr 1
  rw[Nat.add_mul]
  omega
 obtain⟨r1,r2,r3⟩:=hR _ (List.getElem_mem hz)
 generalize hzz:zs[k+1+m]=z at *
 refine⟨fun kept h'=>∃cur2,kept=⟨u.a,(F (m+1)).length,u.c⟩∧blk h' g cur2∧cur2.size=cur.size∧cur2.toList.take ((F (m+1)).length*3)=c3 ((F (m+1)).map (·.1))∧(∀i,(k+1+(m+1))*3≤i→cur2[i]?=cur[i]?)∧Fr (fun b=>b=g) h h',?_,?_⟩
 rotate_left
 ·rintro _ h12 ⟨cur2,rfl,a1,a2,a3,a4,a5⟩
  rw[wrap_succ hlt (by omega)]
  exact⟨⟨m+1,cur2,rfl,hlt,rfl,a1,a2,a3,a4,a5⟩,by dsimp only;omega⟩
 have ea:s74.a=some ((⟨g,0,none⟩:Addr).add ((k+1)*3)):=by
  rw[e1,if_neg (by omega),hu];rfl
 refine⟨_,ea,by omega,by rw[hn74];omega,z.1.tg,z.1.s,z.1.uq,?_⟩
 rw[Int.toNat_natCast]
 refine⟨by have:=hcell 0 (by omega);rw[add_zero] at this;exact this,hcell 1 (by omega),hcell 2 (by omega),?_⟩
 rintro p12 h7 rfl rfl
 have f7:Grow h6 (h6.push (.cells #[Value.int .i64 0,.slice (⟨none,0,0⟩:Sv).a (⟨none,0,0⟩:Sv).n (⟨none,0,0⟩:Sv).c,.bool false] 80)):=Fr.push _ _ _
 refine stoA_i (blk.new h6 _ _) rfl (vs:=(hvs z.1).toList) (one_hv _) fun h8 b8 f8=>?_
 have g8:Grow h6 h8:=f7.trans' f8 fun i hi e=>by omega
 have K4:=g8.blk (f6.blk k4 h4g) fun h=>h
 refine ldS_i (s:=z.1.s) (by rw[add_plain,b8.cl];rfl) (ldS_i (s:=sp) (by rw[add_plain,K4.cl];rfl) ?_)
 have p1:PAt h8 z.1.s z.2.pa:=PAt.ofC ((r2.fr f6 fun b hb e=>by rw[e] at hb;exact hq hb).fr g8 fun _ _ h=>h) r3
 have p2:PAt h8 sp pa:=PAt.ofC ((hps.fr f6 fun b hb e=>hb e).fr g8 fun _ _ h=>h) hpl
 refine cal_of (overlap_spec p1 p2) ?_
 rintro _ _ ⟨rfl,rfl⟩
 refine⟨_,rfl,fun b=>b=keepB pa w z.2,⟨fun e=>by unfold keepB;rw[e];rfl,fun e=>?_⟩,?_⟩
 ·refine⟨fun b=>b=(!w && !z.2.uq),⟨fun e'=>?_,fun e'=>by rw[e'];rfl⟩,?_⟩
  ·refine⟨z.1.uq,by rw[add_plain,b8.cl];rfl,?_⟩
   rw[e',r1];rfl
  ·rintro _ rfl
   unfold keepB
   rw[e];rfl
 rintro _ rfl
 have k8:=g8.blk k6 fun h=>h
 have F8:Fr (fun b=>b=g) h h8:=f6.trans' g8 fun _ _ h=>h.elim
 refine⟨fun e=>?_,fun e=>?_⟩
 ·rw[if_pos e] at hF1
  refine⟨z.1.tg,z.1.s,z.1.uq,by rw[b8.cl];rfl,by rw[add_plain,b8.cl];rfl,by rw[add_plain,b8.cl];rfl,?_⟩
  rw[hu]
  have hFm:=hFl m
  refine app1_in (vs:=hvs z.1) (cur:=cur') k8 (by rw[hs6,hc]) (by omega) rfl (one_hv _) fun h' cur2 a1 a2 a3 a4 a5=>?_
  have hl1:(F (m+1)).length=(F m).length+1:=by rw[hF1];simp
  refine⟨cur2,by rw[hl1],a1,by rw[a2,hs6],?_,fun i hi=>?_,F8.trans a5⟩
  ·rw[hl1,hF1,List.map_append,c3_app]
   apply List.ext_getElem?
   intro i
   rw[List.getElem?_take]
   have hl:(c3 ((F m).map (·.1))).length=(F m).length*3:=by rw[c3_len,List.length_map]
   have hone:c3 ([z].map (·.1))=(hvs z.1).toList:=by simp[c3]
   by_cases hi:i<(F m).length*3
   ·rw[if_pos (by omega),List.getElem?_append_left (by omega),Array.getElem?_toList,a4 i (.inl hi),←ht6,List.getElem?_take,if_pos hi,Array.getElem?_toList]
   ·rw[List.getElem?_append_right (by omega),hl,hone,Array.getElem?_toList]
    by_cases hi2:i<(F m).length*3+3
    ·rw[if_pos (by omega),Array.getElem?_toList,a3 i (by omega) hi2]
    ·rw[if_neg (by omega),List.getElem?_eq_none (by simp;omega)]
  ·rw[a4 i (.inr (by omega)),hr6 i (by omega)]
 ·have hl1:F (m+1)=F m:=by
   rw[hF1,if_neg (by rw[e];exact Bool.false_ne_true),List.append_nil]
  rw[hl1]
  exact⟨cur',rfl,k8,hs6,ht6,fun i hi=>hr6 i (by omega),F8⟩
end
end Go.Proofs.Ytggacajnmgligaa
namespace Go.Proofs.Ytggacajnmgligaa
open Go Go.Lf
set_option linter.unusedVariables false
section
variable {lab:Nat→Lb} {h:Heap} {hp:Nat} {S:Hs} {s:Sv} {bs:List Nat}
theorem newPt {al tg:Int} {sp:Sv} {K:Addr→Heap→Prop} (k:∀h',blk h' h.size (pvs al sp tg)→Grow h h'→h'.size=h.size+1→K ⟨h.size,0,none⟩ h'):new 28 (pvs al sp tg) h K:=by
 rintro p h' rfl rfl
 exact k _ (blk.new _ _ _) (Fr.push _ _ _) (by simp)
theorem stoPt {b:Nat} {cs:Array Value} {al tg:Int} {sp:Sv} {K:Heap→Prop} (kk:blk h b cs) (hs:cs.size=3) (k:∀h',blk h' b (pvs al sp tg)→Fr (fun i=>i=b) h h'→K h'):stoA h ⟨b,0,none⟩ (pvs al sp tg).toList K:=
 stoA_i kk (by rw[hs];rfl) (one_pv al sp tg) k
theorem rdPt {b:Nat} {al tg:Int} {sp:Sv} {K:Int→Sv→Int→Prop} (k:blk h b (pvs al sp tg)) (kk:K al sp tg) :
  ∃(y:Int) (y1:Sv) (y2:Int),cl h ⟨b,0,none⟩=some (.int .i64 y)∧cl h ((⟨b,0,none⟩:Addr).add 1)=some (.slice y1.a y1.n y1.c)∧cl h ((⟨b,0,none⟩:Addr).add 2)=some (.int .i64 y2)∧K y y1 y2:=
 ⟨al,sp,tg,by rw[k.cl];rfl,by rw[add_plain,k.cl];rfl,by rw[add_plain,k.cl];rfl,kk⟩
theorem use_spec (x:HpAt lab h hp S s bs) {al tg:Int} {sp:Sv} {pa:List Int} (hps:IntsC (fun b=>¬Mut (lab b)) h sp pa) (hpl:pa.length≤1000000) (hst:∀a∈S.l,a.st.length≤1000000) (w:Bool) :
  CallsH Try.prog 28 #[ptr hp,.agg (pvs al sp tg),.bool w] h (fun v h'=>Fr (fun b=>Mut (lab b)) h h'∧match useS S al pa tg w with
   | .error f=>HpAt lab h' hp S s bs∧v=.tuple #[.pointer none,.int .i64 f]∧f≠0
   | .ok S'=>HpAt lab h' hp S' s bs∧∃(j:Nat) (h1:j<bs.length),al=j∧v=.tuple #[ptr bs[j],.int .i64 0]):=by
 apply F28
 unfold L28
 refine newPt fun h1 k1 f1 z1=>?_
 refine ldI_i (x:=al) (by rw[k1.cl];rfl) ?_
 have x1:=x.grow f1
 refine cal_of (at_spec x1 al) ?_
 rintro v _ ⟨rfl,hv⟩
 have toM:∀ {a b:Heap},Grow a b→Fr (fun b=>Mut (lab b)) a b:=fun g=>g.mono fun _ _ h=>h.elim
 rcases hv with⟨hno,rfl⟩|⟨j,hj,hj2,rfl,hlive,rfl⟩
 ·refine⟨_,rfl,fun _=>?_,fun e=>(by cases e)⟩
  unfold useS
  rw[atS_not hno]
  exact⟨toM f1,x1,rfl,by decide⟩
 refine⟨_,rfl,fun e=>(by cases e),fun _=>⟨_,rfl,S.watch,by rw[add_plain,x1.hd.cl];rfl,fun e=>?_,fun e=>?_⟩⟩
 ·have hw:S.watch=false:=by simpa using e
  unfold useS
  rw[atS_of hj2 hlive]
  dsimp only
  rw[if_pos hw]
  exact⟨toM f1,x1,j,hj,rfl,rfl⟩
 have hw:¬S.watch=false:=by simpa using e
 have hus:useS S (j:Int) pa tg w=match useAl S.l[j] pa tg w with|none=>.error 2|some a'=>.ok { S with l:=S.l.set j a' }:=by
  unfold useS
  rw[atS_of hj2 hlive]
  dsimp only
  rw[if_neg hw,Int.toNat_natCast]
  all_goals rfl
 rw[hus]
 obtain⟨lb,hfew,v,u,kb,hva,zs,ezs,o,lo,hz⟩:=x1.bx j hj hj2
 have hzl:zs.length=S.l[j].st.length:=by rw[←ezs,List.length_map]
 have hzb:zs.length≤1000000:=by rw[hzl];exact hst _ (List.getElem_mem hj2)
 have hun:u.n=zs.length:=by have:=o.len;rw[c3_len] at this;simp at this;omega
 refine⟨_,rfl,ldS_i (s:=u) (by rw[add_plain,kb.cl];rfl) ?_⟩
 refine cal_of (idx_spec (b4:=h.size) (al:=j) (tg:=tg) (sp:=sp) o (fun z hz'=>(hz z hz').1) hzb k1) ?_
 rintro _ h3 ⟨f3,rfl⟩
 refine⟨_,rfl,?_⟩
 have x3:=x1.grow f3
 have k3:=f3.blk k1 fun h=>h
 have kb3:=f3.blk kb fun h=>h
 have o3:=o.frame f3 fun _ _ h=>h
 rw[ezs]
 have hual:useAl S.l[j] pa tg w=match S.l[j].st.findIdx? (fun x=>x.tg == tg) with
   | none=>none
   | some k=>match S.l[j].st[k]? with
    | none=>none
    | some x=>if begB x.pa pa=false∨(w=true∧x.uq=false) then none else some { S.l[j] with st:=S.l[j].st.take (k+1)++(S.l[j].st.drop (k+1)).filter (keepB pa w) }:=rfl
 rw[hual]
 cases hf:S.l[j].st.findIdx? (fun x=>x.tg == tg) with
 | none=>
  dsimp only
  refine⟨fun b h'=>b=true∧h'=h3,⟨fun _=>⟨fun _=>⟨rfl,rfl⟩,fun e=>(by cases e)⟩,fun e=>(by simp at e)⟩,?_⟩
  rintro _ _ ⟨rfl,rfl⟩
  exact⟨fun _=>⟨toM (f1.trans f3),x3,rfl,by decide⟩,fun e=>(by cases e)⟩
 | some k=>
  have hk:k<zs.length:=by
   have:=(List.findIdx?_eq_some_iff_getElem.1 hf).1
   omega
  have hk2:k<S.l[j].st.length:=by omega
  dsimp only
  rw[List.getElem?_eq_getElem hk2]
  dsimp only
  have hzk:zs[k].2=S.l[j].st[k]:=by
   have:(zs.map (·.2))[k]'(by simpa using hk)=S.l[j].st[k]:=by simp only[ezs]
   simpa using this
  obtain⟨r0,r1,r2,r3⟩:=hz _ (List.getElem_mem hk)
  rw[hzk] at r1 r2 r3
  obtain⟨g,cur,hu,k0,hnc,hcs,ht⟩:∃g cur,u.a=some ⟨g,0,none⟩∧blk h3 g cur∧u.n≤u.c∧cur.size=u.c*3∧cur.toList.take (u.n*3)=c3 (zs.map (·.1)):=by
   rcases o3.mem with⟨_,e,_⟩|⟨g,cur,e,_,r⟩
   ·omega
   ·exact⟨g,cur,e,r⟩
  have hlg:lab g=.st j:=lo g ⟨_,hu,rfl⟩
  have hcell:∀q,q<3→cl h3 (((⟨g,0,none⟩:Addr).add (k*3)).add q)=(hvs zs[k].1)[q]?:=fun q hq=>by
   have c:=c3_get (zs.map (·.1)) k (by simpa using hk) q hq
   rw[List.getElem_map] at c
   rw[add_plain,add_plain,k0.cl,←c,←ht,List.getElem?_take,if_pos (by omega),Array.getElem?_toList,Nat.zero_add]
  have hsl:∀b:Nat,cl h3 ((⟨bs[j],0,none⟩:Addr).add 8)=some (.slice u.a u.n u.c):=fun _=>by rw[add_plain,kb3.cl];rfl
  have hps3:IntsC (fun b=>¬Mut (lab b)) h3 sp pa:=(hps.fr f1 fun _ _ h=>h).fr f3 fun _ _ h=>h
  have r23:=r2.fr f3 fun _ _ h=>h
  refine⟨fun b h'=>b=decide (begB S.l[j].st[k].pa pa=false∨(w=true∧S.l[j].st[k].uq=false))∧h'=h3,⟨fun e=>?_,fun _=>?_⟩,?_⟩
  ·simp at e
   omega
  ·refine⟨_,rfl,ldS_i (s:=u) (hsl 0) ⟨_,hu,by omega,by omega,?_⟩⟩
   rw[Int.toNat_natCast]
   refine ldS_i (s:=zs[k].1.s) (hcell 1 (by omega)) (ldS_i (s:=sp) (by rw[add_plain,k3.cl];rfl) ?_)
   refine cal_of (begins_spec (PAt.ofC r23 r3) (PAt.ofC hps3 hpl)) ?_
   rintro _ _ ⟨rfl,rfl⟩
   refine⟨_,rfl,fun e=>?_,fun e=>⟨fun ew=>?_,fun ew=>?_⟩⟩
   ·have e':begB S.l[j].st[k].pa pa=false:=by simpa using e
    exact⟨(decide_eq_true (p:=begB S.l[j].st[k].pa pa=false∨(w=true∧S.l[j].st[k].uq=false)) (.inl e')).symm,rfl⟩
   ·have e':begB S.l[j].st[k].pa pa=true:=by simpa using e
    refine⟨_,rfl,ldS_i (s:=u) (hsl 0) ⟨_,hu,by omega,by omega,zs[k].1.uq,?_,?_,rfl⟩⟩
    ·exact hcell 2 (by omega)
    ·rw[r1]
     cases S.l[j].st[k].uq<;>simp[e',ew]
   ·have e':begB S.l[j].st[k].pa pa=true:=by simpa using e
    exact⟨by simp[e',ew],rfl⟩
  rintro b h5 ⟨hb,hh5⟩
  replace hh5:=hh5.symm
  subst hh5
  refine ifb_iff (q:=begB S.l[j].st[k].pa pa=false∨(w=true∧S.l[j].st[k].uq=false)) (by rw[hb];exact decide_eq_true_iff) (fun hbad=>?_) (fun hok=>?_)
  ·rw[if_pos hbad]
   exact⟨toM (f1.trans f3),x3,rfl,by decide⟩
  rw[if_neg hok]
  have hkw:IntKind.i64.wrap ((k:Int)+1)=((k+1:Nat):Int):=wrap_succ hk (by omega)
  rw[hkw]
  refine⟨_,rfl,ldS_i (s:=u) (hsl 0) (slS_head (by omega) ⟨_,rfl,ldS_i (s:=u) (hsl 0) ⟨by omega,by omega,by omega,?_⟩⟩)⟩
  intro s74 e1 e2 e3
  simp only[Int.toNat_natCast] at e1 e2 e3
  have hsz3:h.size≠g:=by
   intro e
   have:=x.out g (by omega)
   rw[hlg] at this;cases this
  refine filt_spec (lab:=lab) (tg:=tg) (al:=j) hu k0 hcs hun hnc ht (by omega) hzb k3 hsz3 (fun z hzm=>?_) (by rw[hlg];exact Lb.noConfusion) ⟨⟨hps3.len,fun i hi=>?_⟩,hps3.cap⟩ hpl e1 e2 ?_
  ·obtain⟨q0,q1,q2,q3⟩:=hz z hzm
   exact⟨q1,q2.fr f3 fun _ _ h=>h,q3⟩
  ·obtain⟨p,a1,a2,a3⟩:=hps3.at_ i hi
   refine⟨p,a1,fun e=>a2 ?_,a3⟩
   rw[e,hlg]
   exact⟨Lb.noConfusion,Lb.noConfusion⟩
  intro h6 s6 f6 ea o6
  have hgb:bs[j]≠g:=by
   intro e
   rw[e,hlg] at lb;cases lb
  have kb6:=f6.blk kb3 hgb
  refine⟨_,rfl,?_⟩
  dsimp only
  rw[add_plain]
  refine sto_i kb6 (by simp) ?_
  have kb7:=kb6.sc (0+8) (.slice s6.a s6.n s6.c)
  have f7:Fr (fun b=>b=g∨b=bs[j]) h3 (sc h6 ⟨bs[j],0+8,none⟩ (.slice s6.a s6.n s6.c)):=(f6.mono fun _ _ e=>.inl e).trans (Fr.sc _ (.inr rfl) _)
  have f7':Fr (fun b=>b=bs[j]) h6 (sc h6 ⟨bs[j],0+8,none⟩ (.slice s6.a s6.n s6.c)):=Fr.scb _ _ _ _
  generalize sc h6 ⟨bs[j],0+8,none⟩ (.slice s6.a s6.n s6.c)=h7 at *
  have hmut:∀b,(b=g∨b=bs[j])→Mut (lab b):=by
   rintro b (rfl|rfl)
   ·rw[hlg];exact⟨Lb.noConfusion,Lb.noConfusion⟩
   ·rw[lb];exact⟨Lb.noConfusion,Lb.noConfusion⟩
  refine⟨((toM f1).trans (toM f3)).trans (f7.mono fun b _ hb=>hmut b hb),?_,j,hj,rfl,rfl⟩
  refine x3.set (lab':=lab) f7 (fun b hb _=>.inl ?_) (fun _ _ _=>rfl) hj ⟨lb,hfew,v,s6,kb7,?_,zs.take (k+1)++(zs.drop (k+1)).filter (fun z=>keepB pa w z.2),?_,o6.frame f7' (fun b hb e=>?_),fun b hb=>?_,fun z hzm=>?_⟩ (fun b hb=>x.out b ?_)
  ·rcases hb with rfl|rfl
   ·exact .inr (.inl hlg)
   ·exact .inl lb
  ·refine vTo (hva.grow f3) f7 (fun b hb e=>?_) fun _ _ _=>rfl
   rcases e with rfl|rfl
   ·rw[hlg] at hb
    rcases hb with⟨σ,hb⟩|hb<;>cases hb
   ·rw[lb] at hb
    rcases hb with⟨σ,hb⟩|hb<;>cases hb
  ·rw[List.map_append,List.map_take,ezs]
   congr 1
   rw[←ezs,←List.map_drop,List.filter_map]
   rfl
  ·obtain⟨a,a1,a2⟩:=hb
   rw[ea,hu] at a1
   simp only[Option.some.injEq] at a1
   subst a1
   exact hgb (e.symm.trans a2.symm)
  ·obtain⟨a,a1,a2⟩:=hb
   exact lo b ⟨a,by rw[←ea];exact a1,a2⟩
  ·have hzm':z∈zs:=by
    rcases List.mem_append.1 hzm with hm|hm
    ·exact List.mem_of_mem_take hm
    ·exact List.mem_of_mem_drop (List.mem_filter.1 hm).1
   obtain⟨q0,q1,q2,q3⟩:=hz z hzm'
   refine⟨q0,q1,(q2.fr f3 fun _ _ h=>h).fr f7 fun b hb e=>?_,q3⟩
   have:=(hmut b e).2
   exact this hb
  ·have:=f1.size
   have:=f3.size
   have:=f7.size
   omega
end
end Go.Proofs.Ytggacajnmgligaa
namespace Go.Proofs.Ytggacajnmgligaa.row
open Go Go.Lf Go.ChangeShapes Go.WideShapes Go.ChangeAt Go.RowKit Go.Proofs.Ytggacajnmgligaa
set_option linter.unusedVariables false
set_option maxRecDepth 20000
theorem cI:Try.prog.cellsOf 3=1:=by kernel_rfl
theorem cU:Try.prog.cellsOf 22=1:=by kernel_rfl
theorem cS:Try.prog.cellsOf 9=1:=by kernel_rfl
theorem cIs:Try.prog.cellsOf 26=1:=by kernel_rfl
theorem cVs:Try.prog.cellsOf 31=1:=by kernel_rfl
theorem cV:Try.prog.cellsOf 33=7:=by kernel_rfl
theorem cP:Try.prog.cellsOf 28=3:=by kernel_rfl
section
variable {h:Heap}
theorem pt_rd {fuel:Nat} {cs:List Value} (hr:rd Try.prog h fuel 28 cs):∃(al:Int) (s:Sv) (tg:Int) (xs:List Int),cs=(pvs al s tg).toList∧IntsC (fun b=>b<h.size) h s xs:=by
 have hln:=rd_len Try.underlying28 hr
 rw[cP] at hln
 match cs,hln with
 | [u0,u1,u2],_=>
  obtain⟨_,r0⟩:=rd_field Try.underlying28 hr 0 rfl cI
  obtain⟨_,r1⟩:=rd_field Try.underlying28 hr 1 rfl cIs
  obtain⟨_,r2⟩:=rd_field Try.underlying28 hr 2 rfl cI
  obtain⟨al,e0,_⟩:=rd_int Try.underlying3 r0
  obtain⟨s,e1⟩:=rd_slice Try.underlying26 r1
  obtain⟨tg,e2,_⟩:=rd_int Try.underlying3 r2
  simp at e0 e1 e2
  subst e0 e1 e2
  obtain⟨xs,hx⟩:=rd_ints Try.underlying26 Try.underlying3 cI r1
  exact⟨al,s,tg,xs,rfl,IntsQ.of hx fun b _ hb=>hb,rd_cap Try.underlying26 r1⟩
theorem vl_rd:∀(fuel:Nat) (cs:List Value),rd Try.prog h fuel 33 cs→∃(v:Vv) (y:Vl),cs=(vvs v).toList∧VAt false (fun b=>b<h.size) h y (anyA fun b=>b<h.size) v:=by
 intro fuel
 induction fuel using Nat.strongRecOn with
 | _ fuel ih=>
  intro cs hr
  cases fuel with
  | zero=>exact hr.elim
  | succ f=>
   have hln:=rd_len Try.underlying33 hr
   rw[cV] at hln
   match cs,hln with
   | [u0,u1,u2,u3,u4,u5,u6],_=>
    have r0:=rd_fieldS Try.underlying33 hr 0 rfl cI
    have r1:=rd_fieldS Try.underlying33 hr 1 rfl cU
    have r2:=rd_fieldS Try.underlying33 hr 2 rfl cS
    have r3:=rd_fieldS Try.underlying33 hr 3 rfl cVs
    have r4:=rd_fieldS Try.underlying33 hr 4 rfl cP
    obtain⟨k,e0,_⟩:=rd_int Try.underlying3 r0
    obtain⟨n,e1,_⟩:=rd_int Try.underlying22 r1
    obtain⟨nm,e2⟩:=rd_string Try.underlying9 r2
    obtain⟨az,e3⟩:=rd_slice Try.underlying31 r3
    obtain⟨al,pa,tg,xs,e4,hx⟩:=pt_rd r4
    simp at e0 e1 e2 e3 e4
    obtain⟨e4,e5,e6⟩:=e4
    subst e0 e1 e2 e3 e4 e5 e6
    cases f with
    | zero=>exact r3.elim
    | succ g=>
     have hel:=rd_elemsS Try.underlying31 r3
     have key:∀i,i<az.n→∃y:Vl,∃p v,az.a=some p∧p.block<h.size∧Vv7 h (p.add (i*7)) v∧VAt false (fun b=>b<h.size) h y (anyA fun b=>b<h.size) v:=by
      intro i hi'
      obtain⟨a,ea,cs',q1,q2,q3⟩:=hel i hi'
      obtain⟨v,y,rfl,hy⟩:=ih g (by omega) cs' q3
      rw[cV] at q2
      have T7:Vv7 h (a.add (i*7)) v:=by
       intro j u hu
       have hj:j<7:=(Array.getElem?_eq_some_iff.1 hu).1
       rw[q2 j hj,Array.getElem?_toList]
       exact hu
      exact⟨y,a,v,ea,by have:=T7.lt;rwa [add_block] at this,T7,hy⟩
     have:∃ys:List Vl,ys.length=az.n∧∀j (hj:j<ys.length),∃p u,az.a=some p∧p.block<h.size∧Vv7 h (p.add (j*7)) u∧VAt false (fun b=>b<h.size) h ys[j] (anyA fun b=>b<h.size) u:=by
      refine⟨(List.range az.n).attach.map fun i=>Classical.choose (key i.1 (by simpa using i.2)),by simp,fun j hj=>?_⟩
      simp only[List.getElem_map,List.getElem_attach,List.getElem_range]
      exact Classical.choose_spec (key j (by simpa using hj))
     obtain⟨ys,hy1,hy2⟩:=this
     refine⟨⟨k,n,nm,az,al,pa,tg⟩,.mk k n nm ys al xs tg,rfl,vAt_iff.2 ⟨rfl,rfl,rfl,rfl,rfl,hx,hy1.symm,fun j hj=>?_⟩⟩
     obtain⟨p,u,a1,a2,a3,a4⟩:=hy2 j hj
     exact⟨p,u,a1,a2,fun e=>(by cases e),a3,a4⟩
end
end Go.Proofs.Ytggacajnmgligaa.row
namespace Go.Proofs.Ytggacajnmgligaa
open Go Go.Lf
set_option linter.unusedVariables false
noncomputable def getW (S:Hs) (al:Int) (pa:List Int):Except Int Vl:=
 match atS S al with
 | none=>.error 1
 | some a=>match getV a.v pa with
  | .error f=>.error f
  | .ok y=>if wholeV y=true then .ok y else .error 3
noncomputable def useGet (S:Hs) (al:Int) (pa:List Int) (tg:Int) (w:Bool):Hs×Except Int Vl:=
 match useS S al pa tg w with
 | .error f=>(S,.error f)
 | .ok S'=>(S',getW S' al pa)
theorem getV_err:∀(xs:List Int) (t:Vl) (f:Int),getV t xs=.error f→f≠0
 | [],t,f,h=>by unfold getV at h;cases h
 | i :: xs,.mk k n nm ts al pa tg,f,h=>by
  unfold getV at h
  split at h
  ·cases h;decide
  split at h
  ·cases h;decide
  split at h
  ·exact getV_err xs _ f h
  ·cases h;decide
theorem atS_some {S:Hs} {i:Int} {a:Al} (h:atS S i=some a):∃j:Nat,i=j∧∃h2:j<S.l.length,S.l[j]=a∧a.live=true:=by
 unfold atS at h
 split at h
 ·rename_i h0
  split at h
  ·rename_i b hb
   split at h
   ·rename_i hl
    simp only[Option.some.injEq] at h
    subst h
    obtain⟨h2,rfl⟩:=List.getElem?_eq_some_iff.1 hb
    exact⟨i.toNat,by omega,h2,rfl,hl⟩
   ·cases h
  ·cases h
 ·cases h
theorem useS_at {S S':Hs} {al tg:Int} {pa:List Int} {w:Bool} (h:useS S al pa tg w=.ok S'):∃a,atS S' al=some a∧S'.l.length=S.l.length∧S'.tags=S.tags∧S'.live=S.live∧S'.most=S.most∧S'.watch=S.watch:=by
 unfold useS at h
 split at h
 ·cases h
 ·rename_i a ha
  split at h
  ·simp only[Except.ok.injEq] at h
   subst h
   exact⟨a,ha,rfl,rfl,rfl,rfl,rfl⟩
  ·split at h
   ·cases h
   ·rename_i a' ha'
    simp only[Except.ok.injEq] at h
    subst h
    obtain⟨j,rfl,h2,rfl,hl⟩:=atS_some ha
    refine⟨a',?_,by simp,rfl,rfl,rfl,rfl⟩
    have hl':a'.live=true:=by
     unfold useAl at ha'
     split at ha'
     ·cases ha'
     ·split at ha'
      ·cases ha'
      ·split at ha'
       ·cases ha'
       ·simp only[Option.some.injEq] at ha'
        subst ha'
        exact hl
    have:=atS_of (S:={ S with l:=S.l.set j a' }) (j:=j) (by simpa using h2) (by simpa using hl')
    simpa using this
def Ext (lab lab':Nat→Lb) (h:Heap):Prop:=∀b,b<h.size→¬Mut (lab b)→lab' b=lab b
def Till (lab:Nat→Lb) (lo b:Nat):Prop:=lab b=.q∨(lo≤b∧lab b=.no)
def Told (lab:Nat→Lb) (lo:Nat) (h:Heap) (y:Vl) (u:Vv):Prop:=VAt false (Till lab lo) h y (anyA (Till lab lo)) u
theorem Fresh.fr {T:Nat→Prop} {h0 h1 h2:Heap} {y:Vl} {u:Vv} (x:Fresh h0 h1 y u) (f:Fr T h1 h2) (hT:∀b,T b→b<h0.size):Fresh h0 h2 y u:=by
 obtain⟨lb,e1,e2⟩:=x
 refine⟨lb,fun b hb=>e1 b (hb.imp id (Nat.le_trans f.size)),e2.fr f (fun b hb ht=>?_) fun σ b hb ht=>?_⟩
 ·have:=hT b ht
  omega
 ·rw[e1 b (.inl (hT b ht))] at hb;cases hb
section
variable {lab:Nat→Lb} {h:Heap} {hp:Nat} {S:Hs} {s:Sv} {bs:List Nat}
theorem toM {a b:Heap} (g:Grow a b):Fr (fun b=>Mut (lab b)) a b:=g.mono fun _ _ h=>h.elim
theorem useGet_walk (x:HpAt lab h hp S s bs) {al tg:Int} {sp:Sv} {pa:List Int} (hps:IntsC (fun b=>¬Mut (lab b)) h sp pa) (hpl:pa.length≤1000000) (hst:∀a∈S.l,a.st.length≤1000000) {w:Bool} {b4:Nat} (k4:blk h b4 (pvs al sp tg)) (l4:lab b4=.no)
  {K1 K2:Int→Heap→Prop} {K3:Option Addr→Option Addr→Heap→Prop}
  (ke:∀f h',Fr (fun b=>Mut (lab b)) h h'→HpAt lab h' hp (useGet S al pa tg w).1 s bs→(useGet S al pa tg w).2=.error f→f≠0→K1 f h'∧K2 f h')
  (kk:∀S' j y p h',Fr (fun b=>Mut (lab b)) h h'→HpAt lab h' hp S' s bs→useGet S al pa tg w=(S',.ok y)→S'.tags=S.tags→S'.watch=S.watch→∀(h1:j<bs.length) (h2:j<S'.l.length),al=j→S'.l[j].live=true→getV S'.l[j].v pa=.ok y→Pl h' ⟨bs[j],1,none⟩ (natsOf pa) p→K3 (some ⟨bs[j],0,none⟩) (some p) h') :
  cal Try.prog 28 #[ptr hp,.agg (pvs al sp tg),.bool w] h fun u h3=>asTup u fun r13=>elt r13 0 fun u_1=>asP u_1 fun x14=>elt r13 1 fun u_2=>asI .i64 u_2 fun x15=>ifb (x15 != 0) (K1 x15 h3)
   (ldS h3 ((⟨b4,0,none⟩:Addr).add 1) fun x23=>cal Try.prog 29 #[.pointer x14,.slice x23.a x23.n x23.c] h3 fun u_3 h5=>asTup u_3 fun r24=>elt r24 0 fun u_4=>asP u_4 fun x25=>elt r24 1 fun u_5=>asI .i64 u_5 fun x26=>ifb (x26 != 0) (K2 x26 h5) (K3 x14 x25 h5)):=by
 refine cal_of (use_spec x hps hpl hst w) ?_
 rintro v h3 ⟨f3,hm⟩
 cases hu:useS S al pa tg w with
 | error f=>
  rw[hu] at hm
  obtain⟨x3,rfl,hf⟩:=hm
  have hug:useGet S al pa tg w=(S,.error f):=by unfold useGet;rw[hu]
  rw[hug] at ke
  exact⟨_,rfl,_,rfl,_,rfl,_,rfl,_,rfl,fun _=>(ke f h3 f3 x3 rfl hf).1,fun e=>absurd (by simpa using e) hf⟩
 | ok S'=>
  rw[hu] at hm
  obtain⟨x3,j,hj,rfl,rfl⟩:=hm
  refine⟨_,rfl,_,rfl,_,rfl,_,rfl,_,rfl,fun e=>(by simp at e),fun _=>?_⟩
  have hug:useGet S (j:Int) pa tg w=(S',getW S' j pa):=by unfold useGet;rw[hu]
  rw[hug] at ke kk
  obtain⟨a,ha,-,ht,-,-,hw⟩:=useS_at hu
  obtain⟨j',e,hj2,rfl,hl⟩:=atS_some ha
  obtain rfl:j=j':=by omega
  have hget:getW S' j pa=match getV S'.l[j].v pa with
    | .error f=>.error f
    | .ok y=>if wholeV y=true then .ok y else .error 3:=by
   unfold getW;rw[ha]
  obtain⟨lb,hfew,v,u,kb,hva,-⟩:=x3.bx j hj hj2
  have k43:=f3.blk k4 (by rw[l4];exact fun h=>h.1 rfl)
  have hps3:=hps.fr f3 fun b hb h=>hb h
  refine ldS_i (s:=sp) (by rw[add_plain,k43.cl];rfl) ?_
  refine cal_of (get_spec (p0:=⟨bs[j],0,none⟩) hva (by rw[add_plain];exact bx7 kb) hps3.ints hpl hfew) ?_
  rintro w5 h5 ⟨f5,hm⟩
  have F5:Fr (fun b=>Mut (lab b)) h h5:=f3.trans (toM f5)
  have x5:=x3.grow f5
  cases hg:getV S'.l[j].v pa with
  | error f=>
   rw[hg] at hm hget
   have hm:w5=.tuple #[.pointer none,.int .i64 f]:=hm
   subst hm
   refine⟨_,rfl,_,rfl,_,rfl,_,rfl,_,rfl,fun _=>(ke f h5 F5 x5 hget (getV_err _ _ _ hg)).2,fun e=>absurd (by simpa using e) (getV_err _ _ _ hg)⟩
  | ok y=>
   rw[hg] at hm hget
   dsimp only at hm hget
   by_cases hwh:wholeV y=true
   ·rw[if_pos hwh] at hm hget
    obtain⟨p,rfl,hpl'⟩:=hm
    refine⟨_,rfl,_,rfl,_,rfl,_,rfl,_,rfl,fun e=>(by simp at e),fun _=>?_⟩
    refine kk S' j y p h5 F5 x5 (by rw[hget]) ht hw hj hj2 rfl hl hg ?_
    have hpl3:Pl h5 ((⟨bs[j],0,none⟩:Addr).add 1) (natsOf pa) p:=by
     clear hget
     have:∀(π:List Nat) (p0:Addr),Pl h3 p0 π p→Pl h5 p0 π p:=by
      intro π
      induction π with
      | nil=>exact fun _ h=>h
      | cons i π ih=>
       rintro p0 ⟨s,q,c,e,r⟩
       exact⟨s,q,f5.clk c fun h=>h,e,ih _ r⟩
     exact this _ _ hpl'
    rwa [add_plain] at hpl3
   ·rw[if_neg hwh] at hm hget
    subst hm
    refine⟨_,rfl,_,rfl,_,rfl,_,rfl,_,rfl,fun _=>(ke 3 h5 F5 x5 hget (by decide)).2,fun e=>(by simp at e)⟩
theorem told_of_fresh {h0:Heap} {y:Vl} {u:Vv} (hlab:∀b,h.size≤b→lab b=.no) (hs:h.size≤h0.size) {h':Heap} (x:Fresh h0 h' y u):Told lab h.size h' y u:=by
 obtain⟨lb,h1,h2⟩:=x
 refine h2.weak (fun b hb _=>.inr ⟨by omega,hlab b (by omega)⟩) (fun h=>(by cases h)) fun σ b hb _=>?_
 have:¬b<h0.size:=fun hl=>by rw[h1 b (.inl hl)] at hb;cases hb
 exact .inr ⟨by omega,hlab b (by omega)⟩
theorem read_spec (x:HpAt lab h hp S s bs) {al tg:Int} {sp:Sv} {pa:List Int} (hps:IntsC (fun b=>¬Mut (lab b)) h sp pa) (hpl:pa.length≤1000000) (hst:∀a∈S.l,a.st.length≤1000000) :
  CallsH Try.prog 15 #[ptr hp,.agg (pvs al sp tg)] h (fun v h'=>Fr (fun b=>Mut (lab b)) h h'∧HpAt lab h' hp (useGet S al pa tg false).1 s bs∧match (useGet S al pa tg false).2 with
   | .error f=>v=.tuple #[.agg (vvs zVv),.int .i64 f]
   | .ok y=>∃u,v=.tuple #[.agg (vvs u),.int .i64 0]∧Told lab h.size h' y u):=by
 apply F15
 unfold L15
 refine newPt fun h1 k1 f1 z1=>newV (v:=zVv) fun h2 k2 f2 z2=>?_
 have K1:=f2.blk k1 fun h=>h
 have g2:=f1.trans f2
 have x2:=x.grow g2
 refine rdPt K1 ?_
 have l1:lab h.size=.no:=x.out _ (Nat.le_refl _)
 have l2:lab h1.size=.no:=x.out _ (by omega)
 refine useGet_walk x2 (hps.fr g2 fun _ _ h=>h) hpl hst K1 l1 (fun f h' f' x' e hf=>?_) (fun S' j y p h' f' x' e ht hw hj hj2 e2 hl hg hplc=>?_)
 ·have K2:=f'.blk k2 (by rw[l2];exact fun h=>h.1 rfl)
  have fin:∀h4,blk h4 h1.size (vvs zVv)→Fr (fun i=>i=h1.size) h' h4→Fr (fun b=>Mut (lab b)) h h4∧HpAt lab h4 hp (useGet S al pa tg false).1 s bs:=fun h4 b4 f4=>
   ⟨((toM g2).trans f').trans' f4 (fun i hi e=>(by have:=f1.size;omega)),x'.fr f4 fun b hb=>by rw[hb];exact l2⟩
  rw[e]
  constructor
  ·refine stoV (v:=zVv) K2 rfl fun h4 b4 f4=>rd7 (Vv7.blk b4) ⟨(fin h4 b4 f4).1,(fin h4 b4 f4).2,rfl⟩
  ·refine stoV (v:=zVv) K2 rfl fun h4 b4 f4=>rd7 (Vv7.blk b4) ⟨(fin h4 b4 f4).1,(fin h4 b4 f4).2,rfl⟩
 ·subst e2
  rw[e]
  obtain⟨lb,hfew,v,u0,kb,hva,-⟩:=x'.bx j hj hj2
  obtain⟨u,hu,hyu,-⟩:=hplc.at_ (bx7 kb) hva (getV_getN pa _ _ hg)
  refine⟨p,rfl,rd7 hu ?_⟩
  refine cal_of (clone_spec y true _ _ u h' (getV_few pa _ _ hg hfew) hyu) ?_
  rintro _ h7 ⟨f7,u',rfl,hfr⟩
  refine⟨_,_,_,u'.ps,_,u'.pa,_,rfl,?_⟩
  have K2:=f7.blk (f'.blk k2 (by rw[l2];exact fun h=>h.1 rfl)) fun h=>h
  refine stoV (v:=u') K2 rfl fun h8 b8 f8=>rd7 (Vv7.blk b8) ?_
  have hs:h.size≤h'.size:=by have:=g2.size;have:=f'.size;omega
  have h1s:h1.size<h'.size:=by have:=f'.size;omega
  have hf8:=hfr.fr f8 fun b hb=>by omega
  refine⟨((toM g2).trans f').trans' ((f7.mono fun _ _ h=>h.elim).trans f8:Fr (fun i=>i=h1.size) h' h8) (fun i hi e=>?_),(x'.grow f7).fr f8 fun b hb=>by rw[hb];exact l2,u',rfl,told_of_fresh x.out hs hf8⟩
  have:=f1.size
  omega
end
end Go.Proofs.Ytggacajnmgligaa
namespace Go.Proofs.Ytggacajnmgligaa
open Go Go.Lf
set_option linter.unusedVariables false
def allocS (S:Hs) (t:Vl):Hs:={ S with tags:=S.tags+1,live:=S.live+1,l:=S.l++[⟨true,t,if S.watch=true then [⟨S.tags+1,[],true⟩] else []⟩] }
section
variable {lab:Nat→Lb} {h:Heap} {hp:Nat} {S:Hs} {s:Sv} {bs:List Nat}
theorem alloc_spec (x:HpAt lab h hp S s bs) {t:Vl} {v:Vv} (hv:VAt false (fun b=>¬Mut (lab b)) h t (anyA fun b=>¬Mut (lab b)) v) (hf:few t) (hsl:S.l.length≤1000000) (ht0:0≤S.tags) (ht1:S.tags≤1000000) (hl0:-1000000≤S.live) (hl1:S.live≤1000000) :
  CallsH Try.prog 10 #[ptr hp,.agg (vvs v)] h (fun r h'=>∃lab' s' bs',Fr (fun b=>Mut (lab b)) h h'∧(∀b,b<h.size→lab' b=lab b) ∧
   if S.live≥S.most then HpAt lab' h' hp S s' bs'∧r=.tuple #[.agg (pvs 0 ⟨none,0,0⟩ 0),.bool false]
   else HpAt lab' h' hp (allocS S t) s' bs'∧r=.tuple #[.agg (pvs S.l.length ⟨none,0,0⟩ (S.tags+1)),.bool true]):=by
 apply F10
 unfold L10
 refine newV (v:=v) fun h1 k1 f1 z1=>newPt (al:=0) (sp:=⟨none,0,0⟩) (tg:=0) fun h2 k2 f2 z2=>?_
 have K1:=f2.blk k1 fun h=>h
 have g2:=f1.trans f2
 have x2:=x.grow g2
 have hlive:cl h2 ((⟨hp,0,none⟩:Addr).add 2)=some (.int .i64 S.live):=by rw[add_plain,x2.hd.cl];rfl
 have hmost:cl h2 ((⟨hp,0,none⟩:Addr).add 3)=some (.int .i64 S.most):=by rw[add_plain,x2.hd.cl];rfl
 refine⟨fun b=>b=decide (S.live≥S.most),⟨fun e=>(by cases e),fun _=>⟨_,rfl,ldI_i hlive ⟨_,rfl,ldI_i hmost rfl⟩⟩⟩,?_⟩
 intro x19 h19
 refine ifb_iff (q:=S.live≥S.most) (by rw[h19];exact decide_eq_true_iff) (fun hfull=>?_) (fun hroom=>?_)
 ·refine stoPt (al:=0) (sp:=⟨none,0,0⟩) (tg:=0) k2 rfl fun h3 k3 f3=>rdPt k3 ?_
  refine⟨lab,s,bs,((toM g2).trans' f3 fun i hi e=>by omega),fun _ _=>rfl,?_⟩
  rw[if_pos hfull]
  exact⟨x2.fr f3 fun b hb=>by rw[hb];exact x.out _ (by omega),rfl⟩
 refine⟨_,rfl,ldI_i (x:=S.tags) (by rw[add_plain,x2.hd.cl];rfl) ⟨_,rfl,?_⟩⟩
 rw[add_plain,wrap64_id (by omega) (by omega)]
 refine sto_i x2.hd (by simp) ?_
 have K3:blk (sc h2 ⟨hp,0+1,none⟩ (.int .i64 (S.tags+1))) hp (hps s (S.tags+1) S.live S.most S.watch):=x2.hd.sc 1 _
 have f3:Fr (fun b=>b=hp) h2 (sc h2 ⟨hp,0+1,none⟩ (.int .i64 (S.tags+1))):=Fr.scb _ _ _ _
 have s3:=f3.size
 generalize sc h2 ⟨hp,0+1,none⟩ (.int .i64 (S.tags+1))=h3 at *
 refine⟨_,rfl,ldI_i (x:=S.live) (by rw[add_plain,K3.cl];rfl) ⟨_,rfl,?_⟩⟩
 rw[add_plain,wrap64_id (by omega) (by omega)]
 refine sto_i K3 (by simp) ?_
 have K4:blk (sc h3 ⟨hp,0+2,none⟩ (.int .i64 (S.live+1))) hp (hps s (S.tags+1) (S.live+1) S.most S.watch):=K3.sc 2 _
 have f4:Fr (fun b=>b=hp) h2 (sc h3 ⟨hp,0+2,none⟩ (.int .i64 (S.live+1))):=f3.trans (Fr.scb _ _ _ _)
 generalize sc h3 ⟨hp,0+2,none⟩ (.int .i64 (S.live+1))=h4 at *
 have x4:HpAt lab h4 hp { S with tags:=S.tags+1,live:=S.live+1 } s bs:=x2.hdr f4 K4
 have hhp:hp<h.size:=x.hd.lt
 have n1:¬h.size=hp:=by omega
 have n2:¬h1.size=hp:=by omega
 have s4:=f4.size
 have F4:Fr (fun b=>b=hp∨s.own b) h h4:=(g2.mono fun _ _ h=>h.elim).trans' f4 fun i _ e=>.inl e
 have hhm:Mut (lab hp):=by rw[x.lhp];exact⟨Lb.noConfusion,Lb.noConfusion⟩
 have hv4:=(hv.grow g2).fr f4 (fun b hb e=>hb (by rw[e];exact hhm)) fun σ b hb e=>hb (by rw[e];exact hhm)
 refine rd7 (Vv7.blk (f4.blk K1 n1)) ?_
 refine cal_of (clone_spec t false _ _ v h4 hf hv4) ?_
 rintro _ h6 ⟨f6,v',rfl,lb,hlb,hva⟩
 refine⟨_,_,_,v'.ps,_,v'.pa,_,rfl,?_⟩
 have s6:=f6.size
 rintro p38 h7 rfl rfl
 have f7:Grow h6 (h6.push (.cells (bxs true v' ⟨none,0,0⟩) 78)):=Fr.push _ _ _
 have k7:blk (h6.push (.cells (bxs true v' ⟨none,0,0⟩) 78)) h6.size (bxs true v' ⟨none,0,0⟩):=blk.new _ _ _
 have s7:(h6.push (.cells (bxs true v' ⟨none,0,0⟩) 78)).size=h6.size+1:=by simp
 generalize h6.push (.cells (bxs true v' ⟨none,0,0⟩) 78)=h7 at *
 have x7:=(x4.grow f6).grow f7
 refine⟨fun h10=>∃u,blk h10 h6.size (bxs true v' u)∧Own h10 0 3 u (c3 (if S.watch=true then [⟨S.tags+1,⟨none,0,0⟩,true⟩] else []))∧(∀b,u.own b→h7.size≤b)∧Fr (fun b=>b=h6.size) h7 h10,⟨_,rfl,S.watch,by rw[add_plain,x7.hd.cl];rfl,fun hw=>⟨_,rfl,ldI_i (x:=S.tags+1) (by rw[add_plain,x7.hd.cl];rfl) ?_⟩,fun hw=>?_⟩,?_⟩
 ·rintro s49 h8 rfl rfl
  have f8:Grow h7 (h7.push (.cells (hvs ⟨S.tags+1,⟨none,0,0⟩,true⟩) 80)):=Fr.push _ _ _
  have k8:blk (h7.push (.cells (hvs ⟨S.tags+1,⟨none,0,0⟩,true⟩) 80)) h7.size (hvs ⟨S.tags+1,⟨none,0,0⟩,true⟩):=blk.new _ _ _
  generalize h7.push (.cells (hvs ⟨S.tags+1,⟨none,0,0⟩,true⟩) 80)=h8 at *
  rw[add_plain]
  refine sto_i (f8.blk k7 fun h=>h) (by simp) ?_
  have f9:Fr (fun b=>b=h6.size) h8 (sc h8 ⟨h6.size,0+8,none⟩ (.slice (some ⟨h7.size,0,none⟩) 1 1)):=Fr.scb _ _ _ _
  refine⟨⟨some ⟨h7.size,0,none⟩,1,1⟩,(f8.blk k7 fun h=>h).sc 8 _,⟨?_,.inr ⟨h7.size,_,rfl,Nat.zero_le _,f9.blk k8 (by omega),Nat.le_refl _,rfl,?_⟩⟩,?_,(f8.mono fun _ _ h=>h.elim).trans f9⟩
  ·rw[if_pos hw];rfl
  ·rw[if_pos hw];rfl
  ·rintro b ⟨a,ea,rfl⟩
   simp only[Option.some.injEq] at ea
   subst ea;exact Nat.le_refl _
 ·refine⟨⟨none,0,0⟩,k7,?_,fun b ⟨a,ea,_⟩=>(by cases ea),Fr.refl _ _⟩
  rw[hw]
  exact Own.nil _ _ _
 rintro h10 ⟨u,kb,ou,hu,f10⟩
 have s10:=f10.size
 have n6:∀b,b<h.size→¬b=h6.size:=fun b hb=>by omega
 have x10:=x7.fr f10 fun b hb=>by rw[hb];exact x.out _ (by omega)
 refine⟨_,rfl,ldS_i (s:=s) (by rw[x10.hd.cl];rfl) ?_⟩
 have hn:s.n=bs.length:=by have:=x.al.len;simpa using this.symm
 have hbl:=x.len
 refine app1 (vs:=#[ptr h6.size]) (z:=(Value.pointer none).cells) rfl x10.al rfl (by intro w hw;simp only[List.mem_cons,List.not_mem_nil,or_false] at hw;rw[hw];rfl) (Nat.zero_le _) (by omega) (by omega) ?_
 intro s' h12 e1 o12 f12 e3
 have s12:=f12.size
 have nal:¬s.own hp:=fun hb=>by have:=x.lal _ hb;rw[x.lhp] at this;cases this
 have nown:∀b,h.size≤b→¬s.own b:=fun b hb ho=>by have:=(x.al.ge ho).2;omega
 refine⟨_,rfl,?_⟩
 dsimp only
 have K12:=f12.blk x10.hd nal
 refine sto_i K12 (by simp) ?_
 have K13:blk (sc h12 ⟨hp,0,none⟩ (.slice s'.a s'.n s'.c)) hp (hps s' (S.tags+1) (S.live+1) S.most S.watch):=K12.sc 0 _
 have f13:Fr (fun b=>b=hp) h12 (sc h12 ⟨hp,0,none⟩ (.slice s'.a s'.n s'.c)):=Fr.scb _ _ _ _
 have s13:=f13.size
 generalize sc h12 ⟨hp,0,none⟩ (.slice s'.a s'.n s'.c)=h13 at *
 refine⟨_,rfl,ldS_i (s:=s') (by rw[K13.cl];rfl) ⟨_,rfl,ldI_i (x:=S.tags+1) (by rw[add_plain,K13.cl];rfl) ?_⟩⟩
 have hw1:IntKind.i64.wrap ((s'.n:Int) - 1)=(S.l.length:Int):=by
  rw[wrap64_id (by omega) (by omega)]
  omega
 rw[hw1]
 have s1:=f1.size
 refine stoPt (al:=S.l.length) (sp:=⟨none,0,0⟩) (tg:=S.tags+1) (f13.blk (f12.blk (f10.blk (f7.blk (f6.blk (f4.blk k2 n2) fun h=>h) fun h=>h) (by omega)) (nown _ s1)) n2) rfl fun h14 k14 f14=>rdPt k14 ?_
 have s14:=f14.size
 have F14:Fr (fun b=>b=hp∨s.own b) h h14:=(((((F4.trans' f6 fun _ _ h=>h.elim).trans' f7 fun _ _ h=>h.elim).trans' f10 fun i hi e=>by omega).trans' f12 fun i _ e=>.inr e).trans' f13 fun i _ e=>.inl e).trans' f14 fun i hi e=>by omega
 have F6:Fr (fun b=>b=h6.size∨s.own b∨b=hp∨b=h1.size) h6 h14:=((((f7.mono fun _ _ h=>h.elim).trans' f10 fun _ _ e=>.inl e).trans' f12 fun _ _ e=>.inr (.inl e)).trans' f13 fun _ _ e=>.inr (.inr (.inl e))).trans' f14 fun _ _ e=>.inr (.inr (.inr e))
 have F10:Fr (fun b=>s.own b∨b=hp∨b=h1.size) h10 h14:=((f12.mono fun _ _ h=>.inl h).trans' f13 fun _ _ e=>.inr (.inl e)).trans' f14 fun _ _ e=>.inr (.inr e)
 let lab':Nat→Lb:=fun b=>if b<h.size then lab b else if b<h4.size then .no else if b<h6.size then (match lb b with|some σ=>.pt S.l.length σ|none=>.q) else if b=h6.size then .bx S.l.length else if b<h10.size then .st S.l.length else if b<h14.size then .al else .no
 have L0:∀b,b<h.size→lab' b=lab b:=fun b hb=>if_pos hb
 have L1:∀b,h4.size≤b→b<h6.size→lab' b=match lb b with|some σ=>.pt S.l.length σ|none=>.q:=fun b h1 h2=>by
  show (if b<h.size then lab b else _)=_
  rw[if_neg (by omega),if_neg (by omega),if_pos h2]
 have L2:lab' h6.size=.bx S.l.length:=by
  show (if h6.size<h.size then lab h6.size else _)=_
  rw[if_neg (by omega),if_neg (by omega),if_neg (by omega),if_pos rfl]
 have L3:∀b,h6.size<b→b<h10.size→lab' b=.st S.l.length:=fun b h1 h2=>by
  show (if b<h.size then lab b else _)=_
  rw[if_neg (by omega),if_neg (by omega),if_neg (by omega),if_neg (by omega),if_pos h2]
 have L4:∀b,h10.size≤b→b<h14.size→lab' b=.al:=fun b h1 h2=>by
  show (if b<h.size then lab b else _)=_
  rw[if_neg (by omega),if_neg (by omega),if_neg (by omega),if_neg (by omega),if_neg (by omega),if_pos h2]
 have L5:∀b,h14.size≤b→lab' b=.no:=fun b h1=>by
  show (if b<h.size then lab b else _)=_
  rw[if_neg (by omega),if_neg (by omega),if_neg (by omega),if_neg (by omega),if_neg (by omega),if_neg (by omega)]
 refine⟨lab',s',bs++[h6.size],F14.mono fun b _ hb=>?_,L0,?_⟩
 ·rcases hb with rfl|hb
  ·exact hhm
  ·rw[x.lal b hb];exact⟨Lb.noConfusion,Lb.noConfusion⟩
 rw[if_neg hroom]
 refine⟨⟨f14.blk K13 (by omega),by rw[L0 _ hhp];exact x.lhp,by simp[allocS,hbl],?_,fun b hb=>?_,fun i i1 i2=>?_,L5⟩,rfl⟩
 ·rw[List.map_append]
  refine (o12.frame f13 fun b hb e=>?_).frame f14 fun b hb e=>?_
  ·rcases e3 b hb with h|h
   ·rw[e] at h;exact nal h
   ·omega
  ·rcases e3 b hb with h|h
   ·exact nown b (by omega) h
   ·omega
 ·rcases e3 b hb with h|h
  ·rw[L0 b (x.al.ge h).2];exact x.lal b h
  ·exact L4 b h (by have:=(o12.ge hb).2;omega)
 ·by_cases hi:i<bs.length
  ·have hi2:i<S.l.length:=by omega
   have hb:=x.bx i hi hi2
   have e1:(bs++[h6.size])[i]=bs[i]:=List.getElem_append_left hi
   have e2:(allocS S t).l[i]=S.l[i]:=List.getElem_append_left hi2
   rw[e1,e2]
   refine hb.to F14 (fun c hc e=>?_) fun c hc _=>L0 c hc
   have:lab c=.hp∨lab c=.al:=by
    rcases e with rfl|e
    ·exact .inl x.lhp
    ·exact .inr (x.lal c e)
   rcases hc with (hc|hc|⟨σ,hc⟩)|hc<;>rw[hc] at this<;>rcases this with h|h<;>cases h
  ·have hin:i=bs.length:=by simp at i1;omega
   subst hin
   have e1:(bs++[h6.size])[bs.length]=h6.size:=by simp
   have e2:(allocS S t).l[bs.length]=⟨true,t,if S.watch=true then [⟨S.tags+1,[],true⟩] else []⟩:=by simp[allocS,hbl]
   rw[e1,e2]
   refine⟨by rw[L2,hbl],hf,v',u,F10.blk kb (fun e=>?_),?_,?_⟩
   ·rcases e with e|e|e
    ·exact nown _ (by omega) e
    ·omega
    ·omega
   ·have h6':VAt true (fun b=>(h4.size≤b∧lb b=none)∧b<h6.size) h6 t (fun σ b=>lb b=some σ∧b<h6.size) v':=hva.weak (fun b hb hs=>⟨hb,hs⟩) (fun h=>h) fun σ b hb hs=>⟨hb,hs⟩
    have hge:∀σ b,lb b=some σ→h4.size≤b:=fun σ b hb=>by
     rcases Nat.lt_or_ge b h4.size with hl|hl
     ·rw[hlb b (.inl hl)] at hb;cases hb
     ·exact hl
    have nT:∀b,h4.size≤b→b<h6.size→¬(b=h6.size∨s.own b∨b=hp∨b=h1.size):=fun b h1 h2 e=>by
     rcases e with e|e|e|e
     ·omega
     ·exact nown b (by omega) e
     ·omega
     ·omega
    refine (h6'.fr F6 (fun b hb=>nT b hb.1.1 hb.2) fun σ b hb=>nT b (hge σ b hb.1) hb.2).weak (fun b hb _=>?_) (fun h=>h) fun σ b hb _=>?_
    ·rw[L1 b hb.1.1 hb.2,hb.1.2]
    ·rw[L1 b (hge σ b hb.1) hb.2,hb.1,hbl]
   ·refine⟨if S.watch=true then [(⟨S.tags+1,⟨none,0,0⟩,true⟩,⟨S.tags+1,[],true⟩)] else [],?_,?_,fun b hb=>?_,fun z hz=>?_⟩
    ·split<;>rfl
    ·have:(if S.watch=true then [((⟨S.tags+1,⟨none,0,0⟩,true⟩:Hr),(⟨S.tags+1,[],true⟩:Hd))] else []).map (·.1)=if S.watch=true then [⟨S.tags+1,⟨none,0,0⟩,true⟩] else []:=by split<;>rfl
     rw[this]
     refine ou.frame F10 fun b hb e=>?_
     have:=hu b hb
     rcases e with e|e|e
     ·exact nown _ (by omega) e
     ·omega
     ·omega
    ·have:=hu b hb
     rw[L3 b (by omega) (ou.ge hb).2,hbl]
    ·split at hz
     ·simp only[List.mem_cons,List.not_mem_nil,or_false] at hz
      subst hz
      exact⟨rfl,rfl,IntsC.nil _ _,by simp⟩
     ·cases hz
end
end Go.Proofs.Ytggacajnmgligaa
namespace Go.Proofs.Ytggacajnmgligaa
open Go Go.Lf
set_option linter.unusedVariables false
theorem app1q {E:TypeId} {z vs:Array Value} {sz bytes:Nat} {h:Heap} {B:Nat} {s:Sv} {xs:List Value} {Sq:Heap→Prop} {K:Sv→Heap→Prop} (hsz:z.size=sz) (o:Own h B sz s xs)
  (hl:vs.size=sz) (h1:∀u∈vs.toList,u.oneCell'=true) (hB:B≤h.size) (h63:s.n+1≤9223372036854775807) (hb:(s.n+1)*bytes≤140737488355328) (hS:∀h',Grow h h'→Sq h')
  (k:∀s' h',s'.n=s.n+1→Own h' B sz s' (xs++vs.toList)→Fr s.own h h'→(∀b,s'.own b→s.own b∨h.size≤b)→K s' h') :
  newS E vs 1 h fun s1 h1=>Sq h1∧appS E z sz bytes h1 s s1 K:=by
 have H:=app1 (E:=E) (z:=z) (bytes:=bytes) hsz o hl h1 hB h63 hb k
 intro s1 h1 e1 e2
 exact⟨hS _ (by rw[e2];exact Fr.push _ _ _),H s1 h1 e1 e2⟩
noncomputable def borrowS (S:Hs) (al:Int) (pa:List Int) (tg:Int) (u:Bool):Hs×Except Int Int:=
 match useGet S al pa tg u with
 | (S1,.error f)=>(S1,.error f)
 | (S1,.ok _)=>if S1.watch=true then (match S1.l[al.toNat]? with
  | some a=>({ S1 with tags:=S1.tags+1,l:=S1.l.set al.toNat { a with st:=a.st++[⟨S1.tags+1,pa,u⟩] } },.ok (S1.tags+1))
  | none=>(S1,.error 1)) else (S1,.ok 0)
theorem useS_st {S S':Hs} {al tg:Int} {pa:List Int} {w:Bool} {N:Nat} (h:useS S al pa tg w=.ok S') (hst:∀a∈S.l,a.st.length≤N):∀a∈S'.l,a.st.length≤N:=by
 unfold useS at h
 split at h
 ·cases h
 ·rename_i a ha
  split at h
  ·simp only[Except.ok.injEq] at h
   subst h;exact hst
  ·split at h
   ·cases h
   ·rename_i a' ha'
    simp only[Except.ok.injEq] at h
    subst h
    obtain⟨j,rfl,h2,rfl,hl⟩:=atS_some ha
    intro b hb
    rcases List.mem_or_eq_of_mem_set hb with hb|rfl
    ·exact hst b hb
    ·have h0:=hst _ (List.getElem_mem h2)
     unfold useAl at ha'
     split at ha'
     ·cases ha'
     ·rename_i k hk
      split at ha'
      ·cases ha'
      ·split at ha'
       ·cases ha'
       ·simp only[Option.some.injEq] at ha'
        subst ha'
        have h1:=List.length_filter_le (keepB pa w) (S.l[j].st.drop (k+1))
        simp only[List.length_append,List.length_take,List.length_drop] at h1 ⊢
        omega
section
variable {lab:Nat→Lb} {h:Heap} {hp:Nat} {S:Hs} {s:Sv} {bs:List Nat}
theorem borrow_spec (x:HpAt lab h hp S s bs) {al tg:Int} {sp:Sv} {pa:List Int} (hpt:IntsC (fun b=>¬Mut (lab b)) h sp pa) (hpl:pa.length≤1000000) (hst:∀a∈S.l,a.st.length≤1000000) (ht0:0≤S.tags) (ht1:S.tags≤1000000) (uq:Bool) :
  CallsH Try.prog 12 #[ptr hp,.agg (pvs al sp tg),.bool uq] h (fun v h'=>∃lab',Fr (fun b=>Mut (lab b)) h h'∧(∀b,b<h.size→lab' b=lab b)∧HpAt lab' h' hp (borrowS S al pa tg uq).1 s bs∧match (borrowS S al pa tg uq).2 with
   | .error f=>v=.tuple #[.agg (pvs 0 ⟨none,0,0⟩ 0),.int .i64 f]
   | .ok tg'=>∃so,v=.tuple #[.agg (pvs al so tg'),.int .i64 0]∧IntsC (Till lab' h.size) h' so pa):=by
 apply F12
 unfold L12
 refine newPt fun h1 k1 f1 z1=>newPt (al:=0) (sp:=⟨none,0,0⟩) (tg:=0) fun h2 k2 f2 z2=>?_
 have K1:=f2.blk k1 fun h=>h
 have g2:=f1.trans f2
 have x2:=x.grow g2
 refine rdPt K1 ?_
 have l1:lab h.size=.no:=x.out _ (Nat.le_refl _)
 have l2:lab h1.size=.no:=x.out _ (by omega)
 have nm1:¬Mut (lab h.size):=by rw[l1];exact fun h=>h.1 rfl
 have nm2:¬Mut (lab h1.size):=by rw[l2];exact fun h=>h.1 rfl
 have hps2:=hpt.fr g2 fun _ _ h=>h
 refine useGet_walk x2 hps2 hpl hst K1 l1 (fun f h' f' x' e hf=>?_) (fun S' j y p h5 f5 x5 e ht hw hj hj2 e2 hl hg hplc=>?_)
 ·have K2:=f'.blk k2 nm2
  have fin:∀h4,blk h4 h1.size (pvs 0 ⟨none,0,0⟩ 0)→Fr (fun i=>i=h1.size) h' h4→Fr (fun b=>Mut (lab b)) h h4∧HpAt lab h4 hp (useGet S al pa tg uq).1 s bs:=fun h4 b4 f4=>
   ⟨((toM g2).trans f').trans' f4 (fun i hi e=>(by have:=f1.size;omega)),x'.fr f4 fun b hb=>by rw[hb];exact l2⟩
  have hb:borrowS S al pa tg uq=((useGet S al pa tg uq).1,.error f):=by
   unfold borrowS
   generalize hu:useGet S al pa tg uq=r at *
   obtain⟨r1,r2⟩:=r
   dsimp only at e
   subst e;rfl
  rw[hb]
  constructor
  ·refine stoPt (al:=0) (sp:=⟨none,0,0⟩) (tg:=0) K2 rfl fun h4 b4 f4=>rdPt b4 ⟨lab,(fin h4 b4 f4).1,fun _ _=>rfl,(fin h4 b4 f4).2,rfl⟩
  ·refine stoPt (al:=0) (sp:=⟨none,0,0⟩) (tg:=0) K2 rfl fun h4 b4 f4=>rdPt b4 ⟨lab,(fin h4 b4 f4).1,fun _ _=>rfl,(fin h4 b4 f4).2,rfl⟩
 ·subst e2
  have s5:=f5.size
  have s2:=g2.size
  have K1':=f5.blk K1 nm1
  have K2':=f5.blk k2 nm2
  have hps5:=hps2.fr f5 fun b hb h=>hb h
  have F5:Fr (fun b=>Mut (lab b)) h h5:=(toM g2).trans f5
  refine⟨fun out h13=>∃b12 so,out=⟨b12,0,none⟩∧h5.size≤b12∧blk h13 b12 (pvs j so 0)∧IntsC (fun b=>h5.size≤b∧b≠b12) h13 so pa∧Grow h5 h13,⟨fun h'=>Grow h5 h',Fr.refl _ _,j,fun h' hs=>by rw[(hs.blk K1' fun h=>h).cl];rfl,sp,fun h' hs=>by rw[add_plain,(hs.blk K1' fun h=>h).cl];rfl,?_,?_⟩,?_⟩
  ·refine cal_of (cloneI_spec hps5.ints hpl) ?_
   rintro _ h7 ⟨f7,so,rfl,io⟩
   refine⟨so,rfl,f7,newPt (al:=0) (sp:=⟨none,0,0⟩) (tg:=0) fun h8 k8 f8 z8=>⟨f7.trans f8,stoPt (al:=j) (sp:=so) (tg:=0) k8 rfl fun h9 k9 f9=>⟨h7.size,so,rfl,f7.size,k9,?_,(f7.trans f8).trans' f9 fun i hi e=>by have:=f7.size;omega⟩⟩⟩
   have io':IntsC (fun b=>h5.size≤b∧b≠h7.size) h7 so pa:=io.weak fun b hb hs=>⟨hb,by omega⟩
   exact (io'.fr f8 fun _ _ h=>h).fr f9 fun b hb e=>hb.2 e
  ·refine newPt (al:=0) (sp:=⟨none,0,0⟩) (tg:=0) fun h8 k8 f8 z8=>⟨f8,?_⟩
   refine cal_of (cloneI_spec (hps5.fr f8 fun _ _ h=>h).ints hpl) ?_
   rintro _ h7 ⟨f7,so,rfl,io⟩
   refine⟨so,rfl,f8.trans f7,stoPt (al:=j) (sp:=so) (tg:=0) (f7.blk k8 fun h=>h) rfl fun h9 k9 f9=>⟨h5.size,so,rfl,Nat.le_refl _,k9,?_,(f8.trans f7).trans' f9 fun i hi e=>by omega⟩⟩
   have io':IntsC (fun b=>h5.size≤b∧b≠h5.size) h7 so pa:=io.weak fun b hb hs=>⟨by omega,by omega⟩
   exact io'.fr f9 fun b hb e=>hb.2 e
  rintro _ h13 ⟨b12,so,rfl,hb12,k12,io,g13⟩
  have s13:=g13.size
  have x13:=x5.grow g13
  have F13:Fr (fun b=>Mut (lab b)) h h13:=F5.trans (toM g13)
  have k2_13:=g13.blk K2' fun h=>h
  have k1_13:=g13.blk K1' fun h=>h
  have bb12:b12<h13.size:=k12.lt
  have l12:lab b12=.no:=x.out _ (by omega)
  have fin:∀(lab':Nat→Lb) (tg':Int) h20,Fr (fun b=>Mut (lab b)) h h20→(∀b,b<h13.size→lab' b=lab b)→HpAt lab' h20 hp (borrowS S j pa tg uq).1 s bs→(borrowS S j pa tg uq).2=.ok tg'→blk h20 b12 (pvs j so tg')→blk h20 h1.size (pvs 0 ⟨none,0,0⟩ 0)→IntsC (fun b=>h5.size≤b∧b≠b12∧b<h13.size) h20 so pa →
    ∃(y75:Int) (y75_1:Sv) (y75_2:Int),cl h20 ⟨b12,0,none⟩=some (.int .i64 y75)∧cl h20 ((⟨b12,0,none⟩:Addr).add 1)=some (.slice y75_1.a y75_1.n y75_1.c)∧cl h20 ((⟨b12,0,none⟩:Addr).add 2)=some (.int .i64 y75_2) ∧
     stoA h20 ⟨h1.size,0,none⟩ [.int .i64 y75,.slice y75_1.a y75_1.n y75_1.c,.int .i64 y75_2] fun h21=>
     ∃(y_6:Int) (y_7:Sv) (y_8:Int),cl h21 ⟨h1.size,0,none⟩=some (.int .i64 y_6)∧cl h21 ((⟨h1.size,0,none⟩:Addr).add 1)=some (.slice y_7.a y_7.n y_7.c)∧cl h21 ((⟨h1.size,0,none⟩:Addr).add 2)=some (.int .i64 y_8) ∧
     (∃lab',Fr (fun b=>Mut (lab b)) h h21∧(∀b,b<h.size→lab' b=lab b)∧HpAt lab' h21 hp (borrowS S j pa tg uq).1 s bs∧match (borrowS S j pa tg uq).2 with
      | .error f=>Value.tuple #[Value.agg #[.int .i64 y_6,.slice y_7.a y_7.n y_7.c,.int .i64 y_8],.int .i64 0]=.tuple #[.agg (pvs 0 ⟨none,0,0⟩ 0),.int .i64 f]
      | .ok tg'=>∃so,Value.tuple #[Value.agg #[.int .i64 y_6,.slice y_7.a y_7.n y_7.c,.int .i64 y_8],.int .i64 0]=.tuple #[.agg (pvs j so tg'),.int .i64 0]∧IntsC (Till lab' h.size) h21 so pa):=by
   intro lab' tg' h20 F20 L20 x20 e20 k20 k2_20 io20
   refine rdPt k20 (stoPt (al:=j) (sp:=so) (tg:=tg') k2_20 rfl fun h21 k21 f21=>rdPt k21 ⟨lab',F20.trans' f21 (fun i hi e=>by have:=f1.size;omega),fun b hb=>L20 b (by omega),x20.fr f21 (fun b hb=>by rw[hb,L20 _ (by omega)];exact l2),?_⟩)
   rw[e20]
   refine⟨so,rfl,(io20.fr f21 fun b hb e=>by omega).weak fun b hb _=>.inr ⟨by omega,?_⟩⟩
   rw[L20 b hb.2.2]
   exact x.out b (by omega)
  have io13:IntsC (fun b=>h5.size≤b∧b≠b12∧b<h13.size) h13 so pa:=io.weak fun b hb hs=>⟨hb.1,hb.2,hs⟩
  have hbor:borrowS S j pa tg uq=if S'.watch=true then ({ S' with tags:=S'.tags+1,l:=S'.l.set j { S'.l[j] with st:=S'.l[j].st++[⟨S'.tags+1,pa,uq⟩] } },.ok (S'.tags+1)) else (S',.ok 0):=by
   unfold borrowS
   rw[e]
   dsimp only
   rw[Int.toNat_natCast,List.getElem?_eq_getElem hj2]
  refine⟨fun h20=>∃lab' tg',Fr (fun b=>Mut (lab b)) h h20∧(∀b,b<h13.size→lab' b=lab b)∧HpAt lab' h20 hp (borrowS S j pa tg uq).1 s bs∧(borrowS S j pa tg uq).2=.ok tg'∧blk h20 b12 (pvs j so tg')∧blk h20 h1.size (pvs 0 ⟨none,0,0⟩ 0)∧IntsC (fun b=>h5.size≤b∧b≠b12∧b<h13.size) h20 so pa,?_,?_⟩
  rotate_left
  ·rintro h20 ⟨lab',tg',a1,a2,a3,a4,a5,a6,a7⟩
   exact fin lab' tg' h20 a1 a2 a3 a4 a5 a6 a7
  refine⟨_,rfl,S'.watch,by rw[add_plain,x13.hd.cl];rfl,fun hwt=>?_,fun hwf=>?_⟩
  rotate_left
  ·rw[hwf] at hbor
   rw[hbor]
   exact⟨lab,0,F13,fun _ _=>rfl,x13,rfl,k12,k2_13,io13⟩
  rw[if_pos hwt] at hbor
  rw[hbor]
  refine⟨_,rfl,ldI_i (x:=S'.tags) (by rw[add_plain,x13.hd.cl];rfl) ⟨_,rfl,?_⟩⟩
  rw[add_plain,wrap64_id (by omega) (by omega)]
  refine sto_i x13.hd (by simp) ?_
  have K14:blk (sc h13 ⟨hp,0+1,none⟩ (.int .i64 (S'.tags+1))) hp (hps s (S'.tags+1) S'.live S'.most S'.watch):=x13.hd.sc 1 _
  have f14:Fr (fun b=>b=hp) h13 (sc h13 ⟨hp,0+1,none⟩ (.int .i64 (S'.tags+1))):=Fr.scb _ _ _ _
  have s14:=f14.size
  generalize sc h13 ⟨hp,0+1,none⟩ (.int .i64 (S'.tags+1))=h14 at *
  have x14:HpAt lab h14 hp { S' with tags:=S'.tags+1,live:=S'.live } s bs:=x13.hdr f14 K14
  have hhp:hp<h.size:=x.hd.lt
  have hhm:Mut (lab hp):=by rw[x.lhp];exact⟨Lb.noConfusion,Lb.noConfusion⟩
  have k12_14:=f14.blk k12 (by omega)
  refine⟨_,rfl,ldI_i (x:=S'.tags+1) (by rw[add_plain,K14.cl];rfl) ?_⟩
  rw[add_plain]
  refine sto_i k12_14 (by simp) ?_
  have K15:blk (sc h14 ⟨b12,0+2,none⟩ (.int .i64 (S'.tags+1))) b12 (pvs j so (S'.tags+1)):=k12_14.sc 2 _
  have f15:Fr (fun b=>b=b12) h14 (sc h14 ⟨b12,0+2,none⟩ (.int .i64 (S'.tags+1))):=Fr.scb _ _ _ _
  have s15:=f15.size
  generalize sc h14 ⟨b12,0+2,none⟩ (.int .i64 (S'.tags+1))=h15 at *
  have x15:=x14.fr f15 fun b hb=>by rw[hb];exact l12
  have F15:Fr (fun b=>Mut (lab b)) h h15:=(F13.trans' f14 fun i _ e=>by rw[e];exact hhm).trans' f15 fun i hi e=>by omega
  have k1_15:=f15.blk (f14.blk k1_13 (by omega)) (by omega)
  have k2_15:=f15.blk (f14.blk k2_13 (by omega)) (by omega)
  have io15:=(io13.fr f14 fun b hb e=>by omega).fr f15 fun b hb e=>hb.2.1 e
  obtain⟨lb,hfew,v,u,kb,hva,zs,ezs,o,lo,hz⟩:=x15.bx j hj hj2
  have hzl:zs.length=S'.l[j].st.length:=by rw[←ezs,List.length_map]
  have hun:u.n=zs.length:=by have:=o.len;rw[c3_len] at this;simp at this;omega
  have hzb:zs.length≤1000000:=by
   rw[hzl]
   have hus:∃S1,useS S j pa tg uq=.ok S1∧S1=S':=by
    unfold useGet at e
    split at e
    ·cases e
    ·rename_i S1 h1
     simp only[Prod.mk.injEq] at e
     exact⟨S1,h1,e.1⟩
   obtain⟨S1,e1,rfl⟩:=hus
   exact useS_st e1 hst _ (List.getElem_mem hj2)
  refine⟨fun h'=>Grow h15 h',Fr.refl _ _,_,rfl,_,rfl,ldS_i (s:=sp) (by rw[k1_15.cl];rfl) ⟨u,fun h' hs=>by rw[add_plain,(hs.blk kb fun h=>h).cl];rfl,S'.tags+1,fun h' hs=>by rw[add_plain,(hs.blk x15.hd fun h=>h).cl];rfl,?_⟩⟩
  have hps15':IntsAt h15 sp pa:=by
   have:IntsC (fun b=>¬Mut (lab b)∧b<h5.size) h5 sp pa:=hps5.weak fun b hb hs=>⟨hb,hs⟩
   exact (((this.fr g13 fun _ _ h=>h).fr f14 fun b hb e=>hb.1 (by rw[e];exact hhm)).fr f15 fun b hb e=>by omega).ints
  refine cal_of (cloneI_spec hps15' hpl) ?_
  rintro _ h16 ⟨f16,s68,rfl,i16⟩
  have s16:=f16.size
  refine⟨s68,rfl,f16,?_⟩
  refine app1q (vs:=hvs ⟨S'.tags+1,s68,uq⟩) (z:=(Value.agg #[Value.int .i64 0,.slice (⟨none,0,0⟩:Sv).a (⟨none,0,0⟩:Sv).n (⟨none,0,0⟩:Sv).c,.bool false]).cells) rfl (o.frame f16 fun _ _ h=>h) rfl (one_hv _) (Nat.zero_le _) (by omega) (by omega) (fun h' g=>f16.trans g) ?_
  intro s72 h18 e1 o18 f18 e3
  have s18:=f18.size
  have nb:¬u.own bs[j]:=fun hb=>by have:=lo _ hb;rw[lb] at this;cases this
  refine⟨_,rfl,?_⟩
  dsimp only
  rw[add_plain]
  have kb18:=f18.blk (f16.blk kb fun h=>h) nb
  refine sto_i kb18 (by simp) ?_
  have K19:=kb18.sc (0+8) (.slice s72.a s72.n s72.c)
  have f19:Fr (fun b=>b=bs[j]) h18 (sc h18 ⟨bs[j],0+8,none⟩ (.slice s72.a s72.n s72.c)):=Fr.scb _ _ _ _
  have s19:=f19.size
  generalize sc h18 ⟨bs[j],0+8,none⟩ (.slice s72.a s72.n s72.c)=h19 at *
  have bbj:bs[j]<h15.size:=kb.lt
  let lab':Nat→Lb:=fun b=>if b<h15.size then lab b else if b<h16.size then .q else if b<h19.size then .st j else .no
  have L0:∀b,b<h15.size→lab' b=lab b:=fun b hb=>if_pos hb
  have L1:∀b,h15.size≤b→b<h16.size→lab' b=.q:=fun b h1 h2=>by
   show (if b<h15.size then lab b else _)=_
   rw[if_neg (by omega),if_pos h2]
  have L2:∀b,h16.size≤b→b<h19.size→lab' b=.st j:=fun b h1 h2=>by
   show (if b<h15.size then lab b else _)=_
   rw[if_neg (by omega),if_neg (by omega),if_pos h2]
  have L3:∀b,h19.size≤b→lab' b=.no:=fun b h1=>by
   show (if b<h15.size then lab b else _)=_
   rw[if_neg (by omega),if_neg (by omega),if_neg (by omega)]
  have F19:Fr (fun b=>u.own b∨b=bs[j]) h15 h19:=((f16.mono fun _ _ h=>h.elim).trans' f18 fun i _ e=>.inl e).trans' f19 fun i _ e=>.inr e
  have lT:∀b,(u.own b∨b=bs[j])→Fam j (lab b):=by
   rintro b (hb|rfl)
   ·exact .inr (.inl (lo b hb))
   ·exact .inl lb
  have mT:∀b,(u.own b∨b=bs[j])→Mut (lab b):=by
   rintro b (hb|rfl)
   ·rw[lo b hb];exact⟨Lb.noConfusion,Lb.noConfusion⟩
   ·rw[lb];exact⟨Lb.noConfusion,Lb.noConfusion⟩
  have nT:∀b,lab b=.no→¬(u.own b∨b=bs[j]):=fun b hb e=>(mT b e).1 hb
  refine⟨lab',S'.tags+1,F15.trans' F19 fun i _ e=>mT i e,fun b hb=>L0 b (by omega),?_,rfl,F19.blk K15 (nT _ l12),F19.blk k2_15 (nT _ l2),io15.fr F19 fun b hb=>nT b (x.out b (by omega))⟩
  refine x15.set (lab':=lab') (a':={ S'.l[j] with st:=S'.l[j].st++[⟨S'.tags+1,pa,uq⟩] }) F19 (fun b hb _=>.inl (lT b hb)) (fun b hb _=>L0 b hb) hj ⟨by rw[L0 _ bbj];exact lb,hfew,v,s72,K19,?_,zs++[(⟨S'.tags+1,s68,uq⟩,⟨S'.tags+1,pa,uq⟩)],?_,?_,fun b hb=>?_,fun z hzm=>?_⟩ L3
  ·refine vTo hva F19 (fun b hb e=>?_) fun b hb _=>L0 b hb
   rcases lT b e with h|h|⟨σ',h⟩
   ·rcases hb with⟨σ,hb⟩|hb<;>rw[hb] at h<;>cases h
   ·rcases hb with⟨σ,hb⟩|hb<;>rw[hb] at h<;>cases h
   ·rcases e with e|e
    ·have:=lo b e;rw[h] at this;cases this
    ·rw[e,lb] at h;cases h
  ·rw[List.map_append,ezs];rfl
  ·have:c3 ((zs++[((⟨S'.tags+1,s68,uq⟩:Hr),(⟨S'.tags+1,pa,uq⟩:Hd))]).map (·.1))=c3 (zs.map (·.1))++(hvs ⟨S'.tags+1,s68,uq⟩).toList:=by
    rw[List.map_append,c3_app];simp[c3]
   rw[this]
   refine o18.frame f19 fun b hb e=>?_
   rcases e3 b hb with h|h
   ·rw[e] at h;exact nb h
   ·omega
  ·rcases e3 b hb with h|h
   ·rw[L0 b (o.ge h).2];exact lo b h
   ·exact L2 b h (by have:=(o18.ge hb).2;omega)
  ·rcases List.mem_append.1 hzm with hm|hm
   ·obtain⟨q0,q1,q2,q3⟩:=hz z hm
    have q2':IntsC (fun b=>lab b=.q∧b<h15.size) h15 z.1.s z.2.pa:=q2.weak fun b hb hs=>⟨hb,hs⟩
    refine⟨q0,q1,(q2'.fr F19 fun b hb e=>(mT b e).2 hb.1).weak fun b hb _=>?_,q3⟩
    rw[L0 b hb.2];exact hb.1
   ·simp only[List.mem_cons,List.not_mem_nil,or_false] at hm
    subst hm
    have i16':IntsC (fun b=>h15.size≤b∧b<h16.size) h16 s68 pa:=i16.weak fun b hb hs=>⟨hb,hs⟩
    refine⟨rfl,rfl,((i16'.fr f18 fun b hb e=>by have:=(o.ge e).2;omega).fr f19 fun b hb e=>by omega).weak fun b hb _=>L1 b hb.1 hb.2,hpl⟩
end
end Go.Proofs.Ytggacajnmgligaa
namespace Go.Proofs.Ytggacajnmgligaa
open Go Go.Lf
set_option linter.unusedVariables false
def Ses (h0:Heap) (lab:Nat→Lb) (h:Heap) (hp:Nat) (S:Hs):Prop:=∃s bs,HpAt lab h hp S s bs∧Grow h0 h∧∀b,b<h0.size→lab b=.no
def Stp (lab:Nat→Lb) (h:Heap) (lab':Nat→Lb) (h':Heap):Prop:=Fr (fun b=>Mut (lab b)) h h'∧∀b,b<h.size→¬Mut (lab b)→lab' b=lab b
def Few (S:Hs):Prop:=S.l.length≤1000000∧0≤S.tags∧S.tags≤1000000∧-1000000≤S.live∧S.live≤1000000∧∀a∈S.l,a.st.length≤1000000
def PtAt (lab:Nat→Lb) (h:Heap) (b:Nat) (al:Int) (sp:Sv) (tg:Int) (pa:List Int):Prop:=blk h b (pvs al sp tg)∧lab b=.no∧IntsC (fun c=>¬Mut (lab c)) h sp pa∧pa.length≤1000000
section
variable {h0 h h':Heap} {lab lab':Nat→Lb} {hp:Nat} {S:Hs}
theorem Ses.grow (x:Ses h0 lab h hp S) (g:Grow h h'):Ses h0 lab h' hp S:=by
 obtain⟨s,bs,x,g0,l0⟩:=x
 exact⟨s,bs,x.grow g,g0.trans g,l0⟩
theorem nomut {l:Lb} (h:l=.no):¬Mut l:=by rw[h];exact fun h=>h.1 rfl
theorem PtAt.grow {b:Nat} {al tg:Int} {sp:Sv} {pa:List Int} (x:PtAt lab h b al sp tg pa) (g:Grow h h'):PtAt lab h' b al sp tg pa:=⟨g.blk x.1 fun h=>h,x.2.1,x.2.2.1.fr g fun _ _ h=>h,x.2.2.2⟩
theorem PtAt.op {b:Nat} {al tg:Int} {sp:Sv} {pa:List Int} (x:PtAt lab h b al sp tg pa) (t:Stp lab h lab' h'):PtAt lab' h' b al sp tg pa:=by
 obtain⟨x1,x2,x3,x4⟩:=x
 have x3':IntsC (fun c=>¬Mut (lab c)∧c<h.size) h sp pa:=x3.weak fun b hb hs=>⟨hb,hs⟩
 refine⟨t.1.blk x1 (nomut x2),by rw[t.2 b x1.lt (nomut x2)];exact x2,(x3'.fr t.1 fun b hb h=>hb.1 h).weak fun b hb _=>?_,x4⟩
 rw[t.2 b hb.2 hb.1];exact hb.1
theorem Ses.no (x:Ses h0 lab h hp S) {b:Nat} (hb:h.size≤b):lab b=.no:=by
 obtain⟨s,bs,x,_⟩:=x
 exact x.out b hb
theorem ses_of {s:Sv} {bs:List Nat} {S':Hs} (x:Ses h0 lab h hp S) (f:Fr (fun b=>Mut (lab b)) h h') (hl:∀b,b<h.size→lab b=.no→lab' b=.no) (x':HpAt lab' h' hp S' s bs):Ses h0 lab' h' hp S':=by
 obtain⟨_,_,_,g0,l0⟩:=x
 refine⟨s,bs,x',g0.trans' f fun i hi e=>e.1 (l0 i hi),fun b hb=>hl b ?_ (l0 b hb)⟩
 have:=g0.size
 omega
theorem minePt {al tg:Int} {sp:Sv} {K:Addr→Heap→Prop} (k:∀h',blk h' h.size (pvs al sp tg)→Grow h h'→K ⟨h.size,0,none⟩ h'):new 28 (pvs 0 ⟨none,0,0⟩ 0) h fun p h1=>stoA h1 p (pvs al sp tg).toList fun h2=>K p h2:=
 newPt (al:=0) (sp:=⟨none,0,0⟩) (tg:=0) fun h1 b1 f1 z1=>stoPt b1 rfl fun h2 b2 f2=>k h2 b2 (f1.trans' f2 fun i hi e=>by omega)
theorem num_spec (n:Int):CallsH Try.prog 11 #[.int .u64 n] h (fun v h'=>Grow h h'∧v=.agg (vvs ⟨2,n,⟨#[]⟩,⟨none,0,0⟩,0,⟨none,0,0⟩,0⟩)):=by
 apply F11
 unfold L11
 exact mineV (v:=⟨2,n,⟨#[]⟩,⟨none,0,0⟩,0,⟨none,0,0⟩,0⟩) fun h2 b2 f2=>rd7 (Vv7.blk b2) ⟨f2,rfl⟩
theorem num_at (o:Bool) (Q:Nat→Prop) (A:List Nat→Nat→Prop) (n:Int):VAt o Q h (.mk 2 n ⟨#[]⟩ [] 0 [] 0) A ⟨2,n,⟨#[]⟩,⟨none,0,0⟩,0,⟨none,0,0⟩,0⟩:=
 vAt_iff.2 ⟨rfl,rfl,rfl,rfl,rfl,IntsC.nil _ _,rfl,fun j hj=>absurd hj (Nat.not_lt_zero _)⟩
theorem new_ses (most:Int) (w:Bool):CallsH Try.prog 8 #[.int .i64 most,.bool w] h (fun x h'=>∃lab,x=ptr h.size∧Ses h lab h' h.size ⟨[],0,0,most,w⟩):=by
 refine CallsH.mono (new_spec (h:=h) most w) ?_
 rintro v h1 ⟨g,rfl,x⟩
 refine⟨_,rfl,_,_,x,g,fun b hb=>?_⟩
 show (if b=h.size then Lb.hp else .no)=.no
 rw[if_neg (by omega)]
theorem alloc_ses (x:Ses h0 lab h hp S) (hS:Few S) {t:Vl} {v:Vv} (hv:VAt false (fun b=>¬Mut (lab b)) h t (anyA fun b=>¬Mut (lab b)) v) (hf:few t) :
  CallsH Try.prog 10 #[ptr hp,.agg (vvs v)] h (fun r h'=>∃lab',Stp lab h lab' h' ∧
   if S.live≥S.most then Ses h0 lab' h' hp S∧r=.tuple #[.agg (pvs 0 ⟨none,0,0⟩ 0),.bool false]
   else Ses h0 lab' h' hp (allocS S t)∧r=.tuple #[.agg (pvs S.l.length ⟨none,0,0⟩ (S.tags+1)),.bool true]):=by
 obtain⟨f1,f2,f3,f4,f5,f6⟩:=hS
 have x0:=x
 obtain⟨s,bs,x,-⟩:=x
 refine CallsH.mono (alloc_spec x hv hf f1 f2 f3 f4 f5) ?_
 rintro r h' ⟨lab',s',bs',F,L,hm⟩
 refine⟨lab',⟨F,fun b hb _=>L b hb⟩,?_⟩
 split at hm
 ·rename_i hc
  rw[if_pos hc]
  exact⟨ses_of x0 F (fun b hb e=>by rw[L b hb];exact e) hm.1,hm.2⟩
 ·rename_i hc
  rw[if_neg hc]
  exact⟨ses_of x0 F (fun b hb e=>by rw[L b hb];exact e) hm.1,hm.2⟩
theorem borrow_ses (x:Ses h0 lab h hp S) (hS:Few S) {al tg:Int} {sp:Sv} {pa:List Int} (hpt:IntsC (fun b=>¬Mut (lab b)) h sp pa) (hpl:pa.length≤1000000) (uq:Bool) :
  CallsH Try.prog 12 #[ptr hp,.agg (pvs al sp tg),.bool uq] h (fun v h'=>∃lab',Stp lab h lab' h'∧Ses h0 lab' h' hp (borrowS S al pa tg uq).1∧match (borrowS S al pa tg uq).2 with
   | .error f=>v=.tuple #[.agg (pvs 0 ⟨none,0,0⟩ 0),.int .i64 f]
   | .ok tg'=>∃so,v=.tuple #[.agg (pvs al so tg'),.int .i64 0]∧IntsC (Till lab' h.size) h' so pa):=by
 obtain⟨f1,f2,f3,f4,f5,f6⟩:=hS
 have x0:=x
 obtain⟨s,bs,x,-⟩:=x
 refine CallsH.mono (borrow_spec x hpt hpl f6 f2 f3 uq) ?_
 rintro r h' ⟨lab',F,L,x',hm⟩
 exact⟨lab',⟨F,fun b hb _=>L b hb⟩,ses_of x0 F (fun b hb e=>by rw[L b hb];exact e) x',hm⟩
theorem read_ses (x:Ses h0 lab h hp S) (hS:Few S) {al tg:Int} {sp:Sv} {pa:List Int} (hpt:IntsC (fun b=>¬Mut (lab b)) h sp pa) (hpl:pa.length≤1000000) :
  CallsH Try.prog 15 #[ptr hp,.agg (pvs al sp tg)] h (fun v h'=>Stp lab h lab h'∧Ses h0 lab h' hp (useGet S al pa tg false).1∧match (useGet S al pa tg false).2 with
   | .error f=>v=.tuple #[.agg (vvs zVv),.int .i64 f]
   | .ok y=>∃u,v=.tuple #[.agg (vvs u),.int .i64 0]∧Told lab h.size h' y u):=by
 obtain⟨f1,f2,f3,f4,f5,f6⟩:=hS
 have x0:=x
 obtain⟨s,bs,x,-⟩:=x
 refine CallsH.mono (read_spec x hpt hpl f6) ?_
 rintro r h' ⟨F,x',hm⟩
 exact⟨⟨F,fun b hb _=>rfl⟩,ses_of x0 F (fun b hb e=>e) x',hm⟩
theorem live_ses (x:Ses h0 lab h hp S):CallsH Try.prog 13 #[ptr hp] h (fun v h'=>h=h'∧v=.int .i64 S.live):=by
 obtain⟨s,bs,x,-⟩:=x
 exact live_spec x
theorem till_nomut {n b:Nat} (h:Till lab n b):¬Mut (lab b):=by
 rcases h with h|h
 ·rw[h];exact fun h=>h.2 rfl
 ·exact nomut h.2
end
end Go.Proofs.Ytggacajnmgligaa
namespace Go.Proofs.Ytggacajnmgligaa
open Go Go.Lf
set_option linter.unusedVariables false
abbrev tN (n:Int):Vl:=.mk 2 n ⟨#[]⟩ [] 0 [] 0
theorem few_tN (n:Int):few (tN n):=few_mk.2 ⟨by simp,by simp,fun a ha=>by cases ha⟩
abbrev G1:Hs:=⟨[⟨true,tN 7,[⟨1,[],true⟩]⟩],1,1,4,true⟩
abbrev G2:Hs:=⟨[⟨true,tN 7,[⟨1,[],true⟩,⟨2,[],true⟩]⟩],2,1,4,true⟩
theorem g_alloc:allocS ⟨[],0,0,4,true⟩ (tN 7)=G1:=rfl
theorem wh7:wholeV (tN 7)=true:=by rw[whole_mk];rfl
theorem g_borrow:borrowS G1 0 [] 1 true=(G2,.ok 2):=by
 have:useGet G1 0 [] 1 true=(G1,.ok (tN 7)):=by
  have:useS G1 0 [] 1 true=.ok G1:=rfl
  unfold useGet
  rw[this]
  show (G1,getW G1 0 [])=_
  have:getW G1 0 []=if wholeV (tN 7)=true then .ok (tN 7) else .error 3:=rfl
  rw[this,if_pos wh7]
 unfold borrowS
 rw[this]
 rfl
theorem g_read (tg:Int) (S S':Hs) (h:useS S 0 [] tg false=.ok S') (h2:getW S' 0 []=if wholeV (tN 7)=true then .ok (tN 7) else .error 3):useGet S 0 [] tg false=(S',.ok (tN 7)):=by
 unfold useGet
 rw[h]
 show (S',getW S' 0 [])=_
 rw[h2,if_pos wh7]
theorem g_read1:useGet G2 0 [] 2 false=(G2,.ok (tN 7)):=g_read 2 G2 G2 rfl rfl
abbrev G3:Hs:=⟨[⟨true,tN 7,[⟨1,[],true⟩]⟩],2,1,4,true⟩
theorem g_read2:useGet G2 0 [] 1 false=(G3,.ok (tN 7)):=g_read 1 G2 G3 rfl rfl
theorem g_read3:useGet G3 0 [] 2 false=(G3,.error 2):=rfl
theorem few_G1:Few G1:=⟨by decide,by decide,by decide,by decide,by decide,by simp⟩
theorem few_G2:Few G2:=⟨by decide,by decide,by decide,by decide,by decide,by simp⟩
theorem few_G3:Few G3:=⟨by decide,by decide,by decide,by decide,by decide,by simp⟩
theorem few_new (most:Int) (w:Bool):Few ⟨[],0,0,most,w⟩:=⟨by simp,by simp,by simp,by simp,by simp,fun a ha=>by cases ha⟩
theorem Told.n {lab:Nat→Lb} {lo:Nat} {h:Heap} {n:Int} {u:Vv} (x:Told lab lo h (tN n) u):u.n=n:=(vAt_iff.1 x).2.1
theorem watched_spec (h:Heap):CallsH Try.prog 9 #[] h (fun v h'=>Grow h h'∧v=.bool true):=by
 apply F9
 unfold L9
 refine cal_of (new_ses 4 true) ?_
 rintro _ h1 ⟨lab,rfl,x1⟩
 refine⟨_,rfl,?_⟩
 generalize h.size=hp at *
 refine cal_of (num_spec 7) ?_
 rintro _ h2 ⟨g2,rfl⟩
 refine⟨_,_,_,⟨none,0,0⟩,_,⟨none,0,0⟩,_,rfl,?_⟩
 refine cal_of (alloc_ses (x1.grow g2) (few_new 4 true) (num_at _ _ _ 7) (few_tN 7)) ?_
 rintro _ h3 ⟨lab3,t3,hm⟩
 rw[if_neg (by decide)] at hm
 obtain⟨x3,rfl⟩:=hm
 rw[g_alloc] at x3
 refine⟨_,rfl,_,rfl,_,⟨none,0,0⟩,_,rfl,_,rfl,_,rfl,?_⟩
 refine minePt (al:=0) (sp:=⟨none,0,0⟩) (tg:=1) fun h5 k5 g5=>⟨fun e=>(by cases e),fun _=>?_⟩
 have P5:PtAt lab3 h5 h3.size 0 ⟨none,0,0⟩ 1 []:=⟨k5,x3.no (Nat.le_refl _),IntsC.nil _ _,by simp⟩
 have x5:=x3.grow g5
 generalize h3.size=p2 at *
 refine rdPt k5 ?_
 refine cal_of (borrow_ses x5 few_G1 P5.2.2.1 P5.2.2.2 true) ?_
 rintro _ h6 ⟨lab6,t6,x6,hm⟩
 rw[g_borrow] at x6 hm
 obtain⟨so,rfl,io⟩:=hm
 refine⟨_,rfl,_,rfl,_,so,_,rfl,_,rfl,_,rfl,?_⟩
 have P6:=P5.op t6
 refine minePt (al:=0) (sp:=so) (tg:=2) fun h8 k8 g8=>?_
 have Q8:PtAt lab6 h8 h6.size 0 so 2 []:=⟨k8,x6.no (Nat.le_refl _),(io.weak fun b hb _=>till_nomut hb).fr g8 fun _ _ h=>h,by simp⟩
 have P8:=P6.grow g8
 have x8:=x6.grow g8
 generalize h6.size=p4 at *
 refine rdPt k8 ?_
 refine cal_of (read_ses x8 few_G2 Q8.2.2.1 Q8.2.2.2) ?_
 rintro _ h9 ⟨t9,x9,hm⟩
 rw[g_read1] at x9 hm
 obtain⟨u,rfl,hu⟩:=hm
 have hun:=hu.n
 refine⟨_,rfl,_,rfl,_,_,_,u.ps,_,u.pa,_,rfl,_,rfl,_,rfl,?_⟩
 refine mineV (v:=u) fun h11 k11 g11=>?_
 have P11:=(P8.op t9).grow g11
 have Q11:=(Q8.op t9).grow g11
 have x11:=x9.grow g11
 have l6:lab6 h9.size=.no:=x9.no (Nat.le_refl _)
 generalize h9.size=p6 at *
 refine rdPt P11.1 ?_
 refine cal_of (read_ses x11 few_G2 P11.2.2.1 P11.2.2.2) ?_
 rintro _ h12 ⟨t12,x12,hm⟩
 rw[g_read2] at x12 hm
 obtain⟨u2,rfl,hu2⟩:=hm
 refine⟨_,rfl,_,rfl,_,_,_,u2.ps,_,u2.pa,_,rfl,_,rfl,_,rfl,?_⟩
 refine mineV (v:=u2) fun h14 k14 g14=>?_
 have k6:=g14.blk (t12.1.blk k11 (nomut l6)) fun h=>h
 have Q14:=(Q11.op t12).grow g14
 have x14:=x12.grow g14
 refine rdPt Q14.1 ?_
 refine cal_of (read_ses x14 few_G3 Q14.2.2.1 Q14.2.2.2) ?_
 rintro _ h15 ⟨t15,x15,hm⟩
 rw[g_read3] at x15 hm
 dsimp only at hm
 subst hm
 refine⟨_,rfl,_,rfl,_,_,_,⟨none,0,0⟩,_,⟨none,0,0⟩,_,rfl,_,rfl,_,rfl,?_⟩
 refine mineV (v:=zVv) fun h17 k17 g17=>?_
 have k6':=g17.blk (t15.1.blk k6 (nomut l6)) fun h=>h
 have x17:=x15.grow g17
 refine⟨fun b=>b=true,⟨fun _=>ldI_i (x:=u.n) (by rw[add_plain,k6'.cl];rfl) (by rw[hun];rfl),fun e=>(by simp at e)⟩,?_⟩
 rintro _ rfl
 refine⟨fun b h'=>b=true∧Grow h h',⟨fun _=>cal_of (live_ses x17) ?_,fun e=>(by simp at e)⟩,fun _ h18 ⟨e,g⟩=>⟨g,by rw[e]⟩⟩
 rintro _ _ ⟨rfl,rfl⟩
 obtain⟨_,_,_,g,_⟩:=x17
 exact⟨_,rfl,rfl,g⟩
end Go.Proofs.Ytggacajnmgligaa
namespace Go.Proofs.Ytggacajnmgligaa
open Go Go.Lf
set_option linter.unusedVariables false
noncomputable def dropF (F:Hs→Int→Hs×Int):Vl→Hs→Hs×Int:=Vl.rec (motive_1:=fun _=>Hs→Hs×Int) (motive_2:=fun _=>Hs→Hs×Int)
 (fun k _ _ _ al _ _ ih S=>if k=6 then F S al else if k≠5 then (S,0) else ih S) (fun S=>(S,0)) (fun _ _ a b S=>if (a S).2≠0 then a S else b (a S).1)
noncomputable def dropL (F:Hs→Int→Hs×Int):List Vl→Hs→Hs×Int
 | [],S=>(S,0)
 | t :: ts,S=>if (dropF F t S).2≠0 then dropF F t S else dropL F ts (dropF F t S).1
theorem drop_mk {F:Hs→Int→Hs×Int} {k n:Int} {nm:ByteArray} {ts:List Vl} {al:Int} {pa:List Int} {tg:Int} {S:Hs}:dropF F (.mk k n nm ts al pa tg) S=if k=6 then F S al else if k≠5 then (S,0) else dropL F ts S:=by
 have e:∀(ts:List Vl) (S:Hs),(Vl.rec_1 (motive_1:=fun _=>Hs→Hs×Int) (motive_2:=fun _=>Hs→Hs×Int)
   (fun k _ _ _ al _ _ ih S=>if k=6 then F S al else if k≠5 then (S,0) else ih S) (fun S=>(S,0)) (fun _ _ a b S=>if (a S).2≠0 then a S else b (a S).1) ts:Hs→Hs×Int) S=dropL F ts S:=by
  intro ts
  induction ts with
  | nil=>intro S;rfl
  | cons a ts ih=>
   intro S
   rw[dropL,←ih]
   rfl
 rw[←e]
 rfl
noncomputable def freeS:Nat→Hs→Int→Hs×Int
 | 0,S,_=>(S,1)
 | n+1,S,i=>match atS S i with
  | none=>(S,1)
  | some a=>dropF (freeS n) a.v { S with live:=S.live - 1,l:=S.l.set i.toNat ⟨false,zVl,[]⟩ }
def liveN (S:Hs):Nat:=S.l.countP (fun a=>a.live)
def OkL (S:Hs):Prop:=(liveN S:Int)≤S.live+1000000∧S.live≤1000000
section
variable {lab lab' lab2:Nat→Lb} {h0 h h' h2:Heap} {T:Nat→Prop} {hp:Nat} {S:Hs} {s:Sv} {bs:List Nat}
theorem Stp.refl (lab:Nat→Lb) (h:Heap):Stp lab h lab h:=⟨Fr.refl _ _,fun _ _ _=>rfl⟩
theorem Stp.ofGrow (g:Grow h h'):Stp lab h lab h':=⟨toM g,fun _ _ _=>rfl⟩
theorem Stp.trans (t:Stp lab h lab' h') (t2:Stp lab' h' lab2 h2):Stp lab h lab2 h2:=by
 refine⟨t.1.trans' t2.1 fun i hi e=>Classical.byContradiction fun hn=>?_,fun b hb hn=>?_⟩
 ·rw[t.2 i hi hn] at e;exact hn e
 ·have:=t.2 b hb hn
  rw[t2.2 b (Nat.lt_of_lt_of_le hb t.1.size) (by rw[this];exact hn),this]
def Calm (lab:Nat→Lb) (h:Heap) (t:Vl) (u:Vv):Prop:=VAt false (fun b=>¬Mut (lab b)) h t (anyA fun b=>¬Mut (lab b)) u
theorem Calm.op {t:Vl} {u:Vv} (x:Calm lab h t u) (st:Stp lab h lab' h'):Calm lab' h' t u:=by
 have x':VAt false (fun b=>¬Mut (lab b)∧b<h.size) h t (anyA fun b=>¬Mut (lab b)∧b<h.size) u:=x.weak (fun b hb hs=>⟨hb,hs⟩) (fun h=>h) fun σ b hb hs=>⟨hb,hs⟩
 refine (x'.fr st.1 (fun b hb h=>hb.1 h) fun σ b hb h=>hb.1 h).weak (fun b hb _=>?_) (fun h=>h) fun σ b hb _=>?_
 ·rw[st.2 b hb.2 hb.1];exact hb.1
 ·show ¬Mut (lab' b)
  rw[st.2 b hb.2 hb.1];exact hb.1
theorem Calm.grow {t:Vl} {u:Vv} (x:Calm lab h t u) (g:Grow h h'):Calm lab h' t u:=VAt.grow x g
theorem HpAt.set2 (x:HpAt lab h hp S s bs) {i:Nat} {a':Al} {tags live:Int} (f:Fr T h h') (hT:∀b,T b→b<h.size→b=hp∨Fam i (lab b)∨lab b=.no) (hl:∀b,b<h.size→¬Fam i (lab b)→lab' b=lab b)
  (k:blk h' hp (hps s tags live S.most S.watch)) (hi:i<bs.length) (nb:BxAt lab' h' i bs[i] a') (hn:∀b,h'.size≤b→lab' b=.no):HpAt lab' h' hp { S with tags:=tags,live:=live,l:=S.l.set i a' } s bs:=by
 have hnT:∀b,b<h.size→lab b≠.hp→¬Fam i (lab b)→lab b≠.no→¬T b:=fun b hb h0 h1 h2 ht=>(hT b ht hb).elim (fun e=>h0 (by rw[e];exact x.lhp)) fun h=>h.elim h1 h2
 have n1:¬Fam i (lab hp):=by rw[x.lhp];rintro (h|h|⟨σ,h⟩)<;>cases h
 have n2:∀b,s.own b→¬Fam i (lab b):=fun b hb=>by rw[x.lal b hb];rintro (h|h|⟨σ,h⟩)<;>cases h
 refine⟨k,by rw[hl _ x.hd.lt n1];exact x.lhp,by simpa using x.len,x.al.frame f fun b hb=>hnT b (x.al.ge hb).2 (by rw[x.lal b hb];exact Lb.noConfusion) (n2 b hb) (by rw[x.lal b hb];exact Lb.noConfusion),
  fun b hb=>by rw[hl b (x.al.ge hb).2 (n2 b hb)];exact x.lal b hb,fun j h1 h2=>?_,hn⟩
 by_cases hj:i=j
 ·subst hj
  simp only[List.getElem_set_self]
  exact nb
 ·simp only[List.getElem_set_ne hj]
  have h2':j<S.l.length:=by simpa using h2
  have hfam:∀c,Fam j (lab c)∨lab c=.q→lab c≠.hp∧¬Fam i (lab c)∧lab c≠.no:=by
   intro c hc
   rcases hc with (hc|hc|⟨σ,hc⟩)|hc<;>rw[hc]<;>refine⟨Lb.noConfusion,?_,Lb.noConfusion⟩<;>rintro (h|h|⟨σ',h⟩)<;>cases h<;>exact hj rfl
  have hb:=x.bx j h1 h2'
  have hsz:∀c,Fam j (lab c)∨lab c=.q→c<h.size:=fun c hc=>by
   rcases Nat.lt_or_ge c h.size with h|h
   ·exact h
   ·have:=x.out c h
    rw[this] at hc
    rcases hc with (hc|hc|⟨σ,hc⟩)|hc<;>cases hc
  exact hb.to f (fun c hc=>hnT c (hsz c hc) (hfam c hc).1 (hfam c hc).2.1 (hfam c hc).2.2) fun c h1 hc=>hl c h1 (hfam c hc).2.1
theorem fold9 (x1 x2 x3 x4 x5 x6 x7 y0 y1 y2 y3 y4 y5 y6 y7 y8:Value):([x1,x2,x3,x4,x5,x6,x7].zipIdx 1).foldl (fun (c:Array Value) p=>c.setIfInBounds p.2 p.1) #[y0,y1,y2,y3,y4,y5,y6,y7,y8]=#[y0,x1,x2,x3,x4,x5,x6,x7,y8]:=by
 simp[List.zipIdx,Array.setIfInBounds]
theorem stoBx {b:Nat} {l:Bool} {v v':Vv} {u:Sv} {K:Heap→Prop} (kk:blk h b (bxs l v u)) (k:∀h',blk h' b (bxs l v' u)→Fr (fun i=>i=b) h h'→K h'):stoA h ⟨b,1,none⟩ (vvs v').toList K:=by
 refine⟨one_vv v',fun j hj=>?_,?_⟩
 ·clear k
  rw[add_plain,kk.cl,kk.fz]
  have hj':j<7:=hj
  have:1+j<(bxs l v u).size:=by show 1+j<9;omega
  rw[Array.getElem?_eq_getElem this]
  exact⟨rfl,rfl⟩
 ·intro h' hh
  have hs:=scs_blk b (vvs v').toList h (bxs l v u) 1 0 kk
  have e:=fold9 (.int .i64 v'.k) (.int .u64 v'.n) (.string v'.nm) (.slice v'.ps.a v'.ps.n v'.ps.c) (.int .i64 v'.al) (.slice v'.pa.a v'.pa.n v'.pa.c) (.int .i64 v'.tg) (.bool l) (.int .i64 v.k) (.int .u64 v.n) (.string v.nm) (.slice v.ps.a v.ps.n v.ps.c) (.int .i64 v.al) (.slice v.pa.a v.pa.n v.pa.c) (.int .i64 v.tg) (.slice u.a u.n u.c)
  have e':((vvs v').toList.zipIdx 1).foldl (fun (c:Array Value) p=>c.setIfInBounds p.2 p.1) (bxs l v u)=bxs l v' u:=e
  rw[Nat.add_zero,e',←hh] at hs
  exact k h' hs.1 hs.2
def FreeOk (n:Nat):Prop:=∀h0 lab h hp S i,Ses h0 lab h hp S→liveN S≤n→OkL S→CallsH Try.prog 14 #[ptr hp,.int .i64 i] h (fun v h'=>∃lab',Stp lab h lab' h'∧Ses h0 lab' h' hp (freeS n S i).1∧v=.int .i64 (freeS n S i).2∧liveN (freeS n S i).1≤liveN S∧OkL (freeS n S i).1)
theorem drop_spec {n:Nat} (hF:FreeOk n) (t:Vl):∀(h0:Heap) (lab:Nat→Lb) (h:Heap) (hp:Nat) (S:Hs) (u:Vv),Ses h0 lab h hp S→liveN S≤n→OkL S→few t→Calm lab h t u →
  CallsH Try.prog 25 #[ptr hp,.agg (vvs u)] h (fun v h'=>∃lab',Stp lab h lab' h'∧Ses h0 lab' h' hp (dropF (freeS n) t S).1∧v=.int .i64 (dropF (freeS n) t S).2∧liveN (dropF (freeS n) t S).1≤liveN S∧OkL (dropF (freeS n) t S).1):=by
 refine Vl.ind (P:=fun t=>∀(h0:Heap) (lab:Nat→Lb) (h:Heap) (hp:Nat) (S:Hs) (u:Vv),Ses h0 lab h hp S→liveN S≤n→OkL S→few t→Calm lab h t u →
  CallsH Try.prog 25 #[ptr hp,.agg (vvs u)] h (fun v h'=>∃lab',Stp lab h lab' h'∧Ses h0 lab' h' hp (dropF (freeS n) t S).1∧v=.int .i64 (dropF (freeS n) t S).2∧liveN (dropF (freeS n) t S).1≤liveN S∧OkL (dropF (freeS n) t S).1)) ?_ t
 intro k nn nm ts al pa tg ih h0 lab h hp S u x hn hO hfew hu
 obtain⟨hf1,hf2,hf3⟩:=few_mk.1 hfew
 obtain⟨e1,e2,e3,e4,e5,e6,e7,e8⟩:=vAt_iff.1 hu
 rw[drop_mk]
 apply F25
 unfold L25
 refine newV (v:=u) fun h1 k1 f1 z1=>?_
 have x1:=x.grow f1
 have st1:Stp lab h lab h1:=Stp.ofGrow f1
 refine ldI_i (x:=u.k) (by rw[k1.cl];rfl) ?_
 rw[e1]
 refine ifb_iff (q:=k=6) (by simp) (fun hk=>?_) (fun hk=>?_)
 ·rw[if_pos hk]
  refine ldI_i (x:=al) (by rw[add_plain,k1.cl,←e4];rfl) ?_
  refine cal_of (hF h0 lab h1 hp S al x1 hn hO) ?_
  rintro _ h2 ⟨lab',st,x',rfl,hl,hO'⟩
  exact⟨_,rfl,lab',st1.trans st,x',rfl,hl,hO'⟩
 rw[if_neg hk]
 refine ldI_i (x:=u.k) (by rw[k1.cl];rfl) ?_
 rw[e1]
 refine ifb_iff (q:=k≠5) (by simp) (fun hk5=>?_) (fun hk5=>?_)
 ·rw[if_pos hk5]
  exact⟨lab,st1,x1,rfl,Nat.le_refl _,hO⟩
 rw[if_neg hk5]
 refine ldS_i (s:=u.ps) (by rw[add_plain,k1.cl];rfl) ?_
 refine⟨fun i h'=>∃(j:Nat) (lab':Nat→Lb) (Sj:Hs),i=j∧j≤ts.length∧Stp lab h lab' h'∧Ses h0 lab' h' hp Sj∧dropL (freeS n) ts S=dropL (freeS n) (ts.drop j) Sj∧liveN Sj≤liveN S∧OkL Sj,fun i _=>ts.length - i.toNat,⟨0,lab,S,rfl,Nat.zero_le _,st1,x1,rfl,Nat.le_refl _,hO⟩,?_⟩
 rintro _ h3 ⟨j,lab3,Sj,rfl,hj,st3,x3,hd,hl3,hO3⟩
 refine ifb_iff (q:=j<ts.length) (by rw[e7];simp) (fun hlt=>?_) (fun hge=>?_)
 rotate_left
 ·obtain rfl:j=ts.length:=by omega
  rw[List.drop_length] at hd
  rw[hd]
  exact⟨lab3,st3,x3,rfl,hl3,hO3⟩
 have hu3:=Calm.op hu st3
 obtain⟨-,-,-,-,-,-,-,e8'⟩:=vAt_iff.1 hu3
 obtain⟨p,w,q1,q2,q3,q4,q5⟩:=e8' j hlt
 refine⟨p,q1,by omega,by rw[e7];omega,?_⟩
 rw[Int.toNat_natCast]
 refine rd7 q4 ?_
 refine mineV (v:=w) fun h5 k5 g5=>?_
 refine rd7 (Vv7.blk k5) ?_
 have q5':Calm lab3 h5 ts[j] w:=VAt.grow q5 g5
 refine cal_of (ih ts[j] (List.getElem_mem hlt) h0 lab3 h5 hp Sj w (x3.grow g5) (by omega) hO3 (hf3 _ (List.getElem_mem hlt)) q5') ?_
 rintro _ h6 ⟨lab6,st6,x6,rfl,hl6,hO6⟩
 have st:Stp lab h lab6 h6:=(st3.trans (Stp.ofGrow g5)).trans st6
 rw[List.drop_eq_getElem_cons hlt,dropL] at hd
 refine⟨_,rfl,fun e=>?_,fun e=>?_⟩
 ·have e':(dropF (freeS n) ts[j] Sj).2≠0:=by simpa using e
  rw[if_pos e'] at hd
  rw[hd]
  exact⟨lab6,st,x6,rfl,by omega,hO6⟩
 ·have e':¬(dropF (freeS n) ts[j] Sj).2≠0:=by simpa using e
  rw[if_neg e'] at hd
  rw[wrap_succ hlt (by omega)]
  exact⟨⟨j+1,lab6,_,rfl,hlt,st,x6,hd,by omega,hO6⟩,by dsimp only;omega⟩
end
end Go.Proofs.Ytggacajnmgligaa
namespace Go.Proofs.Ytggacajnmgligaa
open Go Go.Lf
set_option linter.unusedVariables false
theorem liveN_set {S:Hs} {j:Nat} (h:j<S.l.length) (hl:S.l[j].live=true) (x y:Int):liveN { S with live:=x,l:=S.l.set j ⟨false,zVl,[]⟩ }+1=liveN S:=by
 unfold liveN
 have hpos:0<S.l.countP (fun a=>a.live):=List.countP_pos_iff.2 ⟨_,List.getElem_mem h,hl⟩
 dsimp only
 rw[List.countP_set h]
 simp only[hl,if_true,Bool.false_eq_true,if_false]
 omega
section
variable {lab:Nat→Lb} {h0 h:Heap} {hp:Nat} {S:Hs}
def deadLab (lab:Nat→Lb) (j:Nat):Nat→Lb:=fun b=>match lab b with
 | .pt i σ=>if i=j then .q else .pt i σ
 | l=>l
theorem dead_pt {j b:Nat} {σ:List Nat} (h:lab b=.pt j σ):deadLab lab j b=.q:=by
 unfold deadLab
 rw[h]
 exact if_pos rfl
theorem dead_not {j b:Nat} (h:∀σ,lab b≠.pt j σ):deadLab lab j b=lab b:=by
 unfold deadLab
 split
 ·rename_i i σ e
  rw[if_neg (fun hij=>h σ (by rw[e,hij])),e]
 ·rfl
theorem free_ok (n:Nat):FreeOk n:=by
 induction n with
 | zero=>
  intro h0 lab h hp S i x hn hO
  have x0:=x
  obtain⟨s,bs,xx,-⟩:=x
  apply F14
  unfold L14
  refine cal_of (at_spec xx i) ?_
  rintro _ _ ⟨rfl,⟨hno,rfl⟩|⟨j,hj,hj2,rfl,hl,rfl⟩⟩
  ·exact⟨_,rfl,fun _=>⟨lab,Stp.refl _ _,x0,rfl,Nat.le_refl _,hO⟩,fun e=>(by cases e)⟩
  ·have:0<liveN S:=List.countP_pos_iff.2 ⟨_,List.getElem_mem hj2,hl⟩
   omega
 | succ n ih=>
  intro h0 lab h hp S i x hn hO
  have x0:=x
  obtain⟨s,bs,xx,g0,l0⟩:=x
  apply F14
  unfold L14
  refine cal_of (at_spec xx i) ?_
  rintro _ _ ⟨rfl,⟨hno,rfl⟩|⟨j,hj,hj2,rfl,hl,rfl⟩⟩
  ·refine⟨_,rfl,fun _=>?_,fun e=>(by cases e)⟩
   have e:freeS (n+1) S i=(S,1):=by rw[freeS,atS_not hno]
   rw[e]
   exact⟨lab,Stp.refl _ _,x0,rfl,Nat.le_refl _,hO⟩
  have e:freeS (n+1) S j=dropF (freeS n) S.l[j].v { S with live:=S.live - 1,l:=S.l.set j ⟨false,zVl,[]⟩ }:=by rw[freeS,atS_of hj2 hl,Int.toNat_natCast]
  rw[e]
  obtain⟨lb,hfew,v,u,kb,hva,hst⟩:=xx.bx j hj hj2
  have hlN:=liveN_set hj2 hl (S.live - 1) 0
  have hOl:=hO.1
  have hOh:=hO.2
  have hbh:bs[j]≠hp:=fun e=>by have:=xx.lhp;rw[←e,lb] at this;cases this
  refine⟨_,rfl,fun e=>(by cases e),fun _=>⟨_,rfl,?_⟩⟩
  refine sto_i kb (by simp) ?_
  have kb2:blk (sc h ⟨bs[j],0,none⟩ (.bool false)) bs[j] (bxs false v u):=kb.sc 0 _
  have f2:Fr (fun b=>b=bs[j]) h (sc h ⟨bs[j],0,none⟩ (.bool false)):=Fr.scb _ _ _ _
  generalize sc h ⟨bs[j],0,none⟩ (.bool false)=h2 at *
  have hd2:=f2.blk xx.hd (fun e=>hbh e.symm)
  refine⟨_,rfl,ldI_i (x:=S.live) (by rw[add_plain,hd2.cl];rfl) ⟨_,rfl,?_⟩⟩
  dsimp only
  rw[add_plain,wrap64_id (by omega) (by omega)]
  refine sto_i hd2 (by simp) ?_
  have hd3:blk (sc h2 ⟨hp,0+2,none⟩ (.int .i64 (S.live - 1))) hp (hps s S.tags (S.live - 1) S.most S.watch):=hd2.sc 2 _
  have f3:Fr (fun b=>b=hp) h2 (sc h2 ⟨hp,0+2,none⟩ (.int .i64 (S.live - 1))):=Fr.scb _ _ _ _
  generalize sc h2 ⟨hp,0+2,none⟩ (.int .i64 (S.live - 1))=h3 at *
  have kb3:=f3.blk kb2 hbh
  refine⟨_,rfl,rd7 (p:=(⟨bs[j],0,none⟩:Addr).add 1) (by rw[add_plain];exact bx7 kb3) ?_⟩
  refine mineV (v:=v) fun h5 k5 g5=>⟨_,rfl,?_⟩
  have s2:=f2.size
  have s3:=f3.size
  have s5:=g5.size
  refine stoBx (v':=zVv) (g5.blk kb3 fun h=>h) fun h6 kb6 f6=>⟨_,rfl,?_⟩
  dsimp only
  rw[add_plain]
  refine sto_i kb6 (by simp) ?_
  have kb7:blk (sc h6 ⟨bs[j],0+8,none⟩ (.slice none 0 0)) bs[j] (bxs false zVv ⟨none,0,0⟩):=kb6.sc 8 _
  have f7:Fr (fun b=>b=bs[j]) h6 (sc h6 ⟨bs[j],0+8,none⟩ (.slice none 0 0)):=Fr.scb _ _ _ _
  generalize sc h6 ⟨bs[j],0+8,none⟩ (.slice none 0 0)=h7 at *
  have bb:=kb.lt
  have hne:¬h3.size=bs[j]:=by omega
  have k7:=f7.blk (f6.blk k5 hne) hne
  refine rd7 (Vv7.blk k7) ?_
  have F7:Fr (fun b=>b=bs[j]∨b=hp) h h7:=((((f2.mono fun _ _ h=>.inl h).trans' f3 fun _ _ h=>.inr h).trans' g5 fun _ _ h=>h.elim).trans' f6 fun _ _ h=>.inl h).trans' f7 fun _ _ h=>.inl h
  have hd7:=f7.blk (f6.blk (g5.blk hd3 fun h=>h) fun e=>hbh e.symm) fun e=>hbh e.symm
  have hTm:∀b,(b=bs[j]∨b=hp)→Mut (lab b):=by
   rintro b (rfl|rfl)
   ·rw[lb];exact⟨Lb.noConfusion,Lb.noConfusion⟩
   ·rw[xx.lhp];exact⟨Lb.noConfusion,Lb.noConfusion⟩
  have x7:HpAt (deadLab lab j) h7 hp { S with tags:=S.tags,live:=S.live - 1,l:=S.l.set j ⟨false,zVl,[]⟩ } s bs:=by
   refine xx.set2 (a':=⟨false,zVl,[]⟩) F7 (fun b hb _=>?_) (fun b _ hb=>dead_not fun σ e=>hb (.inr (.inr ⟨σ,e⟩))) hd7 hj ⟨?_,?_,zVv,⟨none,0,0⟩,kb7,?_,[],rfl,Own.nil _ _ _,fun b ⟨a,ea,_⟩=>(by cases ea),fun z hz=>(by cases hz)⟩ fun b hb=>?_
   ·rcases hb with rfl|rfl
    ·exact .inr (.inl (.inl lb))
    ·exact .inl rfl
   ·rw[dead_not fun σ e=>(by rw[lb] at e;cases e)];exact lb
   ·exact few_mk.2 ⟨by simp,by simp,fun a ha=>by cases ha⟩
   ·exact vAt_iff.2 ⟨rfl,rfl,rfl,rfl,rfl,IntsC.nil _ _,rfl,fun j hj=>absurd hj (Nat.not_lt_zero _)⟩
   ·have:=xx.out b (by have:=F7.size;omega)
    rw[dead_not fun σ e=>(by rw[this] at e;cases e)];exact this
  have st7:Stp lab h (deadLab lab j) h7:=⟨F7.mono fun b _ hb=>hTm b hb,fun b _ hb=>dead_not fun σ e=>hb (by rw[e];exact⟨Lb.noConfusion,Lb.noConfusion⟩)⟩
  have xs:Ses h0 (deadLab lab j) h7 hp { S with live:=S.live - 1,l:=S.l.set j ⟨false,zVl,[]⟩ }:=ses_of x0 st7.1 (fun b _ e=>by rw[dead_not fun σ e'=>(by rw[e] at e';cases e')];exact e) x7
  have hcalm:Calm (deadLab lab j) h7 S.l[j].v v:=by
   refine (hva.fr F7 (fun b hb e=>(hTm b e).2 hb) fun σ b hb e=>?_).weak (fun b hb _=>?_) (fun h=>(by cases h)) fun σ b hb _=>?_
   ·rcases e with rfl|rfl
    ·rw[lb] at hb;cases hb
    ·rw[xx.lhp] at hb;cases hb
   ·rw[dead_not fun σ e=>(by rw[hb] at e;cases e),hb];exact fun h=>h.2 rfl
   ·show ¬Mut (deadLab lab j b)
    rw[dead_pt hb];exact fun h=>h.2 rfl
  have hO':OkL { S with live:=S.live - 1,l:=S.l.set j ⟨false,zVl,[]⟩ }:=⟨by show (liveN _:Int)≤S.live - 1+1000000;omega,by show S.live - 1≤_;omega⟩
  refine cal_of (drop_spec ih S.l[j].v h0 _ h7 hp _ v xs (by omega) hO' hfew hcalm) ?_
  rintro _ h8 ⟨lab8,st8,x8,rfl,hl8,hO8⟩
  exact⟨_,rfl,lab8,st7.trans st8,x8,rfl,by omega,hO8⟩
end
end Go.Proofs.Ytggacajnmgligaa
namespace Go.Proofs.Ytggacajnmgligaa
open Go Go.Lf
set_option linter.unusedVariables false
section
variable {Q Q':Nat→Prop} {h h':Heap}
theorem put_at2:∀ {π:List Nat} {t y x:Vl} {A A':List Nat→Nat→Prop} {p0 p:Addr} {v u:Vv},Pl h p0 π p→Vv7 h p0 v→VAt true Q h t A v→getN t π=some y →
  (∀σ b,A σ b→b≠p0.block)→(∀σ σ' b,A σ b→A σ' b→σ=σ')→(∀b,Q b→∀σ,¬A σ b)→(∀b,Q b→b≠p0.block)→(∀b,Q b→Q' b)→(∀σ b,A σ b→¬π <+: σ→A' σ b) →
  Fr (fun b=>b=p.block) h h'→Vv7 h' p u→(∀i,(∀k,k<7→i≠p.off+k)→∀w,cl h ⟨p.block,i,none⟩=some w→cl h' ⟨p.block,i,none⟩=some w)→(∀cs,blk h p.block cs→∃cs',blk h' p.block cs'∧cs'.size=cs.size) →
  VAt true Q' h' x (fun σ=>A' (π++σ)) u→∃v',Vv7 h' p0 v'∧VAt true Q' h' (putV t π x) A' v'∧(π≠[]→v'=v)∧(π=[]→v'=u)
 | [],t,y,x,A,A',p0,p,v,u,hp,hv,ht,hg,d1,d2,d3,d4,d5,d6,f,hu,hout,hblk,hx=>by
  obtain rfl:p=p0:=hp
  exact⟨u,hu,hx,fun h=>absurd rfl h,fun _=>rfl⟩
 | j :: π,.mk k n nm ts al pa tg,y,x,A,A',p0,p,v,u,hp,hv,ht,hg,d1,d2,d3,d4,d5,d6,f,hu,hout,hblk,hx=>by
  have hpl:=hp.at_ hv ht hg
  obtain⟨s,q,c,e,hp'⟩:=hp
  obtain⟨e1,e2,e3,e4,e5,e6,e7,e8⟩:=vAt_iff.1 ht
  unfold getN at hg
  split at hg
  rotate_left
  ·cases hg
  rename_i u0 hu0
  obtain⟨hj,rfl⟩:=List.getElem?_eq_some_iff.1 hu0
  obtain⟨q',u',r1,r2,r3,r4,r5⟩:=e8 j hj
  have c':cl h (p0.add 3)=some (.slice v.ps.a v.ps.n v.ps.c):=hv 3 _ rfl
  rw[c] at c'
  simp only[Option.some.injEq,Value.slice.injEq] at c'
  rw[e,r1] at c'
  obtain rfl:q=q':=by simpa using c'.1
  obtain⟨τ0,l1,l2,l3⟩:∃τ:List Nat,τ.length<(j :: π).length∧A τ p.block∧τ=(j :: π).dropLast:=by
   obtain⟨_,_,_,g3⟩:=hpl
   rcases g3 with⟨h,_⟩|⟨τ,a,b,c⟩
   ·cases h
   ·exact⟨τ,a,b,c⟩
  have hpb:p.block≠p0.block:=d1 _ _ l2
  have hv':Vv7 h' p0 v:=hv.fr f fun h=>hpb h.symm
  obtain⟨s1,s2,cs,s3,s4⟩:=r3 rfl
  have hpu:putV (.mk k n nm ts al pa tg) (j :: π) x=.mk k n nm (ts.set j (putV ts[j] π x)) al pa tg:=by
   conv=>lhs;unfold putV
   rw[hu0]
  obtain⟨w,w1,w2,w3,w4⟩:=put_at2 (π:=π) (x:=x) (A:=shA A j) (A':=shA A' j) hp' r4 r5 hg (fun σ b hb hbq=>by
    rw[add_block] at hbq
    rw[hbq] at hb
    have:=d2 _ _ _ hb r2
    cases this) (fun σ σ' b a b'=>by have:=d2 _ _ _ a b';simpa using this) (fun b hb σ=>d3 b hb _) (fun b hb hbq=>by rw[add_block] at hbq;rw[hbq] at hb;exact d3 _ hb _ r2) d5
    (fun σ b hb hpre=>d6 _ b hb fun h=>hpre (by simpa using h)) f hu hout hblk hx
  refine⟨v,hv',?_,fun _=>rfl,fun h=>(by cases h)⟩
  rw[hpu]
  refine vAt_iff.2 ⟨e1,e2,e3,e4,e5,(e6.fr f fun b hb h=>d3 b hb _ (h ▸ l2)).weak fun b hb _=>d5 b hb,by rw[List.length_set];exact e7,fun i hi=>?_⟩
  have hi':i<ts.length:=by rw[List.length_set] at hi;exact hi
  have hrow:∃cs',blk h' q.block cs'∧cs'.size=cs.size:=by
   by_cases hpq:p.block=q.block
   ·obtain⟨cs',b1,b2⟩:=hblk cs (hpq ▸ s3)
    exact⟨cs',hpq ▸ b1,b2⟩
   ·exact⟨cs,f.blk s3 fun h=>hpq h.symm,rfl⟩
  obtain⟨cs',b1,b2⟩:=hrow
  obtain⟨qi,ui,t1,t2,t3,t4,t5⟩:=e8 i hi'
  rw[r1] at t1
  obtain rfl:q=qi:=by simpa using t1
  have hsz:(i+1)*7≤cs'.size:=by
   obtain⟨-,-,cs2,y3,y4⟩:=t3 rfl
   obtain⟨E1,z1⟩:=s3
   obtain⟨E2,z2⟩:=y3
   rw[z1] at z2
   simp only[Option.some.injEq,Obj.cells.injEq] at z2
   rw[b2,z2.1];exact y4
  have hA0:A' [] q.block:=d6 _ _ r2 (by simp)
  by_cases hij:i=j
  ·subst hij
   refine⟨q,w,r1,hA0,fun _=>⟨s1,s2,cs',b1,hsz⟩,w1,?_⟩
   rw[List.getElem_set_self]
   exact w2
  ·refine⟨q,ui,r1,hA0,fun _=>⟨s1,s2,cs',b1,hsz⟩,?_,?_⟩
   ·by_cases hpq:p.block=q.block
    ·have hτ:τ0=[]:=d2 _ _ _ l2 (hpq ▸ r2)
     have hπ:π=[]:=by
      rw[hτ] at l3
      cases π with
      | nil=>rfl
      | cons a π=>simp at l3
     subst hπ
     obtain rfl:p=q.add (j*7):=hp'
     intro m z hz
     have hm:m<7:=(Array.getElem?_eq_some_iff.1 hz).1
     have h0:=t4 m z hz
     obtain⟨qb,qo,qs⟩:=q
     simp only at s1 s2
     subst s1 s2
     rw[add_plain,add_plain] at h0 ⊢
     simp only[add_plain,Nat.zero_add] at hout h0 ⊢
     refine hout _ (fun k hk=>?_) z h0
     rcases Nat.lt_or_ge i j with h|h
     ·have:=Nat.mul_le_mul_right 7 (show i+1≤j from h)
      omega
     ·have:=Nat.mul_le_mul_right 7 (show j+1≤i by omega)
      omega
    ·exact t4.fr f (by rw[add_block];exact fun h=>hpq h.symm)
   ·rw[List.getElem_set_ne (fun h=>hij h.symm)]
    refine (t5.fr f (fun b hb h=>d3 b hb _ (h ▸ l2)) fun σ b hb h=>?_).weak (fun b hb _=>d5 b hb) (fun h=>h) fun σ b hb _=>d6 _ b hb fun hpre=>?_
    ·rw[h] at hb
     have:=d2 _ _ _ hb l2
     rw[l3] at this
     cases π with
     | nil=>simp at this
     | cons a π=>
      simp at this
      exact hij this.1
    ·simp at hpre
     exact hij hpre.1.symm
theorem Pl.cell:∀ {π:List Nat} {t y:Vl} {A:List Nat→Nat→Prop} {p0 p:Addr} {v:Vv},Pl h p0 π p→Vv7 h p0 v→VAt true Q h t A v→getN t π=some y→π≠[] →
  ∃g i cs,p=⟨g,i*7,none⟩∧blk h g cs∧(i+1)*7≤cs.size
 | [],t,y,A,p0,p,v,hp,hv,ht,hg,hne=>absurd rfl hne
 | j :: π,.mk k n nm ts al pa tg,y,A,p0,p,v,hp,hv,ht,hg,hne=>by
  obtain⟨s,q,c,e,hp'⟩:=hp
  obtain⟨e1,e2,e3,e4,e5,e6,e7,e8⟩:=vAt_iff.1 ht
  unfold getN at hg
  split at hg
  ·rename_i u hu
   obtain⟨hj,rfl⟩:=List.getElem?_eq_some_iff.1 hu
   obtain⟨q',u',r1,r2,r3,r4,r5⟩:=e8 j hj
   have c':cl h (p0.add 3)=some (.slice v.ps.a v.ps.n v.ps.c):=hv 3 _ rfl
   rw[c] at c'
   simp only[Option.some.injEq,Value.slice.injEq] at c'
   rw[e,r1] at c'
   obtain rfl:q=q':=by simpa using c'.1
   by_cases hπ:π=[]
   ·subst hπ
    obtain rfl:p=q.add (j*7):=hp'
    obtain⟨s1,s2,cs,s3,s4⟩:=r3 rfl
    obtain⟨qb,qo,qs⟩:=q
    simp only at s1 s2
    subst s1 s2
    exact⟨qb,j,cs,by rw[add_plain,Nat.zero_add],s3,s4⟩
   ·exact Pl.cell hp' r4 r5 hg hπ
  ·cases hg
theorem few_put:∀(π:List Nat) (t x:Vl),few t→few x→few (putV t π x)
 | [],t,x,ht,hx=>hx
 | j :: π,.mk k n nm ts al pa tg,x,ht,hx=>by
  obtain⟨h1,h2,h3⟩:=few_mk.1 ht
  unfold putV
  split
  ·rename_i u hu
   refine few_mk.2 ⟨by simpa using h1,h2,fun a ha=>?_⟩
   rcases List.mem_or_eq_of_mem_set ha with ha|rfl
   ·exact h3 a ha
   ·exact few_put π u x (h3 u (List.mem_of_getElem? hu)) hx
  ·exact few_mk.2 ⟨h1,h2,h3⟩
end
section
variable {lab lab':Nat→Lb} {h:Heap} {hp:Nat} {S:Hs} {s:Sv} {bs:List Nat}
open Classical in
noncomputable def cutLab (lab:Nat→Lb) (j:Nat) (π:List Nat):Nat→Lb:=fun b=>match lab b with
 | .pt i σ=>if i=j∧π <+: σ then .q else .pt i σ
 | l=>l
theorem cut_pt {j b:Nat} {π σ:List Nat} (h:lab b=.pt j (π++σ)):cutLab lab j π b=.q:=by
 unfold cutLab
 rw[h]
 exact if_pos ⟨rfl,List.prefix_append _ _⟩
theorem cut_not {j b:Nat} {π:List Nat} (h:∀σ,lab b=.pt j σ→¬π <+: σ):cutLab lab j π b=lab b:=by
 unfold cutLab
 split
 ·rename_i i σ e
  rw[if_neg (fun hij=>h σ (by rw[e,hij.1]) hij.2),e]
 ·rfl
theorem HpAt.set3 (x:HpAt lab h hp S s bs) {T:Nat→Prop} {h':Heap} {i:Nat} {a':Al} (f:Fr T h h') (hT:∀b,T b→b<h.size→Fam i (lab b)∨lab b=.no) (hl:∀b,b<h.size→lab b≠.no→¬Fam i (lab b)→lab' b=lab b)
  (hi:i<bs.length) (nb:BxAt lab' h' i bs[i] a') (hn:∀b,h'.size≤b→lab' b=.no):HpAt lab' h' hp { S with l:=S.l.set i a' } s bs:=by
 have hnT:∀b,b<h.size→¬Fam i (lab b)→lab b≠.no→¬T b:=fun b hb h1 h2 ht=>(hT b ht hb).elim h1 h2
 have n0:lab hp≠.no:=by rw[x.lhp];exact Lb.noConfusion
 have n1:¬Fam i (lab hp):=by rw[x.lhp];rintro (h|h|⟨σ,h⟩)<;>cases h
 have n2:∀b,s.own b→¬Fam i (lab b):=fun b hb=>by rw[x.lal b hb];rintro (h|h|⟨σ,h⟩)<;>cases h
 have n3:∀b,s.own b→lab b≠.no:=fun b hb=>by rw[x.lal b hb];exact Lb.noConfusion
 refine⟨f.blk x.hd (hnT _ x.hd.lt n1 n0),by rw[hl _ x.hd.lt n0 n1];exact x.lhp,by simpa using x.len,x.al.frame f fun b hb=>hnT b (x.al.ge hb).2 (n2 b hb) (n3 b hb),
  fun b hb=>by rw[hl b (x.al.ge hb).2 (n3 b hb) (n2 b hb)];exact x.lal b hb,fun j h1 h2=>?_,hn⟩
 by_cases hj:i=j
 ·subst hj
  simp only[List.getElem_set_self]
  exact nb
 ·simp only[List.getElem_set_ne hj]
  have h2':j<S.l.length:=by simpa using h2
  have hfam:∀c,Fam j (lab c)∨lab c=.q→¬Fam i (lab c)∧lab c≠.no:=by
   intro c hc
   rcases hc with (hc|hc|⟨σ,hc⟩)|hc<;>rw[hc]<;>refine⟨?_,Lb.noConfusion⟩<;>rintro (h|h|⟨σ',h⟩)<;>cases h<;>exact hj rfl
  have hb:=x.bx j h1 h2'
  have hsz:∀c,Fam j (lab c)∨lab c=.q→c<h.size:=fun c hc=>by
   rcases Nat.lt_or_ge c h.size with h|h
   ·exact h
   ·have:=x.out c h
    rw[this] at hc
    rcases hc with (hc|hc|⟨σ,hc⟩)|hc<;>cases hc
  exact hb.to f (fun c hc=>hnT c (hsz c hc) (hfam c hc).1 (hfam c hc).2) fun c h1 hc=>hl c h1 (hfam c hc).2 (hfam c hc).1
theorem not_pre {π:List Nat} (h:π≠[]):¬π <+: π.dropLast:=fun e=>by
 have h1:=e.length_le
 rw[List.length_dropLast] at h1
 have:0<π.length:=List.length_pos_iff.2 h
 omega
def Quiet (lab:Nat→Lb) (h:Heap) (t:Vl) (u:Vv):Prop:=VAt false (fun b=>lab b=.q) h t (anyA fun b=>lab b=.q) u
theorem Quiet.calm {t:Vl} {u:Vv} (x:Quiet lab h t u):Calm lab h t u:=x.weak (fun b hb _=>by rw[hb];exact fun h=>h.2 rfl) (fun h=>h) fun σ b hb _=>by
 have hb':lab b=.q:=hb
 show ¬Mut (lab b)
 rw[hb'];exact fun h=>h.2 rfl
theorem part_sto (x:HpAt lab h hp S s bs) {j:Nat} (hj:j<bs.length) (hj2:j<S.l.length) {π:List Nat} {p:Addr} {y xv:Vl} {u uo:Vv} (hpl:Pl h ⟨bs[j],1,none⟩ π p) (hg:getN S.l[j].v π=some y)
  (hl:∀b,lab b≠.no→lab' b=cutLab lab j π b) (hn:∀b,h.size≤b→lab' b=.no)
  (hfx:few xv) (hx:VAt true (fun c=>lab' c=.q) h xv (fun σ c=>lab' c=.pt j (π++σ)) u) (huo:VAt true (fun c=>lab c=.q) h y (fun σ c=>lab c=.pt j (π++σ)) uo)
  {K:Heap→Prop} (k:∀h',Fr (fun c=>c=p.block) h h'→Mut (lab p.block)→HpAt lab' h' hp { S with l:=S.l.set j { S.l[j] with v:=putV S.l[j].v π xv } } s bs→Quiet lab' h' y uo→K h'):stoA h p (vvs u).toList K:=by
 obtain⟨lb,hfew,v,st,kb,hva,hst⟩:=x.bx j hj hj2
 have hpb:(π=[]∧lab p.block=.bx j)∨(π≠[]∧lab p.block=.pt j π.dropLast):=by
  by_cases hπ:π=[]
  ·subst hπ
   obtain rfl:p=_:=hpl
   exact .inl ⟨rfl,lb⟩
  ·obtain⟨_,_,_,g3⟩:=hpl.at_ (bx7 kb) hva hg
   rcases g3 with⟨h,_⟩|⟨τ,a,b,c⟩
   ·exact absurd h hπ
   ·exact .inr ⟨hπ,by rw[←c];exact b⟩
 have hpno:lab p.block≠.no:=by rcases hpb with⟨_,h⟩|⟨_,h⟩<;>rw[h]<;>exact Lb.noConfusion
 have hpfam:Fam j (lab p.block):=by
  rcases hpb with⟨_,h⟩|⟨_,h⟩
  ·exact .inl h
  ·exact .inr (.inr ⟨_,h⟩)
 have hpm:Mut (lab p.block):=⟨hpno,by rcases hpb with⟨_,h⟩|⟨_,h⟩<;>rw[h]<;>exact Lb.noConfusion⟩
 have hp':lab' p.block=lab p.block:=by
  rw[hl _ hpno]
  refine cut_not fun σ e=>?_
  rcases hpb with⟨_,h⟩|⟨h0,h⟩
  ·rw[h] at e;cases e
  ·rw[h] at e
   simp only[Lb.pt.injEq,true_and] at e
   rw[←e];exact not_pre h0
 have lb':lab' bs[j]=.bx j:=by
  rw[hl _ (by rw[lb];exact Lb.noConfusion),cut_not fun σ e=>(by rw[lb] at e;cases e)];exact lb
 have lq:∀b,lab b=.q→lab' b=.q:=fun b hb=>by
  rw[hl _ (by rw[hb];exact Lb.noConfusion),cut_not fun σ e=>(by rw[hb] at e;cases e)];exact hb
 have n1:∀c,lab' c=.q→c≠p.block:=fun c hc e=>by rw[e,hp'] at hc;exact hpm.2 hc
 have n2:∀σ c,lab' c=.pt j (π++σ)→c≠p.block:=fun σ c hc e=>by
  rw[e,hp'] at hc
  rcases hpb with⟨_,h⟩|⟨h0,h⟩
  ·rw[h] at hc;cases hc
  ·rw[h] at hc
   simp only[Lb.pt.injEq,true_and] at hc
   exact not_pre h0 (hc ▸ List.prefix_append _ _)
 have n3:∀σ c,lab c=.pt j (π++σ)→c≠p.block:=fun σ c hc e=>by
  rw[e] at hc
  rcases hpb with⟨_,h⟩|⟨h0,h⟩
  ·rw[h] at hc;cases hc
  ·rw[h] at hc
   simp only[Lb.pt.injEq,true_and] at hc
   exact not_pre h0 (hc ▸ List.prefix_append _ _)
 have calm:∀h',Fr (fun c=>c=p.block) h h'→Quiet lab' h' y uo:=fun h' f=>by
  refine (huo.fr f (fun c hc e=>hpm.2 (by rw[←e];exact hc)) fun σ c hc e=>n3 σ c hc e).weak (fun c hc _=>lq c hc) (fun h=>(by cases h)) fun σ c hc _=>?_
  show lab' c=.q
  rw[hl _ (by rw[hc];exact Lb.noConfusion),cut_pt hc]
 have fin:∀h' v',Fr (fun c=>c=p.block) h h'→blk h' bs[j] (bxs S.l[j].live v' st)→VAt true (fun c=>lab' c=.q) h' (putV S.l[j].v π xv) (fun σ c=>lab' c=.pt j σ) v'→K h':=by
  intro h' v' f kb' hv'
  refine k h' f hpm ?_ (calm h' f)
  refine x.set3 (a':={ S.l[j] with v:=putV S.l[j].v π xv }) f (fun b hb _=>.inl (by rw[hb];exact hpfam)) (fun b _ hb hf=>?_) hj ⟨lb',few_put π _ _ hfew hfx,v',st,kb',hv',?_⟩ fun b hb=>hn b (Nat.le_trans f.size hb)
  ·rw[hl b hb]
   exact cut_not fun σ e=>absurd (.inr (.inr ⟨σ,e⟩)) hf
  ·refine hst.to f (fun c hc e=>?_) fun c _ hc=>?_
   ·rw[e] at hc
    rcases hc with hc|hc
    ·rcases hpb with⟨_,h⟩|⟨_,h⟩<;>rw[h] at hc<;>cases hc
    ·exact hpm.2 hc
   ·rw[hl c (by rcases hc with hc|hc<;>rw[hc]<;>exact Lb.noConfusion)]
    exact cut_not fun σ e=>by rcases hc with hc|hc<;>rw[hc] at e<;>cases e
 by_cases hπ:π=[]
 ·subst hπ
  obtain rfl:p=_:=hpl
  refine stoBx kb fun h' kb' f=>fin h' u f kb' ?_
  have e:putV S.l[j].v [] xv=xv:=by unfold putV;rfl
  rw[e]
  exact hx.fr f (fun c hc e=>n1 c hc e) fun σ c hc e=>n2 σ c hc e
 ·obtain⟨g,i,cs,rfl,kg,hsz⟩:=hpl.cell (bx7 kb) hva hg hπ
  refine stoB kg (by show i*7+7≤_;omega) (one_vv u) fun h' cur' k' hs' hin hout f=>?_
  have hgb:bs[j]≠g:=fun e=>by
   rcases hpb with⟨h,_⟩|⟨_,h⟩
   ·exact hπ h
   ·have h':lab g=_:=h
    rw[←e,lb] at h';cases h'
  have c1:∀σ b,lab b=.pt j σ→b≠(⟨bs[j],1,none⟩:Addr).block:=fun σ b hb e=>by
   have e':b=bs[j]:=e
   rw[e',lb] at hb;cases hb
  have c2:∀b,lab b=.q→b≠(⟨bs[j],1,none⟩:Addr).block:=fun b hb e=>by
   have e':b=bs[j]:=e
   rw[e',lb] at hb;cases hb
  have c3:∀σ b,lab b=.pt j σ→¬π <+: σ→lab' b=.pt j σ:=fun σ b hb hpre=>by
   rw[hl b (by rw[hb];exact Lb.noConfusion),cut_not fun σ' e=>?_]
   ·exact hb
   ·rw[hb] at e
    simp only[Lb.pt.injEq,true_and] at e
    rw[←e];exact hpre
  have c4:Vv7 h' ⟨g,i*7,none⟩ u:=by
   intro m w hw
   have hm:m<7:=(Array.getElem?_eq_some_iff.1 hw).1
   rw[add_plain,k'.cl,hin (i*7+m) (by omega) (by show _<i*7+7;omega),Nat.add_sub_cancel_left,Array.getElem?_toList]
   exact hw
  have c5:∀i',(∀k,k<7→i'≠(⟨g,i*7,none⟩:Addr).off+k)→∀w,cl h ⟨g,i',none⟩=some w→cl h' ⟨g,i',none⟩=some w:=fun i' hi' w hw=>by
   rw[k'.cl,hout i' ?_,←kg.cl]
   ·exact hw
   ·show i'<i*7∨i*7+7≤i'
    by_cases h1:i'<i*7
    ·exact .inl h1
    ·by_cases h2:i*7+7≤i'
     ·exact .inr h2
     ·exact absurd (by show i'=i*7+(i' - i*7);omega) (hi' (i' - i*7) (by omega))
  have c6:∀cs2,blk h g cs2→∃cs',blk h' g cs'∧cs'.size=cs2.size:=fun cs2 hcs2=>by
   refine⟨cur',k',?_⟩
   rw[hs']
   obtain⟨E1,z1⟩:=kg
   obtain⟨E2,z2⟩:=hcs2
   rw[z1] at z2
   simp only[Option.some.injEq,Obj.cells.injEq] at z2
   rw[z2.1]
  have c7:VAt true (fun c=>lab' c=.q) h' xv (fun σ c=>lab' c=.pt j (π++σ)) u:=hx.fr f (fun c hc e=>n1 c hc e) fun σ c hc e=>n2 σ c hc e
  obtain⟨v',w1,w2,w3,-⟩:=put_at2 (Q':=fun c=>lab' c=.q) (A:=fun σ c=>lab c=.pt j σ) (A':=fun σ c=>lab' c=.pt j σ) (x:=xv) (u:=u) hpl (bx7 kb) hva hg c1 (fun σ σ' b a b'=>by rw[a] at b';simpa using b') (fun b hb σ e=>by rw[hb] at e;cases e) c2 lq c3 f c4 c5 c6 c7
  refine fin h' v f (f.blk kb hgb) ?_
  rw[←w3 hπ];exact w2
end
end Go.Proofs.Ytggacajnmgligaa
namespace Go.Proofs.Ytggacajnmgligaa
open Go Go.Lf
set_option linter.unusedVariables false
noncomputable def takeS (S:Hs) (al:Int) (pa:List Int) (tg:Int):Hs×Except Int Vl:=
 match useGet S al pa tg true with
 | (S1,.error f)=>(S1,.error f)
 | (S1,.ok y)=>match atS S1 al with
  | none=>(S1,.error 1)
  | some a=>({ S1 with l:=S1.l.set al.toNat { a with v:=putV a.v (natsOf pa) zVl } },.ok y)
noncomputable def writeS (n:Nat) (S:Hs) (al:Int) (pa:List Int) (tg:Int) (x:Vl):Hs×Int:=
 match useS S al pa tg true with
 | .error f=>(S,f)
 | .ok S1=>match atS S1 al with
  | none=>(S1,1)
  | some a=>match getV a.v pa with
   | .error f=>(S1,f)
   | .ok old=>dropF (freeS n) old { S1 with l:=S1.l.set al.toNat { a with v:=putV a.v (natsOf pa) x } }
section
variable {lab:Nat→Lb} {h0 h:Heap} {hp:Nat} {S:Hs}
theorem few_zVl:few zVl:=few_mk.2 ⟨by simp,by simp,fun a ha=>by cases ha⟩
theorem zVl_at {o:Bool} {Q:Nat→Prop} {A:List Nat→Nat→Prop}:VAt o Q h zVl A zVv:=vAt_iff.2 ⟨rfl,rfl,rfl,rfl,rfl,IntsC.nil _ _,rfl,fun j hj=>absurd hj (Nat.not_lt_zero _)⟩
theorem cut_calm {j:Nat} {π:List Nat} {b:Nat} (h:¬Mut (lab b)):cutLab lab j π b=lab b:=cut_not fun σ e=>absurd ⟨by rw[e];exact Lb.noConfusion,by rw[e];exact Lb.noConfusion⟩ h
theorem take_ses (x:Ses h0 lab h hp S) (hS:Few S) {al tg:Int} {sp:Sv} {pa:List Int} (hpt:IntsC (fun b=>¬Mut (lab b)) h sp pa) (hpl:pa.length≤1000000) :
  CallsH Try.prog 18 #[ptr hp,.agg (pvs al sp tg)] h (fun v h'=>∃lab',Stp lab h lab' h'∧Ses h0 lab' h' hp (takeS S al pa tg).1∧match (takeS S al pa tg).2 with
   | .error f=>v=.tuple #[.agg (vvs zVv),.int .i64 f]
   | .ok y=>∃u,v=.tuple #[.agg (vvs u),.int .i64 0]∧Quiet lab' h' y u):=by
 obtain⟨f1',f2',f3',f4',f5',hst⟩:=hS
 have x0:=x
 obtain⟨s,bs,xx,g0,l0⟩:=x
 apply F18
 unfold L18
 refine newPt fun h1 k1 f1 z1=>newV (v:=zVv) fun h2 k2 f2 z2=>?_
 have K1:=f2.blk k1 fun h=>h
 have g2:=f1.trans f2
 have x2:=xx.grow g2
 refine rdPt K1 ?_
 have l1:lab h.size=.no:=xx.out _ (Nat.le_refl _)
 have l2:lab h1.size=.no:=xx.out _ (by omega)
 refine useGet_walk x2 (hpt.fr g2 fun _ _ h=>h) hpl hst K1 l1 (fun f h' f' x' e hf=>?_) (fun S' j y p h' f' x' e ht hw hj hj2 e2 hl hg hplc=>?_)
 ·have K2:=f'.blk k2 (nomut l2)
  have hb:takeS S al pa tg=((useGet S al pa tg true).1,.error f):=by
   unfold takeS
   generalize hu:useGet S al pa tg true=r at *
   obtain⟨r1,r2⟩:=r
   dsimp only at e
   subst e;rfl
  rw[hb]
  have fin:∀h4,blk h4 h1.size (vvs zVv)→Fr (fun i=>i=h1.size) h' h4→Stp lab h lab h4∧Ses h0 lab h4 hp (useGet S al pa tg true).1:=fun h4 b4 f4=>by
   have F:Fr (fun b=>Mut (lab b)) h h4:=((toM g2).trans f').trans' f4 (fun i hi e=>(by have:=f1.size;omega))
   exact⟨⟨F,fun _ _ _=>rfl⟩,ses_of x0 F (fun _ _ e=>e) (x'.fr f4 fun b hb=>by rw[hb];exact l2)⟩
  constructor
  ·refine stoV (v:=zVv) K2 rfl fun h4 b4 f4=>rd7 (Vv7.blk b4) ⟨lab,(fin h4 b4 f4).1,(fin h4 b4 f4).2,rfl⟩
  ·refine stoV (v:=zVv) K2 rfl fun h4 b4 f4=>rd7 (Vv7.blk b4) ⟨lab,(fin h4 b4 f4).1,(fin h4 b4 f4).2,rfl⟩
 ·subst e2
  have htk:takeS S j pa tg=({ S' with l:=S'.l.set j { S'.l[j] with v:=putV S'.l[j].v (natsOf pa) zVl } },.ok y):=by
   unfold takeS
   rw[e]
   dsimp only
   rw[atS_of hj2 hl,Int.toNat_natCast]
  rw[htk]
  obtain⟨lb,hfew,v,u0,kb,hva,-⟩:=x'.bx j hj hj2
  have hgn:=getV_getN pa _ _ hg
  obtain⟨uo,huo,hyu,-⟩:=hplc.at_ (bx7 kb) hva hgn
  refine⟨p,rfl,rd7 huo ?_⟩
  refine mineV (v:=uo) fun h8 k8 g8=>⟨p,rfl,?_⟩
  have x8:=x'.grow g8
  have hpl8:Pl h8 ⟨bs[j],1,none⟩ (natsOf pa) p:=by
   have:∀(π:List Nat) (p0:Addr),Pl h' p0 π p→Pl h8 p0 π p:=by
    intro π
    induction π with
    | nil=>exact fun _ h=>h
    | cons i π ih=>
     rintro p0 ⟨s,q,c,e,r⟩
     exact⟨s,q,g8.clk c fun h=>h,e,ih _ r⟩
   exact this _ _ hplc
  refine part_sto (lab':=cutLab lab j (natsOf pa)) (u:=zVv) (uo:=uo) x8 hj hj2 hpl8 hgn (fun b _=>rfl) (fun b hb=>?_) few_zVl zVl_at (hyu.grow g8) fun h9 f9 hm x9 hq=>?_
  ·have:=x8.out b hb
   rw[cut_calm (nomut this)];exact this
  have sz2:=f1.size
  have sz3:=f'.size
  have sz8:=g8.size
  have npb:∀b,lab b=.no→¬b=p.block:=fun b hb e=>hm.1 (by rw[←e];exact hb)
  have k9:=f9.blk k8 (npb _ (x'.out _ (Nat.le_refl _)))
  refine rd7 (Vv7.blk k9) ?_
  have k4:=f9.blk (g8.blk (f'.blk k2 (nomut l2)) fun h=>h) (npb _ l2)
  have l2':cutLab lab j (natsOf pa) h1.size=.no:=by rw[cut_calm (nomut l2)];exact l2
  refine stoV (v:=uo) k4 rfl fun h10 k10 f10=>rd7 (Vv7.blk k10) ?_
  have F9:Fr (fun b=>Mut (lab b)) h h9:=(((toM g2).trans f').trans (toM g8)).trans' f9 fun i _ e=>by rw[e];exact hm
  have F10:Fr (fun b=>Mut (lab b)) h h10:=F9.trans' f10 fun i hi e=>by omega
  refine⟨cutLab lab j (natsOf pa),⟨F10,fun b _ hb=>cut_calm hb⟩,ses_of x0 F10 (fun b _ e=>by rw[cut_calm (nomut e)];exact e) (x9.fr f10 fun b hb=>by rw[hb];exact l2'),uo,rfl,?_⟩
  refine VAt.fr f10 (fun b hb e=>?_) (fun σ b hb e=>?_) hq
  ·rw[e,l2'] at hb;cases hb
  ·have hb':cutLab lab j (natsOf pa) b=.q:=hb
   rw[e,l2'] at hb';cases hb'
theorem write_ses (x:Ses h0 lab h hp S) (hS:Few S) {al tg:Int} {sp:Sv} {pa:List Int} (hpt:IntsC (fun b=>¬Mut (lab b)) h sp pa) (hpl:pa.length≤1000000) {xt:Vl} {xv:Vv} (hx:Calm lab h xt xv) (hfx:few xt) {n:Nat}
  (hN:∀S1 a,useS S al pa tg true=.ok S1→atS S1 al=some a→liveN { S1 with l:=S1.l.set al.toNat { a with v:=putV a.v (natsOf pa) xt } }≤n∧OkL { S1 with l:=S1.l.set al.toNat { a with v:=putV a.v (natsOf pa) xt } }) :
  CallsH Try.prog 17 #[ptr hp,.agg (pvs al sp tg),.agg (vvs xv)] h (fun v h'=>∃lab',Stp lab h lab' h'∧Ses h0 lab' h' hp (writeS n S al pa tg xt).1∧v=.int .i64 (writeS n S al pa tg xt).2):=by
 obtain⟨f1',f2',f3',f4',f5',hst⟩:=hS
 have x0:=x
 obtain⟨s,bs,xx,g0,l0⟩:=x
 apply F17
 unfold L17
 refine newPt fun h1 k1 f1 z1=>newV (v:=xv) fun h2 k2 f2 z2=>?_
 have K1:=f2.blk k1 fun h=>h
 have g2:=f1.trans f2
 have x2:=xx.grow g2
 refine rdPt K1 ?_
 have l1:lab h.size=.no:=xx.out _ (Nat.le_refl _)
 have l2:lab h1.size=.no:=xx.out _ (by omega)
 have hpt2:=hpt.fr g2 fun _ _ h=>h
 refine cal_of (use_spec x2 hpt2 hpl hst true) ?_
 rintro v h3 ⟨f3,hm⟩
 have F3:Fr (fun b=>Mut (lab b)) h h3:=(toM g2).trans f3
 cases hu:useS S al pa tg true with
 | error f=>
  rw[hu] at hm
  obtain⟨x3,rfl,hf⟩:=hm
  have hw:writeS n S al pa tg xt=(S,f):=by unfold writeS;rw[hu]
  rw[hw]
  exact⟨_,rfl,_,rfl,_,rfl,_,rfl,_,rfl,fun _=>⟨lab,⟨F3,fun _ _ _=>rfl⟩,ses_of x0 F3 (fun _ _ e=>e) x3,rfl⟩,fun e=>absurd (by simpa using e) hf⟩
 | ok S1=>
  rw[hu] at hm
  obtain⟨x3,j,hj,rfl,rfl⟩:=hm
  refine⟨_,rfl,_,rfl,_,rfl,_,rfl,_,rfl,fun e=>(by simp at e),fun _=>?_⟩
  obtain⟨a,ha,-,-,-,-,-⟩:=useS_at hu
  obtain⟨j',e,hj2,rfl,hl⟩:=atS_some ha
  obtain rfl:j=j':=by omega
  obtain⟨hN1,hN2⟩:=hN S1 _ hu ha
  rw[Int.toNat_natCast] at hN1 hN2
  have hw:writeS n S j pa tg xt=match getV S1.l[j].v pa with
    | .error f=>(S1,f)
    | .ok old=>dropF (freeS n) old { S1 with l:=S1.l.set j { S1.l[j] with v:=putV S1.l[j].v (natsOf pa) xt } }:=by
   unfold writeS
   rw[hu]
   dsimp only
   rw[ha,Int.toNat_natCast]
  rw[hw]
  obtain⟨lb,hfew,v,u0,kb,hva,-⟩:=x3.bx j hj hj2
  have K13:=f3.blk K1 (nomut l1)
  have hpt3:=hpt2.fr f3 fun b hb h=>hb h
  refine ldS_i (s:=sp) (by rw[add_plain,K13.cl];rfl) ?_
  refine cal_of (part_spec (p0:=⟨bs[j],0,none⟩) hva (by rw[add_plain];exact bx7 kb) hpt3.ints hpl) ?_
  rintro w5 _ ⟨rfl,hm⟩
  cases hg:getV S1.l[j].v pa with
  | error f=>
   rw[hg] at hm
   have hm:w5=.tuple #[.pointer none,.int .i64 f]:=hm
   subst hm
   exact⟨_,rfl,_,rfl,_,rfl,_,rfl,_,rfl,fun _=>⟨lab,⟨F3,fun _ _ _=>rfl⟩,ses_of x0 F3 (fun _ _ e=>e) x3,rfl⟩,fun e=>absurd (by simpa using e) (getV_err _ _ _ hg)⟩
  | ok old=>
   rw[hg] at hm
   obtain⟨p,rfl,hplc⟩:=hm
   rw[add_plain] at hplc
   refine⟨_,rfl,_,rfl,_,rfl,_,rfl,_,rfl,fun e=>(by simp at e),fun _=>⟨p,rfl,?_⟩⟩
   have hgn:=getV_getN pa _ _ hg
   obtain⟨uo,huo,hyu,-⟩:=hplc.at_ (bx7 kb) hva hgn
   refine rd7 huo ?_
   refine mineV (v:=uo) fun h6 k6 g6=>?_
   have k56:=g6.blk (f3.blk k2 (nomut l2)) fun h=>h
   have sz1:=f1.size
   have sz3:=f3.size
   have sz6:=g6.size
   refine rd7 (Vv7.blk k56) ?_
   have hx6:Calm lab h6 xt xv:=Calm.grow (Calm.op (Calm.grow hx g2) ⟨f3,fun _ _ _=>rfl⟩) g6
   refine cal_of (clone_spec xt false _ _ xv h6 hfx hx6) ?_
   rintro _ h7 ⟨g7,u',rfl,lbl,hlb,hva'⟩
   have sz7:=g7.size
   refine⟨_,_,_,u'.ps,_,u'.pa,_,rfl,p,rfl,?_⟩
   have x7:=(x3.grow g6).grow g7
   have hpl7:Pl h7 ⟨bs[j],1,none⟩ (natsOf pa) p:=by
    have:∀(π:List Nat) (p0:Addr),Pl h3 p0 π p→Pl h7 p0 π p:=by
     intro π
     induction π with
     | nil=>exact fun _ h=>h
     | cons i π ih=>
      rintro p0 ⟨s,q,c,e,r⟩
      exact⟨s,q,(g6.trans g7).clk c fun h=>h,e,ih _ r⟩
    exact this _ _ hplc
   have hout:∀b,h6.size≤b→lab b=.no:=fun b hb=>(x3.grow g6).out b hb
   let lab':Nat→Lb:=fun b=>if b<h6.size then cutLab lab j (natsOf pa) b else if b<h7.size then (match lbl b with|some σ=>.pt j (natsOf pa++σ)|none=>.q) else .no
   have L0:∀b,b<h6.size→lab' b=cutLab lab j (natsOf pa) b:=fun b hb=>if_pos hb
   have L1:∀b,h6.size≤b→b<h7.size→lab' b=match lbl b with|some σ=>.pt j (natsOf pa++σ)|none=>.q:=fun b h1 h2=>by
    show (if b<h6.size then _ else _)=_
    rw[if_neg (by omega),if_pos h2]
   have L2:∀b,h7.size≤b→lab' b=.no:=fun b h1=>by
    show (if b<h6.size then _ else _)=_
    rw[if_neg (by omega),if_neg (by omega)]
   have hge:∀σ b,lbl b=some σ→h6.size≤b:=fun σ b hb=>by
    rcases Nat.lt_or_ge b h6.size with hl|hl
    ·rw[hlb b (.inl hl)] at hb;cases hb
    ·exact hl
   refine part_sto (lab':=lab') (u:=u') (uo:=uo) x7 hj hj2 hpl7 hgn (fun b hb=>L0 b ?_) L2 hfx (hva'.weak (fun b hb hs=>?_) (fun h=>h) fun σ b hb hs=>?_) ((hyu.grow g6).grow g7) fun h8 f8 hm x8 hq=>?_
   ·rcases Nat.lt_or_ge b h6.size with h|h
    ·exact h
    ·exact absurd (hout b h) hb
   ·show lab' b=.q
    rw[L1 b hb.1 hs,hb.2]
   ·show lab' b=.pt j (natsOf pa++σ)
    have hb':lbl b=some σ:=hb
    rw[L1 b (hge σ b hb') hs,hb']
   have npb:∀b,lab b=.no→¬b=p.block:=fun b hb e=>hm.1 (by rw[←e];exact hb)
   have k68:=f8.blk (g7.blk k6 fun h=>h) (npb _ (x3.out _ (Nat.le_refl _)))
   refine rd7 (Vv7.blk k68) ?_
   have F8:Fr (fun b=>Mut (lab b)) h h8:=((F3.trans (toM g6)).trans (toM g7)).trans' f8 fun i _ e=>by rw[e];exact hm
   have st8:Stp lab h lab' h8:=⟨F8,fun b hb hnm=>by rw[L0 b (by omega)];exact cut_calm hnm⟩
   have xs8:Ses h0 lab' h8 hp { S1 with l:=S1.l.set j { S1.l[j] with v:=putV S1.l[j].v (natsOf pa) xt } }:=ses_of x0 F8 (fun b hb e=>by rw[L0 b (by omega),cut_calm (nomut e)];exact e) x8
   refine cal_of (drop_spec (free_ok n) old h0 lab' h8 hp _ uo xs8 hN1 hN2 (getV_few pa _ _ hg hfew) hq.calm) ?_
   rintro _ h9 ⟨lab9,st9,x9,rfl,-,-⟩
   exact⟨_,rfl,lab9,st8.trans st9,x9,rfl⟩
end
end Go.Proofs.Ytggacajnmgligaa
namespace Go.Proofs.Ytggacajnmgligaa
open Go Go.Lf
set_option linter.unusedVariables false
def peekS (S:Hs) (al:Int) (pa:List Int):Except Int Vl:=
 match atS S al with
 | none=>.error 1
 | some a=>getV a.v pa
section
variable {lab:Nat→Lb} {h0 h:Heap} {hp:Nat} {S:Hs}
theorem base_ses (x:Ses h0 lab h hp S) (hw:S.watch=false) (i:Int):CallsH Try.prog 23 #[ptr hp,.int .i64 i] h (fun v h'=>Grow h h'∧v=match atS S i with
   | none=>.tuple #[.agg (pvs 0 ⟨none,0,0⟩ 0),.int .i64 1]
   | some _=>.tuple #[.agg (pvs i ⟨none,0,0⟩ 0),.int .i64 0]):=by
 obtain⟨s,bs,xx,g0,l0⟩:=x
 apply F23
 unfold L23
 refine newPt (al:=0) (sp:=⟨none,0,0⟩) (tg:=0) fun h1 k1 f1 z1=>?_
 have x1:=xx.grow f1
 refine cal_of (at_spec x1 i) ?_
 rintro _ _ ⟨rfl,⟨hno,rfl⟩|⟨j,hj,hj2,rfl,hl,rfl⟩⟩
 ·refine⟨_,rfl,fun _=>?_,fun e=>(by cases e)⟩
  rw[atS_not hno]
  exact stoPt (al:=0) (sp:=⟨none,0,0⟩) (tg:=0) k1 rfl fun h3 k3 f3=>rdPt k3 ⟨f1.trans' f3 fun i hi e=>by omega,rfl⟩
 ·refine⟨_,rfl,fun e=>(by cases e),fun _=>⟨_,rfl,S.watch,by rw[add_plain,x1.hd.cl];rfl,fun _=>?_,fun e=>?_⟩⟩
  ·rw[atS_of hj2 hl]
   exact stoPt (al:=j) (sp:=⟨none,0,0⟩) (tg:=0) k1 rfl fun h3 k3 f3=>rdPt k3 ⟨f1.trans' f3 fun i hi e=>by omega,rfl⟩
  ·rw[hw] at e;cases e
theorem peek_ses (x:Ses h0 lab h hp S) {al tg:Int} {sp:Sv} {pa:List Int} (hpt:IntsC (fun b=>¬Mut (lab b)) h sp pa) (hpl:pa.length≤1000000):CallsH Try.prog 24 #[ptr hp,.agg (pvs al sp tg)] h (fun v h'=>Grow h h'∧match peekS S al pa with
   | .error f=>v=.tuple #[.agg (vvs zVv),.int .i64 f]
   | .ok y=>∃u,v=.tuple #[.agg (vvs u),.int .i64 0]∧Told lab h.size h' y u):=by
 obtain⟨s,bs,xx,g0,l0⟩:=x
 apply F24
 unfold L24
 refine newPt fun h1 k1 f1 z1=>newV (v:=zVv) fun h2 k2 f2 z2=>?_
 have K1:=f2.blk k1 fun h=>h
 have g2:=f1.trans f2
 have x2:=xx.grow g2
 refine ldI_i (x:=al) (by rw[K1.cl];rfl) (cal_of (at_spec x2 al) ?_)
 unfold peekS
 rintro _ _ ⟨rfl,⟨hno,rfl⟩|⟨j,hj,hj2,rfl,hl,rfl⟩⟩
 ·refine⟨_,rfl,fun _=>?_,fun e=>(by cases e)⟩
  rw[atS_not hno]
  exact stoV (v:=zVv) k2 rfl fun h3 k3 f3=>rd7 (Vv7.blk k3) ⟨g2.trans' f3 fun i hi e=>by omega,rfl⟩
 ·refine⟨_,rfl,fun e=>(by cases e),fun _=>ldS_i (s:=sp) (by rw[add_plain,K1.cl];rfl) ?_⟩
  rw[atS_of hj2 hl]
  obtain⟨lb,hfew,v,u,kb,hva,-⟩:=x2.bx j hj hj2
  refine cal_of (part_spec (p0:=⟨bs[j],0,none⟩) hva (by rw[add_plain];exact bx7 kb) (hpt.fr g2 fun _ _ h=>h).ints hpl) ?_
  rintro w5 _ ⟨rfl,hm⟩
  dsimp only
  cases hg:getV S.l[j].v pa with
  | error f=>
   rw[hg] at hm
   have hm:w5=.tuple #[.pointer none,.int .i64 f]:=hm
   subst hm
   exact⟨_,rfl,_,rfl,_,rfl,_,rfl,_,rfl,fun _=>stoV (v:=zVv) k2 rfl fun h3 k3 f3=>rd7 (Vv7.blk k3) ⟨g2.trans' f3 fun i hi e=>by omega,rfl⟩,fun e=>absurd (by simpa using e) (getV_err _ _ _ hg)⟩
  | ok y=>
   rw[hg] at hm
   obtain⟨p,rfl,hplc⟩:=hm
   rw[add_plain] at hplc
   refine⟨_,rfl,_,rfl,_,rfl,_,rfl,_,rfl,fun e=>(by simp at e),fun _=>⟨p,rfl,?_⟩⟩
   obtain⟨uo,huo,hyu,-⟩:=hplc.at_ (bx7 kb) hva (getV_getN pa _ _ hg)
   refine rd7 huo (cal_of (clone_spec y true _ _ uo h2 (getV_few pa _ _ hg hfew) hyu) ?_)
   rintro _ h7 ⟨f7,u',rfl,hfr⟩
   refine⟨_,_,_,u'.ps,_,u'.pa,_,rfl,?_⟩
   refine stoV (v:=u') (f7.blk k2 fun h=>h) rfl fun h8 k8 f8=>rd7 (Vv7.blk k8) ?_
   have s2:=g2.size
   have hf8:=hfr.fr f8 fun b hb=>by omega
   exact⟨(g2.trans f7).trans' f8 fun i hi e=>by have:=f1.size;omega,u',rfl,told_of_fresh xx.out s2 hf8⟩
end
end Go.Proofs.Ytggacajnmgligaa
namespace Go.Proofs.Ytggacajnmgligaa
open Go Go.Lf
set_option linter.unusedVariables false
noncomputable def er:Vl→Vl:=Vl.rec (motive_1:=fun _=>Vl) (motive_2:=fun _=>List Vl) (fun k n nm _ al pa _ ih=>.mk k n nm ih al pa 0) [] (fun _ _ a b=>a :: b)
theorem er_mk {k n:Int} {nm:ByteArray} {ts:List Vl} {al:Int} {pa:List Int} {tg:Int}:er (.mk k n nm ts al pa tg)=.mk k n nm (ts.map er) al pa 0:=by
 have e:∀ts:List Vl,(Vl.rec_1 (motive_1:=fun _=>Vl) (motive_2:=fun _=>List Vl) (fun k n nm _ al pa _ ih=>.mk k n nm ih al pa 0) [] (fun _ _ a b=>a :: b) ts:List Vl)=ts.map er:=by
  intro ts
  induction ts with
  | nil=>rfl
  | cons a ts ih=>rw[List.map_cons,←ih];rfl
 rw[←e];rfl
theorem er_iff {k n:Int} {nm:ByteArray} {ts:List Vl} {al:Int} {pa:List Int} {tg:Int} {k' n':Int} {nm':ByteArray} {ts':List Vl} {al':Int} {pa':List Int} {tg':Int} :
  er (.mk k n nm ts al pa tg)=er (.mk k' n' nm' ts' al' pa' tg')↔k=k'∧n=n'∧nm=nm'∧ts.map er=ts'.map er∧al=al'∧pa=pa':=by
 rw[er_mk,er_mk]
 simp
theorem map_el {ts us:List Vl} (h:ts.map er=us.map er):ts.length=us.length∧∀i (h1:i<ts.length) (h2:i<us.length),er ts[i]=er us[i]:=by
 refine⟨by have:=congrArg List.length h;simpa using this,fun i h1 h2=>?_⟩
 have:=congrArg (fun l=>l[i]?) h
 simpa [h1,h2] using this
theorem getV_er:∀(pa:List Int) (t u:Vl),er t=er u→(∃f,getV t pa=.error f∧getV u pa=.error f)∨∃y z,getV t pa=.ok y∧getV u pa=.ok z∧er y=er z
 | [],t,u,h=>.inr ⟨t,u,by unfold getV;rfl,by unfold getV;rfl,h⟩
 | i :: pa,.mk k n nm ts al p tg,.mk k' n' nm' ts' al' p' tg',h=>by
  obtain⟨rfl,rfl,rfl,hts,rfl,rfl⟩:=er_iff.1 h
  obtain⟨hl,hel⟩:=map_el hts
  unfold getV
  by_cases h0:k=0
  ·rw[if_pos h0,if_pos h0];exact .inl ⟨3,rfl,rfl⟩
  rw[if_neg h0,if_neg h0,←hl]
  by_cases h5:k≠5∨i<0∨(ts.length:Int)≤i
  ·rw[if_pos h5,if_pos h5];exact .inl ⟨4,rfl,rfl⟩
  rw[if_neg h5,if_neg h5]
  have hi:i.toNat<ts.length:=by omega
  rw[List.getElem?_eq_getElem hi,List.getElem?_eq_getElem (by omega)]
  exact getV_er pa _ _ (hel _ hi (by omega))
theorem whole_er:∀ {t u:Vl},er t=er u→wholeV t=wholeV u:=by
 intro t
 induction t using Vl.ind with
 | H k n nm ts al pa tg ih=>
  intro u h
  obtain⟨k',n',nm',ts',al',pa',tg'⟩:=u
  obtain⟨rfl,rfl,rfl,hts,rfl,rfl⟩:=er_iff.1 h
  rw[whole_mk,whole_mk]
  congr 1
  obtain⟨hl,hel⟩:=map_el hts
  rw[Bool.eq_iff_iff,List.all_eq_true,List.all_eq_true]
  constructor
  ·intro hall x hx
   obtain⟨i,hi,rfl⟩:=List.getElem_of_mem hx
   rw[←ih _ (List.getElem_mem (by omega)) (hel i (by omega) hi)]
   exact hall _ (List.getElem_mem _)
  ·intro hall x hx
   obtain⟨i,hi,rfl⟩:=List.getElem_of_mem hx
   rw[ih _ (List.getElem_mem hi) (hel i hi (by omega))]
   exact hall _ (List.getElem_mem _)
theorem put_er:∀(π:List Nat) {t u x y:Vl},er t=er u→er x=er y→er (putV t π x)=er (putV u π y)
 | [],t,u,x,y,_,h=>by unfold putV;exact h
 | j :: π,.mk k n nm ts al p tg,.mk k' n' nm' ts' al' p' tg',x,y,h,hx=>by
  obtain⟨rfl,rfl,rfl,hts,rfl,rfl⟩:=er_iff.1 h
  obtain⟨hl,hel⟩:=map_el hts
  unfold putV
  refine er_iff.2 ⟨rfl,rfl,rfl,?_,rfl,rfl⟩
  by_cases hj:j<ts.length
  ·rw[List.getElem?_eq_getElem hj,List.getElem?_eq_getElem (by omega)]
   simp only
   rw[List.map_set,List.map_set,put_er π (hel j hj (by omega)) hx,hts]
  ·rw[List.getElem?_eq_none (by omega),List.getElem?_eq_none (by omega)]
   exact hts
structure Sm (S X:Hs):Prop where
 len:S.l.length=X.l.length
 el:∀i (h1:i<S.l.length) (h2:i<X.l.length),S.l[i].live=X.l[i].live∧er S.l[i].v=er X.l[i].v
 live:S.live=X.live
 most:S.most=X.most
theorem Sm.at_ {S X:Hs} (m:Sm S X) (i:Int):(atS S i=none∧atS X i=none)∨∃a b,atS S i=some a∧atS X i=some b∧er a.v=er b.v∧0≤i∧i.toNat<S.l.length∧i.toNat<X.l.length:=by
 unfold atS
 by_cases h0:0≤i
 ·rw[if_pos h0,if_pos h0]
  by_cases hi:i.toNat<S.l.length
  ·have hi2:i.toNat<X.l.length:=by have:=m.len;omega
   obtain⟨e1,e2⟩:=m.el _ hi hi2
   rw[List.getElem?_eq_getElem hi,List.getElem?_eq_getElem hi2]
   simp only
   rw[←e1]
   by_cases hl:S.l[i.toNat].live=true
   ·rw[if_pos hl,if_pos hl]
    exact .inr ⟨_,_,rfl,rfl,e2,h0,hi,hi2⟩
   ·rw[if_neg hl,if_neg hl]
    exact .inl ⟨rfl,rfl⟩
  ·have:=m.len
   rw[List.getElem?_eq_none (by omega),List.getElem?_eq_none (by omega)]
   exact .inl ⟨rfl,rfl⟩
 ·rw[if_neg h0,if_neg h0];exact .inl ⟨rfl,rfl⟩
theorem Sm.set {S X:Hs} (m:Sm S X) {j:Nat} {a b:Al} {x:Int} (hl:a.live=b.live) (hv:er a.v=er b.v):Sm { S with live:=x,l:=S.l.set j a } { X with live:=x,l:=X.l.set j b }:=by
 refine⟨by simpa using m.len,fun i h1 h2=>?_,rfl,m.most⟩
 simp only[List.getElem_set]
 have h1':i<S.l.length:=by simpa using h1
 have h2':i<X.l.length:=by simpa using h2
 split
 ·exact⟨hl,hv⟩
 ·exact m.el i h1' h2'
def SmF (F G:Hs→Int→Hs×Int):Prop:=∀S X i,Sm S X→Sm (F S i).1 (G X i).1∧(F S i).2=(G X i).2
theorem drop_sm {F G:Hs→Int→Hs×Int} (hF:SmF F G):∀(t u:Vl),er t=er u→∀S X,Sm S X→Sm (dropF F t S).1 (dropF G u X).1∧(dropF F t S).2=(dropF G u X).2:=by
 intro t
 induction t using Vl.ind with
 | H k n nm ts al pa tg ih=>
  intro u h S X m
  obtain⟨k',n',nm',ts',al',pa',tg'⟩:=u
  obtain⟨rfl,rfl,rfl,hts,rfl,rfl⟩:=er_iff.1 h
  rw[drop_mk,drop_mk]
  by_cases h6:k=6
  ·rw[if_pos h6,if_pos h6];exact hF S X al m
  rw[if_neg h6,if_neg h6]
  by_cases h5:k≠5
  ·rw[if_pos h5,if_pos h5];exact⟨m,rfl⟩
  rw[if_neg h5,if_neg h5]
  clear h h6 h5
  induction ts generalizing ts' S X with
  | nil=>
   cases ts' with
   | nil=>exact⟨m,rfl⟩
   | cons a b=>simp at hts
  | cons t ts ih2=>
   cases ts' with
   | nil=>simp at hts
   | cons u us=>
    simp only[List.map_cons,List.cons.injEq] at hts
    obtain⟨m1,c1⟩:=ih t (by simp) u hts.1 S X m
    unfold dropL
    rw[c1]
    by_cases hc:(dropF G u X).2≠0
    ·rw[if_pos hc,if_pos hc];exact⟨m1,c1⟩
    ·rw[if_neg hc,if_neg hc]
     exact ih2 (fun a ha=>ih a (by simp[ha])) _ _ m1 us hts.2
theorem free_sm:∀n,SmF (freeS n) (freeS n)
 | 0=>fun S X i m=>⟨m,rfl⟩
 | n+1=>fun S X i m=>by
  unfold freeS
  rcases m.at_ i with⟨e1,e2⟩|⟨a,b,e1,e2,hv,h0,h1,h2⟩
  ·rw[e1,e2];exact⟨m,rfl⟩
  ·rw[e1,e2]
   simp only
   refine drop_sm (free_sm n) a.v b.v hv _ _ ?_
   rw[m.live]
   have:=m.set (j:=i.toNat) (a:=⟨false,zVl,[]⟩) (b:=⟨false,zVl,[]⟩) (x:=X.live - 1) rfl rfl
   exact this
def comB (a b:List Int):Bool:=(a.zip b).all fun p=>p.1 == p.2
def keepX (pa:List Int) (w:Bool) (x:Hd):Bool:=!(comB x.pa pa && (w || x.uq))
def lastI (tg:Int):List Hd→Option Nat
 | []=>none
 | x :: l=>match lastI tg l with
  | some k=>some (k+1)
  | none=>if x.tg=tg then some 0 else none
def useAlX (a:Al) (pa:List Int) (tg:Int) (w:Bool):Option Al:=
 match lastI tg a.st with
 | none=>none
 | some k=>match a.st[k]? with
  | none=>none
  | some x=>if pa.length<x.pa.length∨comB x.pa pa=false∨(w=true∧x.uq=false) then none else some { a with st:=a.st.take (k+1)++(a.st.drop (k+1)).filter (keepX pa w) }
def useX (X:Hs) (al:Int) (pa:List Int) (tg:Int) (w:Bool):Except Int Hs:=
 match atS X al with
 | none=>.error 1
 | some a=>match useAlX a pa tg w with
  | none=>.error 2
  | some a'=>.ok { X with l:=X.l.set al.toNat a' }
noncomputable def getX (X:Hs) (al:Int) (pa:List Int) (tg:Int) (w:Bool):Hs×Except Int Vl:=
 match useX X al pa tg w with
 | .error f=>(X,.error f)
 | .ok X'=>(X',getW X' al pa)
noncomputable def takeX (X:Hs) (al:Int) (pa:List Int) (tg:Int):Hs×Except Int Vl:=
 match getX X al pa tg true with
 | (X1,.error f)=>(X1,.error f)
 | (X1,.ok y)=>match atS X1 al with
  | none=>(X1,.error 1)
  | some a=>({ X1 with l:=X1.l.set al.toNat { a with v:=putV a.v (natsOf pa) zVl } },.ok y)
noncomputable def writeX (n:Nat) (X:Hs) (al:Int) (pa:List Int) (tg:Int) (x:Vl):Hs×Int:=
 match useX X al pa tg true with
 | .error f=>(X,f)
 | .ok X1=>match atS X1 al with
  | none=>(X1,1)
  | some a=>match getV a.v pa with
   | .error f=>(X1,f)
   | .ok old=>dropF (freeS n) old { X1 with l:=X1.l.set al.toNat { a with v:=putV a.v (natsOf pa) x } }
noncomputable def borrowX (X:Hs) (al:Int) (pa:List Int) (tg:Int) (u:Bool):Hs×Except Int Int:=
 match getX X al pa tg u with
 | (X1,.error f)=>(X1,.error f)
 | (X1,.ok _)=>match X1.l[al.toNat]? with
  | some a=>({ X1 with tags:=X1.tags+1,l:=X1.l.set al.toNat { a with st:=a.st++[⟨X1.tags+1,pa,u⟩] } },.ok (X1.tags+1))
  | none=>(X1,.error 1)
theorem Sm.setX {S X:Hs} (m:Sm S X) {j:Nat} {b:Al} {t:Int} (hb:∀(h:j<X.l.length),b.live=X.l[j].live∧er b.v=er X.l[j].v):Sm S { X with tags:=t,l:=X.l.set j b }:=by
 refine⟨by simpa using m.len,fun i h1 h2=>?_,m.live,m.most⟩
 have h2':i<X.l.length:=by simpa using h2
 simp only[List.getElem_set]
 obtain⟨e1,e2⟩:=m.el i h1 h2'
 split
 ·rename_i e
  subst e
  obtain⟨q1,q2⟩:=hb h2'
  exact⟨by rw[q1];exact e1,by rw[q2];exact e2⟩
 ·exact⟨e1,e2⟩
theorem useAlX_eq {a a':Al} {pa:List Int} {tg:Int} {w:Bool} (h:useAlX a pa tg w=some a'):a'.live=a.live∧a'.v=a.v∧(a.st≠[]→a'.st≠[]):=by
 unfold useAlX at h
 split at h
 ·cases h
 ·rename_i k hk
  split at h
  ·cases h
  ·rename_i x hx
   split at h
   ·cases h
   ·simp only[Option.some.injEq] at h
    subst h
    refine⟨rfl,rfl,fun hne e=>?_⟩
    have hlt:=(List.getElem?_eq_some_iff.1 hx).1
    have:=congrArg List.length e
    simp only[List.length_append,List.length_take,List.length_nil] at this
    omega
theorem useX_sm {S X X':Hs} (m:Sm S X) {al tg:Int} {pa:List Int} {w:Bool} (h:useX X al pa tg w=.ok X'):Sm S X'∧X'.tags=X.tags∧X'.watch=X.watch∧∃a b,atS S al=some a∧atS X' al=some b∧er a.v=er b.v∧0≤al∧al.toNat<S.l.length∧al.toNat<X'.l.length:=by
 unfold useX at h
 rcases m.at_ al with⟨_,e⟩|⟨a,b,e1,e2,hv,h0,h1,h2⟩
 ·rw[e] at h;cases h
 ·rw[e2] at h
  simp only at h
  split at h
  ·cases h
  ·rename_i a' ha'
   simp only[Except.ok.injEq] at h
   subst h
   obtain⟨q1,q2,_⟩:=useAlX_eq ha'
   obtain⟨j,ej,h3,e3,hlv⟩:=atS_some e2
   have hj:al.toNat=j:=by omega
   have m':Sm S { X with l:=X.l.set al.toNat a' }:=m.setX (t:=X.tags) fun hh=>by
    subst hj
    rw[e3]
    exact⟨q1,by rw[q2]⟩
   refine⟨m',rfl,rfl,?_⟩
   rcases m'.at_ al with⟨e,_⟩|⟨c,d,f1,f2,hv2,g0,g1,g2⟩
   ·rw[e1] at e;cases e
   ·exact⟨c,d,f1,f2,hv2,g0,g1,g2⟩
theorem useS_no {S:Hs} (hw:S.watch=false) {al tg:Int} {pa:List Int} {w:Bool} {a:Al} (h:atS S al=some a):useS S al pa tg w=.ok S:=by
 unfold useS
 rw[h]
 simp[hw]
theorem getW_er {S X:Hs} {al:Int} {pa:List Int} {a b:Al} (h1:atS S al=some a) (h2:atS X al=some b) (hv:er a.v=er b.v):(∃f,getW S al pa=.error f∧getW X al pa=.error f)∨∃y z,getW S al pa=.ok y∧getW X al pa=.ok z∧er y=er z:=by
 unfold getW
 rw[h1,h2]
 simp only
 rcases getV_er pa a.v b.v hv with⟨f,e1,e2⟩|⟨y,z,e1,e2,e⟩
 ·rw[e1,e2];exact .inl ⟨f,rfl,rfl⟩
 ·rw[e1,e2]
  simp only
  rw[whole_er e]
  split
  ·exact .inr ⟨y,z,rfl,rfl,e⟩
  ·exact .inl ⟨3,rfl,rfl⟩
theorem get_sm {S X X1:Hs} (m:Sm S X) (hw:S.watch=false) {al tg tg':Int} {pa:List Int} {w:Bool} {z:Vl} (h:getX X al pa tg w=(X1,.ok z)) :
  Sm S X1∧X1.tags=X.tags∧X1.watch=X.watch∧∃y,useGet S al pa tg' w=(S,.ok y)∧er y=er z∧∃a b,atS S al=some a∧atS X1 al=some b∧er a.v=er b.v∧0≤al∧al.toNat<S.l.length∧al.toNat<X1.l.length:=by
 unfold getX at h
 split at h
 ·simp at h
 ·rename_i X' hu
  simp only[Prod.mk.injEq] at h
  obtain⟨rfl,hg⟩:=h
  obtain⟨m',t1,t2,a,b,e1,e2,hv,h0,h1,h2⟩:=useX_sm m hu
  refine⟨m',t1,t2,?_⟩
  rcases getW_er (pa:=pa) e1 e2 hv with⟨f,_,g2⟩|⟨y,z',g1,g2,e⟩
  ·rw[g2] at hg;cases hg
  ·rw[g2] at hg
   simp only[Except.ok.injEq] at hg
   subst hg
   refine⟨y,?_,e,a,b,e1,e2,hv,h0,h1,h2⟩
   unfold useGet
   rw[useS_no hw e1]
   simp only
   rw[g1]
theorem take_sm {S X X1:Hs} (m:Sm S X) (hw:S.watch=false) {al tg tg':Int} {pa:List Int} {z:Vl} (h:takeX X al pa tg=(X1,.ok z)) :
  ∃S1 y,takeS S al pa tg'=(S1,.ok y)∧er y=er z∧Sm S1 X1∧S1.watch=false∧X1.watch=X.watch:=by
 unfold takeX at h
 split at h
 ·simp at h
 ·rename_i X2 y2 hg
  obtain⟨m2,t1,t2,y,eu,ey,a,b,e1,e2,hv,h0,h1,h2⟩:=get_sm (tg':=tg') m hw hg
  rw[e2] at h
  simp only[Prod.mk.injEq,Except.ok.injEq] at h
  obtain⟨rfl,rfl⟩:=h
  unfold takeS
  rw[eu]
  simp only
  rw[e1]
  simp only
  refine⟨_,_,rfl,ey,?_,hw,t2⟩
  have hlv:a.live=b.live:=by
   obtain⟨j,_,_,_,l1⟩:=atS_some e1
   obtain⟨j',_,_,_,l2⟩:=atS_some e2
   rw[l1,l2]
  have:=m2.set (j:=al.toNat) (a:={ a with v:=putV a.v (natsOf pa) zVl }) (b:={ b with v:=putV b.v (natsOf pa) zVl }) (x:=X2.live) hlv (put_er _ hv rfl)
  have e:S.live=X2.live:=m2.live
  rw[←e] at this
  simpa [e] using this
theorem write_sm {n:Nat} {S X:Hs} (m:Sm S X) (hw:S.watch=false) {al tg tg':Int} {pa:List Int} {x x':Vl} (hx:er x=er x') (h:(writeX n X al pa tg x').2=0) :
  (writeS n S al pa tg' x).2=0∧Sm (writeS n S al pa tg' x).1 (writeX n X al pa tg x').1:=by
 unfold writeX at h ⊢
 cases hu:useX X al pa tg true with
 | error f=>
  rw[hu] at h
  simp only at h
  subst h
  unfold useX at hu
  split at hu
  ·simp at hu
  ·split at hu
   ·simp at hu
   ·cases hu
 | ok X1=>
  rw[hu] at h
  simp only at h ⊢
  obtain⟨m',t1,t2,a,b,e1,e2,hv,h0,h1,h2⟩:=useX_sm m hu
  rw[e2] at h ⊢
  simp only at h ⊢
  unfold writeS
  rw[useS_no hw e1]
  simp only
  rw[e1]
  simp only
  rcases getV_er pa a.v b.v hv with⟨f,g1,g2⟩|⟨y,z,g1,g2,e⟩
  ·rw[g2] at h
   simp only at h
   exact absurd h (getV_err pa b.v f g2)
  ·rw[g2] at h ⊢
   rw[g1]
   simp only at h ⊢
   have hlv:a.live=b.live:=by
    obtain⟨j,_,_,_,l1⟩:=atS_some e1
    obtain⟨j',_,_,_,l2⟩:=atS_some e2
    rw[l1,l2]
   have ms:=m'.set (j:=al.toNat) (a:={ a with v:=putV a.v (natsOf pa) x }) (b:={ b with v:=putV b.v (natsOf pa) x' }) (x:=X1.live) hlv (put_er _ hv hx)
   have el:S.live=X1.live:=m'.live
   have ms':Sm { S with l:=S.l.set al.toNat { a with v:=putV a.v (natsOf pa) x } } { X1 with l:=X1.l.set al.toNat { b with v:=putV b.v (natsOf pa) x' } }:=by
    rw[←el] at ms
    simpa [el] using ms
   obtain⟨q1,q2⟩:=drop_sm (free_sm n) y z e _ _ ms'
   exact⟨by rw[q2];exact h,q1⟩
theorem borrow_sm {S X X1:Hs} (m:Sm S X) (hw:S.watch=false) {al tg tg':Int} {pa:List Int} {u:Bool} {t:Int} (h:borrowX X al pa tg u=(X1,.ok t)) :
  borrowS S al pa tg' u=(S,.ok 0)∧Sm S X1∧X1.watch=X.watch:=by
 unfold borrowX at h
 split at h
 ·simp at h
 ·rename_i X2 y2 hg
  obtain⟨m2,t1,t2,y,eu,ey,a,b,e1,e2,hv,h0,h1,h2⟩:=get_sm (tg':=tg') m hw hg
  rw[List.getElem?_eq_getElem h2] at h
  simp only[Prod.mk.injEq,Except.ok.injEq] at h
  obtain⟨rfl,rfl⟩:=h
  refine⟨?_,m2.setX fun hh=>⟨rfl,rfl⟩,t2⟩
  unfold borrowS
  rw[eu]
  simp[hw]
theorem alloc_sm {S X:Hs} (m:Sm S X) {t t':Vl} (h:er t=er t'):Sm (allocS S t) (allocS X t'):=by
 refine⟨by simp[allocS,m.len],fun i h1 h2=>?_,by simp[allocS,m.live],m.most⟩
 simp only[allocS]
 by_cases hi:i<S.l.length
 ·have hi2:i<X.l.length:=by have:=m.len;omega
  rw[List.getElem_append_left hi,List.getElem_append_left hi2]
  exact m.el i hi hi2
 ·have hi1:i=S.l.length:=by simp[allocS] at h1;omega
  have hi2:i=X.l.length:=by have:=m.len;omega
  rw[List.getElem_append_right (by omega),List.getElem_append_right (by omega)]
  simp[hi1,m.len,h]
theorem peek_sm {S X:Hs} (m:Sm S X) {al:Int} {pa:List Int} {z:Vl} (h:peekS X al pa=.ok z):∃y,peekS S al pa=.ok y∧er y=er z:=by
 unfold peekS at h ⊢
 rcases m.at_ al with⟨_,e⟩|⟨a,b,e1,e2,hv,_⟩
 ·rw[e] at h;cases h
 ·rw[e2] at h
  rw[e1]
  simp only at h ⊢
  rcases getV_er pa a.v b.v hv with⟨f,_,g2⟩|⟨y,z',g1,g2,e⟩
  ·rw[g2] at h;cases h
  ·rw[g2] at h
   simp only[Except.ok.injEq] at h
   subst h
   exact⟨y,g1,e⟩
end Go.Proofs.Ytggacajnmgligaa
namespace Go.Lf
open Go
set_option linter.unusedVariables false
def CsAt (h:Heap) (p:Addr) (cs:List Value):Prop:=∀(j:Nat) u,cs[j]?=some u→cl h (p.add j)=some u
theorem CsAt.fr {h h':Heap} {p:Addr} {cs:List Value} {T:Nat→Prop} (x:CsAt h p cs) (f:Fr T h h') (hT:¬T p.block):CsAt h' p cs:=fun j u hu=>f.clk (x j u hu) (by rw[add_block];exact hT)
theorem CsAt.grow {h h':Heap} {p:Addr} {cs:List Value} (x:CsAt h p cs) (f:Grow h h'):CsAt h' p cs:=x.fr f fun h=>h
theorem CsAt.blk {h:Heap} {b:Nat} {cs:Array Value} (k:blk h b cs):CsAt h ⟨b,0,none⟩ cs.toList:=fun j u hu=>by rw[add_plain,k.cl,Nat.zero_add];simpa using hu
theorem CsAt.at0 {h:Heap} {p:Addr} {c:Value} {cs:List Value} (x:CsAt h p (c :: cs)):cl h p=some c:=by
 have:=x 0 c rfl
 rwa [add_zero] at this
theorem CsAt.sub {h:Heap} {p:Addr} {cs ds:List Value} (x:CsAt h p cs) (k:Nat) (hd:∀j u,ds[j]?=some u→cs[k+j]?=some u):CsAt h (p.add k) ds:=fun j u hu=>by
 rw[add_add];exact x _ _ (hd j u hu)
structure RowsE (s:Sv) (sz n:Nat) (R:Nat→Addr→Prop):Prop where
 len:s.n=n
 at_:∀i,i<n→∃p,s.a=some p∧R i (p.add (i*sz))
theorem flat_get {α:Type} {f:α→List Value} {sz:Nat} (hf:∀a,(f a).length=sz):∀(ts:List α) (i:Nat) (hi:i<ts.length) (j:Nat) (u:Value),(f ts[i])[j]?=some u→(ts.flatMap f)[i*sz+j]?=some u
 | t :: ts,0,_,j,u,h=>by
  simp only[List.getElem_cons_zero] at h
  have hj:j<(f t).length:=by
   rcases Nat.lt_or_ge j (f t).length with e|e
   ·exact e
   ·rw[List.getElem?_eq_none e] at h;cases h
  rw[List.flatMap_cons,Nat.zero_mul,Nat.zero_add,List.getElem?_append_left hj];exact h
 | t :: ts,i+1,hi,j,u,h=>by
  have:=flat_get hf ts i (by simpa using hi) j u h
  rw[List.flatMap_cons,List.getElem?_append_right (by rw[hf,Nat.succ_mul];omega),hf,Nat.succ_mul]
  rw[show i*sz+sz+j - sz=i*sz+j by omega];exact this
theorem flat_len {α:Type} {f:α→List Value} {sz:Nat} (hf:∀a,(f a).length=sz) (ts:List α):(ts.flatMap f).length=ts.length*sz:=by
 induction ts with
 | nil=>simp
 | cons t ts ih=>rw[List.flatMap_cons,List.length_append,hf,ih,List.length_cons,Nat.succ_mul];omega
theorem own_len {h:Heap} {B sz:Nat} {s:Sv} {α:Type} {f:α→List Value} {ts:List α} (hf:∀a,(f a).length=sz) (hsz:0<sz) (o:Own h B sz s (ts.flatMap f)):s.n=ts.length:=by
 have:=o.len
 rw[flat_len hf] at this
 exact (Nat.eq_of_mul_eq_mul_right hsz this).symm
theorem own_rows {h:Heap} {B sz:Nat} {s:Sv} {α:Type} {f:α→List Value} {ts:List α} (hf:∀a,(f a).length=sz) (hsz:0<sz) (o:Own h B sz s (ts.flatMap f)) :
  RowsE s sz ts.length fun i p=>∃hi:i<ts.length,CsAt h p (f ts[i]):=by
 have hn:=own_len hf hsz o
 refine⟨hn,fun i hi=>?_⟩
 obtain⟨g,e⟩:=own_addr o (by omega)
 refine⟨_,e,hi,fun j u hu=>?_⟩
 rw[add_add]
 have hr:=o.row
 rw[e] at hr
 exact hr _ _ (flat_get hf ts i hi j u hu)
theorem own_weak {h:Heap} {B B' sz:Nat} {s:Sv} {xs:List Value} (o:Own h B sz s xs) (hB:B'≤B):Own h B' sz s xs:=
 ⟨o.len,o.mem.imp id fun ⟨g,cur,e,hg,r⟩=>⟨g,cur,e,by omega,r⟩⟩
theorem one_flat {α:Type} {f:α→List Value} (hf:∀a,∀u∈f a,u.oneCell'=true) (l:List α):∀u∈l.flatMap f,u.oneCell'=true:=by
 intro u hu
 obtain⟨a,_,h⟩:=List.mem_flatMap.1 hu
 exact hf a u h
theorem own_new1 {E:TypeId} {h:Heap} {B sz:Nat} {cs:Array Value} (hB:B≤h.size) (hs:cs.size=sz):Own (h.push (.cells cs E)) B sz ⟨some ⟨h.size,0,none⟩,1,1⟩ cs.toList:=by
 subst hs
 exact⟨by simp,.inr ⟨h.size,cs,rfl,hB,blk.new h cs E,Nat.le_refl _,(Nat.one_mul _).symm,by rw[Nat.one_mul,←Array.length_toList];exact List.take_length⟩⟩
theorem own_stoC {h:Heap} {B sz:Nat} {s:Sv} {xs:List Value} (o:Own h B sz s xs) {c:Nat} (hc:c<s.n*sz) {v:Value} (h1:v.oneCell'=true) {p:Addr} (hp:s.a=some p) {K:Heap→Prop}
  (k:∀h',Own h' B sz s (xs.set c v)→Fr s.own h h'→K h'):sto h (p.add c) v K:=by
 rcases o.mem with⟨e,e2,_⟩|⟨g,cur,e,hB,kk,hn,hs,ht⟩
 ·rw[e] at hp;cases hp
 ·rw[e] at hp
  simp only[Option.some.injEq] at hp
  subst hp
  have hcc:c<cur.size:=by rw[hs];exact Nat.lt_of_lt_of_le hc (Nat.mul_le_mul_right _ hn)
  rw[add_plain,Nat.zero_add]
  refine sto_i kk hcc (k _ ⟨by rw[List.length_set];exact o.len,.inr ⟨g,_,e,hB,kk.sc c v,hn,by simp[hs],?_⟩⟩ ((Fr.scb h g c v).mono fun i _ hi=>⟨_,e,hi.symm⟩))
  rw[←ht]
  simp[List.take_set]
theorem flat_set {α:Type} {f:α→List Value} {sz:Nat} (hf:∀a,(f a).length=sz) {c:Nat} {v:Value} {a':α}:∀(l:List α) (i:Nat) (hi:i<l.length),(f l[i]).set c v=f a'→c<sz→(l.flatMap f).set (i*sz+c) v=(l.set i a').flatMap f
 | a :: l,0,_,he,hc=>by
  simp only[List.getElem_cons_zero] at he
  rw[List.set_cons_zero,List.flatMap_cons,List.flatMap_cons,Nat.zero_mul,Nat.zero_add,List.set_append_left _ _ (by rw[hf];exact hc),he]
 | a :: l,i+1,hi,he,hc=>by
  have:=flat_set hf l i (by simpa using hi) (by simpa using he) hc
  rw[List.set_cons_succ,List.flatMap_cons,List.flatMap_cons,List.set_append_right _ _ (by rw[hf,Nat.succ_mul];omega),hf,←this]
  congr 2
  rw[Nat.succ_mul];omega
theorem own_empty {h:Heap} {B sz:Nat} {E:TypeId} (hB:B≤h.size):Own (h.push (.cells #[] E)) B sz ⟨some ⟨h.size,0,none⟩,0,0⟩ []:=
 ⟨by simp,.inr ⟨h.size,#[],rfl,hB,blk.new h #[] E,Nat.le_refl _,by simp,by simp⟩⟩
theorem rows_row {α:Type} {f:α→List Value} {sz:Nat} {h:Heap} {s:Sv} {ts:List α} (hf:∀a,(f a).length=sz) (hsz:0<sz) (r:RowsE s sz ts.length fun i p=>∃hi:i<ts.length,CsAt h p (f ts[i])):RowO h s.a (ts.flatMap f):=by
 have key:∀(j:Nat) v,(ts.flatMap f)[j]?=some v→∃p,s.a=some p∧cl h (p.add j)=some v:=fun j v hv=>by
  have hj:j<ts.length*sz:=by
   have:=(List.getElem?_eq_some_iff.1 hv).1
   rwa [flat_len hf] at this
  have hi:j / sz<ts.length:=Nat.div_lt_of_lt_mul (by rwa [Nat.mul_comm] at hj)
  have hr:j % sz<(f ts[j / sz]).length:=by rw[hf];exact Nat.mod_lt _ hsz
  have e:=flat_get hf ts (j / sz) hi (j % sz) _ (List.getElem?_eq_getElem hr)
  have ej:j / sz*sz+j % sz=j:=by rw[Nat.mul_comm];exact Nat.div_add_mod j sz
  rw[ej,hv] at e
  obtain⟨p,ep,_,c⟩:=r.at_ _ hi
  refine⟨p,ep,?_⟩
  have:=c (j % sz) _ (List.getElem?_eq_getElem hr)
  rw[add_add,ej] at this
  rw[this,←e]
 cases hs:s.a with
 | none=>
  cases ht:ts.flatMap f with
  | nil=>rfl
  | cons v l=>
   obtain⟨p,e,_⟩:=key 0 v (by rw[ht];rfl)
   rw[hs] at e;cases e
 | some p=>
  intro j v hv
  obtain⟨p',e,c⟩:=key j v hv
  rw[hs] at e
  obtain rfl:p=p':=by simpa using e
  exact c
end Go.Lf
namespace Go.Proofs.Ytggacajnmgligaa
open Go Go.Lf
set_option linter.unusedVariables false
structure Rw where
 live:Bool
 v:Vv
 t:Sv
abbrev rwc (r:Rw):List Value:=[.bool r.live,.int .i64 r.v.k,.int .u64 r.v.n,.string r.v.nm,.slice r.v.ps.a r.v.ps.n r.v.ps.c,.int .i64 r.v.al,.slice r.v.pa.a r.v.pa.n r.v.pa.c,.int .i64 r.v.tg,.slice r.t.a r.t.n r.t.c]
theorem rwc_len (r:Rw):(rwc r).length=9:=rfl
theorem one_rw (r:Rw):∀u∈rwc r,u.oneCell'=true:=by
 intro u hu
 simp only[List.mem_cons,List.not_mem_nil,or_false] at hu
 rcases hu with rfl|rfl|rfl|rfl|rfl|rfl|rfl|rfl|rfl<;>rfl
structure SkAt (Q:Nat→Prop) (h:Heap) (st:List Hd) (t:Sv):Prop where
 rows:RowsE t 3 st.length fun i p=>Q p.block∧∃(hi:i<st.length) (u:Sv),CsAt h p [.int .i64 st[i].tg,.slice u.a u.n u.c,.bool st[i].uq]∧IntsC Q h u st[i].pa
theorem SkAt.fr {Q T:Nat→Prop} {h h':Heap} {st:List Hd} {t:Sv} (x:SkAt Q h st t) (f:Fr T h h') (hT:∀b,Q b→¬T b):SkAt Q h' st t:=
 ⟨x.rows.len,fun i hi=>by
  obtain⟨p,e,q,hi,u,c,d⟩:=x.rows.at_ i hi
  exact⟨p,e,q,hi,u,c.fr f (hT _ q),d.fr f hT⟩⟩
theorem SkAt.weak {Q Q':Nat→Prop} {h:Heap} {st:List Hd} {t:Sv} (x:SkAt Q h st t) (hq:∀b,Q b→Q' b):SkAt Q' h st t:=
 ⟨x.rows.len,fun i hi=>by
  obtain⟨p,e,q,hi,u,c,d⟩:=x.rows.at_ i hi
  exact⟨p,e,hq _ q,hi,u,c,d.weak fun b hb _=>hq b hb⟩⟩
theorem SkAt.nil (Q:Nat→Prop) (h:Heap):SkAt Q h [] ⟨none,0,0⟩:=⟨rfl,fun i hi=>by simp at hi⟩
structure RAt (Q:Nat→Prop) (h:Heap) (hp:Nat) (X:Hs) (s:Sv) (rs:List Rw):Prop where
 hd:blk h hp #[.slice s.a s.n s.c,.int .i64 X.tags,.int .i64 X.most,.bool true]
 own:Own h 0 9 s (rs.flatMap rwc)
 ne:¬s.own hp
 len:rs.length=X.l.length
 el:∀i (h1:i<X.l.length) (h2:i<rs.length),rs[i].live=X.l[i].live∧VAt false Q h X.l[i].v (anyA Q) rs[i].v∧SkAt Q h X.l[i].st rs[i].t
 q:∀b,Q b→b≠hp∧¬s.own b
theorem RAt.fr {Q T:Nat→Prop} {h h':Heap} {hp:Nat} {X:Hs} {s:Sv} {rs:List Rw} (x:RAt Q h hp X s rs) (f:Fr T h h') (h1:¬T hp) (h2:∀b,s.own b→¬T b) (h3:∀b,Q b→¬T b):RAt Q h' hp X s rs:=
 ⟨f.blk x.hd h1,x.own.frame f h2,x.ne,x.len,fun i i1 i2=>⟨(x.el i i1 i2).1,(x.el i i1 i2).2.1.fr f h3 (fun _ b hb=>h3 b hb),(x.el i i1 i2).2.2.fr f h3⟩,x.q⟩
theorem RAt.grow {Q:Nat→Prop} {h h':Heap} {hp:Nat} {X:Hs} {s:Sv} {rs:List Rw} (x:RAt Q h hp X s rs) (f:Grow h h'):RAt Q h' hp X s rs:=x.fr f (fun h=>h) (fun _ _ h=>h) fun _ _ h=>h
theorem RAt.weak {Q Q':Nat→Prop} {h:Heap} {hp:Nat} {X:Hs} {s:Sv} {rs:List Rw} (x:RAt Q h hp X s rs) (hq:∀b,Q b→Q' b) (hq2:∀b,Q' b→b≠hp∧¬s.own b):RAt Q' h hp X s rs:=
 ⟨x.hd,x.own,x.ne,x.len,fun i i1 i2=>⟨(x.el i i1 i2).1,(x.el i i1 i2).2.1.weak (fun b hb _=>hq b hb) (fun h=>h) fun _ b hb _=>hq b hb,(x.el i i1 i2).2.2.weak hq⟩,hq2⟩
section
variable {Q:Nat→Prop} {h:Heap} {hp:Nat} {X:Hs} {s:Sv} {rs:List Rw}
theorem RAt.n (x:RAt Q h hp X s rs):s.n=X.l.length:=by rw[own_len rwc_len (by omega) x.own,x.len]
theorem RAt.row (x:RAt Q h hp X s rs) {i:Nat} (hi:i<X.l.length):∃p,s.a=some p∧∃h2:i<rs.length,CsAt h (p.add (i*9)) (rwc rs[i]):=by
 have:=x.len
 obtain⟨p,e,h2,c⟩:=(own_rows rwc_len (by omega) x.own).at_ i (by omega)
 exact⟨p,e,h2,c⟩
theorem refInts_spec {a b:Sv} {xs ys:List Int} (x:IntsAt h a xs) (y:IntsAt h b ys) (hl:xs.length≤1000000):CallsH Try.prog 57 #[.slice a.a a.n a.c,.slice b.a b.n b.c] h (fun v h'=>h=h'∧v=.bool (decide (xs=ys))):=by
 apply F57
 unfold L57
 have ha:=x.len
 have hb:=y.len
 refine ifb_iff (q:=xs.length≠ys.length) (by rw[ha,hb];simp;omega) (fun hne=>⟨rfl,?_⟩) (fun heq=>?_)
 ·rw[decide_eq_false fun e=>hne (by rw[e])]
 have heq:xs.length=ys.length:=Classical.not_not.1 heq
 refine⟨fun i=>∃k:Nat,i=k∧k≤xs.length∧xs.take k=ys.take k,fun i=>xs.length - i.toNat,⟨0,rfl,Nat.zero_le _,rfl⟩,?_⟩
 rintro _ ⟨k,rfl,hk,hk2⟩
 refine ifb_iff (q:=k<xs.length) (by rw[ha];simp) (fun hlt=>?_) (fun hge=>?_)
 ·obtain⟨p,ep,c⟩:=x.at_ k hlt
  obtain⟨q,eq,d⟩:=y.at_ k (by omega)
  refine⟨p,ep,by omega,by rw[ha];omega,xs[k],by rw[Int.toNat_natCast];exact c,q,eq,by omega,by rw[hb];omega,ys[k],by rw[Int.toNat_natCast];exact d,?_⟩
  refine ifb_iff (q:=xs[k]≠ys[k]) (by simp) (fun hne=>⟨rfl,?_⟩) (fun he=>?_)
  ·rw[decide_eq_false]
   intro e
   subst e
   exact hne rfl
  ·have he:xs[k]=ys[k]:=Classical.not_not.1 he
   rw[wrap_succ hlt (by omega)]
   refine⟨⟨k+1,rfl,hlt,?_⟩,by simp;omega⟩
   rw[List.take_succ_eq_append_getElem hlt,List.take_succ_eq_append_getElem (by omega),hk2,he]
 ·obtain rfl:k=xs.length:=by omega
  rw[List.take_length,heq,List.take_length] at hk2
  exact⟨rfl,by rw[decide_eq_true hk2]⟩
theorem zip_take {xs ys:List Int} {k:Nat} (h1:k<xs.length) (h2:k<ys.length):(xs.zip ys).take (k+1)=(xs.zip ys).take k++[(xs[k],ys[k])]:=by
 rw[List.take_succ_eq_append_getElem (by simp;omega)]
 simp
theorem common_spec {a b:Sv} {xs ys:List Int} (x:IntsAt h a xs) (y:IntsAt h b ys) (hl:xs.length≤1000000):CallsH Try.prog 62 #[.slice a.a a.n a.c,.slice b.a b.n b.c] h (fun v h'=>h=h'∧v=.bool (comB xs ys)):=by
 apply F62
 unfold L62
 have ha:=x.len
 have hb:=y.len
 refine⟨fun i=>∃k:Nat,i=k∧k≤xs.length∧k≤ys.length∧((xs.zip ys).take k).all (fun p=>p.1 == p.2)=true,fun i=>xs.length - i.toNat,⟨0,rfl,Nat.zero_le _,Nat.zero_le _,rfl⟩,?_⟩
 rintro _ ⟨k,rfl,hk,hk2,hall⟩
 refine ifb_iff (q:=k<xs.length∧k<ys.length) (by rw[ha,hb];simp) (fun hlt=>?_) (fun hge=>?_)
 ·obtain⟨p,ep,c⟩:=x.at_ k hlt.1
  obtain⟨q,eq,d⟩:=y.at_ k hlt.2
  refine⟨p,ep,by omega,by rw[ha];omega,xs[k],by rw[Int.toNat_natCast];exact c,q,eq,by omega,by rw[hb];omega,ys[k],by rw[Int.toNat_natCast];exact d,?_⟩
  refine ifb_iff (q:=xs[k]≠ys[k]) (by simp) (fun hne=>⟨rfl,?_⟩) (fun he=>?_)
  ·have:comB xs ys=false:=by
    unfold comB
    rw[List.all_eq_false]
    refine⟨(xs[k],ys[k]),?_,by simpa using hne⟩
    rw[List.mem_iff_getElem]
    exact⟨k,by simp;omega,by simp⟩
   rw[this]
  ·have he:xs[k]=ys[k]:=Classical.not_not.1 he
   rw[wrap_succ hlt.1 (by omega)]
   refine⟨⟨k+1,rfl,hlt.1,hlt.2,?_⟩,by simp;omega⟩
   rw[zip_take hlt.1 hlt.2,List.all_append,hall]
   simp[he]
 ·have:comB xs ys=true:=by
   unfold comB
   rw[List.take_of_length_le (by simp;omega)] at hall
   exact hall
  exact⟨rfl,by rw[this]⟩
theorem there_spec (x:RAt Q h hp X s rs) (i:Int):CallsH Try.prog 55 #[ptr hp,.int .i64 i] h (fun v h'=>h=h'∧v=.bool (atS X i).isSome):=by
 apply F55
 unfold L55
 have hn:=x.n
 have hs:cl h ⟨hp,0,none⟩=some (.slice s.a s.n s.c):=by rw[x.hd.cl];rfl
 refine⟨fun c=>c=decide (0≤i∧i<X.l.length),⟨fun e=>⟨_,rfl,ldS_i (s:=s) hs (by rw[hn];simp at e;simp[e])⟩,fun e=>by simp at e;simp;omega⟩,?_⟩
 rintro _ rfl
 refine⟨fun c=>c=(atS X i).isSome,⟨fun e=>?_,fun e=>?_⟩,?_⟩
 ·have e:=of_decide_eq_true e
  obtain⟨k,rfl⟩:=Int.eq_ofNat_of_zero_le e.1
  have hk:k<X.l.length:=by omega
  obtain⟨p,ep,h2,c⟩:=x.row hk
  refine⟨_,rfl,ldS_i (s:=s) hs ⟨p,ep,by omega,by rw[hn];omega,rs[k].live,by rw[Int.toNat_natCast];exact c.at0,?_⟩⟩
  rw[(x.el k hk h2).1]
  unfold atS
  rw[if_pos (by omega),Int.toNat_natCast,List.getElem?_eq_getElem hk]
  cases hl:X.l[k].live<;>simp[hl]
 ·have e:=of_decide_eq_false e
  unfold atS
  by_cases h0:0≤i
  ·rw[if_pos h0,List.getElem?_eq_none (by omega)];rfl
  ·rw[if_neg h0];rfl
 ·rintro _ rfl
  exact⟨rfl,rfl⟩
theorem refLive_spec (x:RAt Q h hp X s rs) (hl:X.l.length≤1000000):CallsH Try.prog 56 #[ptr hp] h (fun v h'=>h=h'∧v=.int .i64 (liveN X:Int)):=by
 apply F56
 unfold L56
 have hn:=x.n
 have hs:cl h ⟨hp,0,none⟩=some (.slice s.a s.n s.c):=by rw[x.hd.cl];rfl
 refine⟨fun n i=>∃k:Nat,i=k∧k≤X.l.length∧n=(((X.l.take k).countP (fun a=>a.live):Nat):Int),fun _ i=>X.l.length - i.toNat,⟨0,rfl,Nat.zero_le _,rfl⟩,?_⟩
 rintro _ _ ⟨k,rfl,hk,rfl⟩
 refine⟨_,rfl,ldS_i (s:=s) hs ?_⟩
 have hc:=List.countP_le_length (p:=fun a:Al=>a.live) (l:=X.l.take k)
 rw[List.length_take] at hc
 refine ifb_iff (q:=k<X.l.length) (by rw[hn];simp) (fun hlt=>?_) (fun hge=>?_)
 ·obtain⟨p,ep,h2,c⟩:=x.row hlt
  have htk:(X.l.take (k+1)).countP (fun a=>a.live)=(X.l.take k).countP (fun a=>a.live)+(if X.l[k].live=true then 1 else 0):=by
   rw[List.take_succ_eq_append_getElem hlt,List.countP_append]
   simp[List.countP_cons]
  refine⟨fun n=>n=(((X.l.take (k+1)).countP (fun a=>a.live):Nat):Int),⟨_,rfl,ldS_i (s:=s) hs ⟨p,ep,by omega,by rw[hn];omega,rs[k].live,by rw[Int.toNat_natCast];exact c.at0,?_⟩⟩,?_⟩
  ·rw[(x.el k hlt h2).1,htk]
   refine⟨fun e=>?_,fun e=>?_⟩
   ·rw[if_pos e,wrap64_id (by omega) (by omega)];omega
   ·rw[if_neg (by rw[e];simp)];rfl
  ·rintro _ rfl
   rw[wrap_succ hlt (by omega)]
   exact⟨⟨k+1,rfl,hlt,rfl⟩,by simp;omega⟩
 ·obtain rfl:k=X.l.length:=by omega
  rw[List.take_length]
  exact⟨rfl,rfl⟩
end
end Go.Proofs.Ytggacajnmgligaa
namespace Go.Proofs.Ytggacajnmgligaa
open Go Go.Lf
set_option linter.unusedVariables false
theorem lastI_snoc (tg:Int) (x:Hd):∀l:List Hd,lastI tg (l++[x])=if x.tg=tg then some l.length else lastI tg l
 | []=>by simp[lastI]
 | y :: l=>by
  rw[List.cons_append]
  unfold lastI
  rw[lastI_snoc tg x l]
  by_cases h:x.tg=tg
  ·rw[if_pos h,if_pos h];simp
  ·rw[if_neg h,if_neg h]
theorem lastI_lt (tg:Int):∀(l:List Hd) (k:Nat),lastI tg l=some k→k<l.length
 | [],k,h=>by simp[lastI] at h
 | y :: l,k,h=>by
  unfold lastI at h
  split at h
  ·rename_i j hj
   have:=lastI_lt tg l j hj
   simp at h;simp;omega
  ·split at h
   ·simp at h;simp;omega
   ·cases h
def lastZ (tg:Int) (l:List Hd):Int:=match lastI tg l with
 | some k=>k
 | none=>-1
abbrev hzc (z:Hd×Sv):List Value:=[.int .i64 z.1.tg,.slice z.2.a z.2.n z.2.c,.bool z.1.uq]
theorem hzc_len (z:Hd×Sv):(hzc z).length=3:=rfl
theorem one_hz (z:Hd×Sv):∀u∈(hzc z).toArray.toList,u.oneCell'=true:=by
 intro u hu
 simp only[List.mem_cons,List.not_mem_nil,or_false] at hu
 rcases hu with rfl|rfl|rfl<;>rfl
def keptL (pa:List Int) (w:Bool) (j:Nat) (st:List Hd) (q:Nat):List Hd:=(st.take (min q (j+1)))++((st.take q).drop (j+1)).filter (keepX pa w)
theorem keptL_lo {pa:List Int} {w:Bool} {j q:Nat} {st:List Hd} (hq:q<st.length) (h:q≤j):keptL pa w j st (q+1)=keptL pa w j st q++[st[q]]:=by
 unfold keptL
 rw[Nat.min_eq_left (by omega),Nat.min_eq_left (by omega),List.drop_of_length_le (by simp;omega),List.drop_of_length_le (by simp;omega),List.take_succ_eq_append_getElem hq]
 simp
theorem keptL_hi {pa:List Int} {w:Bool} {j q:Nat} {st:List Hd} (hq:q<st.length) (h:j<q):keptL pa w j st (q+1)=keptL pa w j st q++(if keepX pa w st[q]=true then [st[q]] else []):=by
 unfold keptL
 rw[Nat.min_eq_right (by omega),Nat.min_eq_right (by omega),List.take_succ_eq_append_getElem hq,List.drop_append_of_le_length (by simp;omega),List.filter_append,List.append_assoc]
 congr 2
 cases hk:keepX pa w st[q]<;>simp[hk]
theorem keptL_len (pa:List Int) (w:Bool) (j:Nat) (st:List Hd) (q:Nat):(keptL pa w j st q).length≤st.length:=by
 unfold keptL
 have:=List.length_filter_le (keepX pa w) ((st.take q).drop (j+1))
 simp only[List.length_append,List.length_take,List.length_drop] at this ⊢
 omega
section
variable {Q:Nat→Prop} {h:Heap} {hp:Nat} {X:Hs} {s:Sv} {rs:List Rw}
theorem refUse_spec (x:RAt Q h hp X s rs) {al tg:Int} {sp:Sv} {pa:List Int} (hpt:IntsC Q h sp pa) (hpl:pa.length≤1000000) (hst:∀a∈X.l,a.st.length≤1000000∧∀d∈a.st,d.pa.length≤1000000) (hX:X.l.length≤1000000) (w:Bool) :
  CallsH Try.prog 52 #[ptr hp,.agg (pvs al sp tg),.bool w] h (fun v h'=>Fr s.own h h'∧match useX X al pa tg w with
   | .error f=>v=.int .i64 f∧RAt Q h' hp X s rs
   | .ok X'=>v=.int .i64 0∧∃(Q':Nat→Prop) (rs':List Rw),(∀b,Q b→Q' b)∧(∀b,Q' b→Q b∨(h.size≤b∧b<h'.size))∧RAt Q' h' hp X' s rs'):=by
 apply F52
 unfold L52
 have hn:=x.n
 refine newPt fun h1 k4 f1 z1=>?_
 have x1:=x.grow f1
 have c1:cl h1 ⟨h.size,0,none⟩=some (.int .i64 al):=by rw[k4.cl];rfl
 refine ldI_i c1 ?_
 refine cal_of (there_spec x1 al) ?_
 rintro _ _ ⟨rfl,rfl⟩
 refine⟨_,rfl,?_⟩
 have toO:∀ {a b:Heap},Grow a b→Fr s.own a b:=fun g=>g.mono fun _ _ h=>h.elim
 cases hat:atS X al with
 | none=>
  refine⟨fun _=>?_,fun e=>(by cases e)⟩
  unfold useX
  rw[hat]
  exact⟨toO f1,rfl,x1⟩
 | some a=>
 refine⟨fun e=>(by cases e),fun _=>?_⟩
 obtain⟨j,rfl,hj,ea,hlive⟩:=atS_some hat
 have hs:∀ {hh:Heap},Grow h1 hh→cl hh ⟨hp,0,none⟩=some (.slice s.a s.n s.c):=fun f=>by rw[(f.blk x1.hd fun h=>h).cl];rfl
 refine⟨_,rfl,ldB_i (x:=true) (by rw[add_plain,x1.hd.cl];rfl) ⟨fun e=>(by cases e),fun _=>?_⟩⟩
 refine⟨_,rfl,ldS_i (s:=s) (hs (Fr.refl _ _)) (ldI_i c1 ?_)⟩
 obtain⟨p,ep,hr,c⟩:=x1.row hj
 obtain⟨el1,el2,sk⟩:=x1.el j hj hr
 refine⟨p,ep,by omega,by rw[hn];omega,?_⟩
 rw[Int.toNat_natCast]
 refine ldS_i (s:=rs[j].t) (c 8 _ rfl) ?_
 have hst1:=hst _ (List.getElem_mem hj)
 rw[ea] at sk hst1
 have tn:=sk.rows.len
 generalize hst':a.st=st at sk hst1 tn
 generalize hrow:rs[j]=row at sk tn
 have ct:cl h1 ((⟨h.size,0,none⟩:Addr).add 2)=some (.int .i64 tg):=by rw[add_plain,k4.cl];rfl
 have cp:∀ {hh:Heap},Grow h1 hh→cl hh ((⟨h.size,0,none⟩:Addr).add 1)=some (.slice sp.a sp.n sp.c):=fun f=>by rw[add_plain,(f.blk k4 fun h=>h).cl];rfl
 have hpt1:=hpt.fr f1 fun _ _ h=>h
 refine⟨fun vat i=>∃k:Nat,i=k∧k≤st.length∧vat=lastZ tg (st.take k),fun _ i=>st.length - i.toNat,⟨0,rfl,Nat.zero_le _,rfl⟩,?_⟩
 rintro _ _ ⟨k,rfl,hk,rfl⟩
 refine ifb_iff (q:=k<st.length) (by rw[tn];simp) (fun hlt=>?_) (fun hge=>?_)
 ·obtain⟨pk,epk,_,hk',u,ck,_⟩:=sk.rows.at_ k hlt
  refine⟨fun v=>v=lastZ tg (st.take (k+1)),?_,?_⟩
  ·refine⟨pk,epk,by omega,by rw[tn];omega,st[k].tg,by rw[Int.toNat_natCast];exact ck.at0,ldI_i ct ?_⟩
   have e:lastZ tg (st.take (k+1))=if st[k].tg=tg then (k:Int) else lastZ tg (st.take k):=by
    unfold lastZ
    rw[List.take_succ_eq_append_getElem hlt,lastI_snoc]
    by_cases h:st[k].tg=tg
    ·rw[if_pos h,if_pos h];simp;omega
    ·rw[if_neg h,if_neg h]
   rw[e]
   exact ifb_iff (q:=st[k].tg=tg) (by simp) (fun h=>by rw[if_pos h]) (fun h=>by rw[if_neg h])
  ·rintro _ rfl
   rw[wrap_succ hlt (by omega)]
   exact⟨⟨k+1,rfl,hlt,rfl⟩,by simp;omega⟩
 obtain rfl:k=st.length:=by omega
 rw[List.take_length]
 have hu:useX X (j:Int) pa tg w=match lastI tg st with
   | none=>.error 2
   | some k=>match st[k]? with
    | none=>.error 2
    | some y=>if pa.length<y.pa.length∨comB y.pa pa=false∨(w=true∧y.uq=false) then .error 2 else .ok { X with l:=X.l.set j { a with st:=st.take (k+1)++(st.drop (k+1)).filter (keepX pa w) } }:=by
  unfold useX useAlX
  rw[hat]
  simp only[hst',Int.toNat_natCast]
  cases lastI tg st with
  | none=>rfl
  | some k=>
   simp only
   cases st[k]? with
   | none=>rfl
   | some y=>
    simp only
    by_cases hb:pa.length<y.pa.length∨comB y.pa pa=false∨(w=true∧y.uq=false)
    ·rw[if_pos hb,if_pos hb]
    ·rw[if_neg hb,if_neg hb]
 rw[hu]
 cases hla:lastI tg st with
 | none=>
  have ez:lastZ tg st=-1:=by unfold lastZ;rw[hla]
  rw[ez]
  refine⟨fun c hh=>c=true∧Grow h1 hh,⟨fun hh=>Grow h1 hh,Fr.refl _ _,(fun _=>⟨rfl,Fr.refl _ _⟩),fun e=>by simp at e⟩,?_⟩
  rintro _ h4 ⟨rfl,f4⟩
  exact⟨fun _=>⟨toO (f1.trans f4),rfl,x1.grow f4⟩,fun e=>by cases e⟩
 | some k=>
 have ez:lastZ tg st=(k:Int):=by unfold lastZ;rw[hla]
 have hkl:=lastI_lt tg st k hla
 rw[ez]
 simp only
 rw[List.getElem?_eq_getElem hkl]
 simp only
 obtain⟨pk,epk,qk,hk',u,ck,du⟩:=sk.rows.at_ k hkl
 have un:=du.len
 have spn:=hpt1.len
 generalize hbad:decide (pa.length<st[k].pa.length∨comB st[k].pa pa=false∨(w=true∧st[k].uq=false))=bad
 refine⟨fun c hh=>c=bad∧Grow h1 hh,⟨fun hh=>Grow h1 hh,Fr.refl _ _,?_⟩,?_⟩
 ·refine⟨fun e=>by simp at e;omega,fun _=>?_⟩
  refine⟨pk,epk,by omega,by rw[tn];omega,?_⟩
  rw[Int.toNat_natCast]
  refine⟨u,fun hh f=>f.clk (ck 1 _ rfl) fun h=>h,ldS_i (s:=sp) (cp (Fr.refl _ _)) ?_⟩
  refine ifb_iff (q:=pa.length<st[k].pa.length) (by rw[un,spn];simp) (fun hlt=>⟨by rw[←hbad,decide_eq_true (.inl hlt)],Fr.refl _ _⟩) (fun hge=>?_)
  refine⟨pk,epk,by omega,by rw[tn];omega,?_⟩
  dsimp only
  refine ldS_i (s:=u) (ck 1 _ rfl) (ldS_i (s:=sp) (cp (Fr.refl _ _)) ?_)
  refine cal_of (common_spec du.ints hpt1.ints (hst1.2 _ (List.getElem_mem hk'))) ?_
  rintro _ _ ⟨rfl,rfl⟩
  refine⟨_,rfl,?_⟩
  refine⟨fun e=>?_,fun e=>?_⟩
  ·refine⟨?_,Fr.refl _ _⟩
   rw[←hbad,decide_eq_true (.inr (.inl (by simpa using e)))]
  ·refine⟨fun ew=>?_,fun ew=>?_⟩
   ·refine⟨pk,epk,by omega,by rw[tn];omega,st[k].uq,ck 2 _ rfl,?_,Fr.refl _ _⟩
    rw[←hbad,Bool.eq_iff_iff]
    simp at e
    simp[ew,e,hge]
   ·refine⟨?_,Fr.refl _ _⟩
    rw[←hbad,eq_comm,decide_eq_false_iff_not]
    simp at e
    simp[ew,e]
    omega
 rintro b0 h4 ⟨eb0,f4⟩
 rw[eb0]
 clear eb0
 have hbad2:(pa.length<st[k].pa.length∨comB st[k].pa pa=false∨(w=true∧st[k].uq=false))↔bad=true:=by rw[←hbad];simp
 refine⟨fun e=>?_,fun e=>?_⟩
 ·rw[if_pos (hbad2.2 e)]
  exact⟨toO (f1.trans f4),rfl,x1.grow f4⟩
 rw[if_neg (fun hh=>by rw[hbad2.1 hh] at e;cases e)]
 simp only
 have hpt4:=hpt1.fr f4 fun _ _ h=>h
 have sk4:=sk.fr f4 fun _ _ h=>h
 have x4:=x1.grow f4
 refine⟨fun kp i hh=>∃(q:Nat) (zs:List (Hd×Sv)),i=q∧q≤st.length∧Grow h4 hh∧Own hh h4.size 3 kp (zs.flatMap hzc)∧zs.map (·.1)=keptL pa w k st q∧∀z∈zs,IntsC Q h4 z.2 z.1.pa,fun _ i _=>st.length - i.toNat,⟨0,[],rfl,Nat.zero_le _,Fr.refl _ _,Own.nil _ _ _,by simp[keptL],by simp⟩,?_⟩
 rintro kp _ h5 ⟨q,zs,rfl,hq,f5,o5,ezs,hzs⟩
 have hzl:zs.length≤st.length:=by
  have:=keptL_len pa w k st q
  rw[←ezs] at this
  simpa using this
 have kpn:=own_len hzc_len (by omega) o5
 have hst1':=hst1.1
 refine ifb_iff (q:=q<st.length) (by rw[tn];simp) (fun hql=>?_) (fun hql=>?_)
 ·obtain⟨pq,epq,qq,hq',uq,cq,dq⟩:=(sk4.fr f5 fun _ _ h=>h).rows.at_ q hql
  have dq4:IntsC Q h4 uq st[q].pa:=by
   obtain⟨pq',epq',_,_,uq',cq',dq'⟩:=sk4.rows.at_ q hql
   rw[epq'] at epq
   obtain rfl:pq'=pq:=by simpa using epq
   have:=f5.clk (cq' 1 _ rfl) fun h=>h
   rw[cq 1 _ rfl] at this
   simp at this
   obtain⟨q1,q2,q3⟩:=this
   have:uq=uq':=by cases uq;cases uq';simp_all
   rw[this];exact dq'
  refine⟨fun kp' hh=>∃zs':List (Hd×Sv),Grow h4 hh∧Own hh h4.size 3 kp' (zs'.flatMap hzc)∧zs'.map (·.1)=keptL pa w k st (q+1)∧∀z∈zs',IntsC Q h4 z.2 z.1.pa,?_,?_⟩
  rotate_left
  ·rintro kp' h10 ⟨zs',a1,a2,a3,a4⟩
   rw[wrap_succ hql (by omega)]
   exact⟨⟨q+1,zs',rfl,hql,a1,a2,a3,a4⟩,by simp;omega⟩
  refine⟨fun c hh=>Grow h5 hh∧c=decide (k<q∧keepX pa w st[q]=false),?_,?_⟩
  ·refine ifb_iff (q:=k<q) (by simp) (fun hkq=>?_) (fun hkq=>⟨Fr.refl _ _,by symm;rw[decide_eq_false_iff_not];exact fun h=>hkq h.1⟩)
   refine⟨pq,epq,by omega,by rw[tn];omega,?_⟩
   rw[Int.toNat_natCast]
   refine ldS_i (s:=uq) (cq 1 _ rfl) (ldS_i (s:=sp) (cp (f4.trans f5)) ?_)
   refine cal_of (common_spec dq.ints (hpt4.fr f5 fun _ _ h=>h).ints (hst1.2 _ (List.getElem_mem hq'))) ?_
   rintro _ _ ⟨rfl,rfl⟩
   refine⟨_,rfl,?_⟩
   unfold keepX
   refine⟨fun e=>⟨fun ew=>⟨Fr.refl _ _,?_⟩,fun ew=>⟨pq,epq,by omega,by rw[tn];omega,st[q].uq,cq 2 _ rfl,Fr.refl _ _,?_⟩⟩,fun e=>⟨Fr.refl _ _,?_⟩⟩
   ·simp[e,ew,hkq]
   ·simp[e,ew,hkq]
   ·simp[e]
  rintro _ h7 ⟨f7,rfl⟩
  have o7:=o5.frame f7 fun _ _ h=>h
  have c7:=cq.grow f7
  refine ifb_dec (fun hd=>⟨zs,f5.trans f7,o7,?_,hzs⟩) (fun hd=>?_)
  ·rw[keptL_hi hql hd.1,if_neg (by rw[hd.2];simp),List.append_nil];exact ezs
  ·refine⟨pq,epq,by omega,by rw[tn];omega,?_⟩
   rw[Int.toNat_natCast]
   refine⟨st[q].tg,uq,st[q].uq,c7.at0,c7 1 _ rfl,c7 2 _ rfl,?_⟩
   refine app1 (vs:=(hzc (st[q],uq)).toArray) rfl o7 rfl (one_hz _) (by have:=f5.size;have:=f7.size;omega) (by omega) (by omega) fun s' h' e' o f n=>?_
   refine⟨zs++[(st[q],uq)],(f5.trans f7).trans' f fun i hi hc=>by have:=(o7.ge hc).1;omega,by simpa using o,?_,fun z hz=>?_⟩
   ·rw[List.map_append,ezs]
    by_cases hkq:k<q
    ·rw[keptL_hi hql hkq,if_pos (by cases hb:keepX pa w st[q] with|true=>rfl|false=>exact absurd ⟨hkq,hb⟩ hd)];rfl
    ·rw[keptL_lo hql (by omega)];rfl
   ·rcases List.mem_append.1 hz with h|h
    ·exact hzs z h
    ·simp at h;subst h;exact dq4
 obtain rfl:q=st.length:=by omega
 have ekept:keptL pa w k st st.length=st.take (k+1)++(st.drop (k+1)).filter (keepX pa w):=by
  unfold keptL
  rw[List.take_length,Nat.min_eq_right (by omega)]
 rw[ekept] at ezs
 have x5:=x4.grow f5
 refine⟨_,rfl,ldS_i (s:=s) (hs (f4.trans f5)) (ldI_i (x:=(j:Int)) (by rw[((f4.trans f5).blk k4 fun h=>h).cl];rfl) ?_)⟩
 refine⟨p,ep,by omega,by rw[hn];omega,?_⟩
 rw[Int.toNat_natCast]
 dsimp only
 rw[add_add]
 have kw:∀b,kp.own b→h4.size≤b∧b<h5.size:=fun b hb=>o5.ge hb
 have zz:h.size≤h4.size:=by have:=f1.size;have:=f4.size;omega
 have sw:∀b,s.own b→b<h.size:=fun b hb=>(x.own.ge hb).2
 refine own_stoC x5.own (by have:=x5.n;rw[this];omega) rfl ep fun h11 o11 f11=>?_
 have f511:Grow h h5:=(f1.trans f4).trans f5
 refine⟨(toO f511).trans f11,by first|rfl|trivial,fun b=>Q b∨kp.own b,rs.set j { rs[j] with t:=kp },fun b hb=>.inl hb,fun b hb=>hb.imp id fun hb=>by have:=kw b hb;have:=f11.size;omega,?_⟩
 have hne:∀b,s.own b→b≠hp:=fun b hb e=>x.ne (e ▸ hb)
 have qn:∀b,Q b→¬s.own b:=fun b hb=>(x.q b hb).2
 refine⟨f11.blk x5.hd x5.ne,?_,x.ne,by simp[x.len],fun i i1 i2=>?_,fun b hb=>?_⟩
 ·rw[flat_set rwc_len rs j hr (a':={ rs[j] with t:=kp }) rfl (by omega)] at o11
  exact o11
 ·have i1':i<X.l.length:=by simpa using i1
  have i2':i<rs.length:=by simpa using i2
  obtain⟨b1,b2,b3⟩:=x5.el i i1' i2'
  have b2:=b2.fr f11 qn fun _ b hb=>qn b hb
  have b3:=b3.fr f11 qn
  simp only[List.getElem_set]
  by_cases e:j=i
  ·subst e
   rw[if_pos rfl,if_pos rfl]
   refine⟨by rw[b1,ea],?_,?_⟩
   ·simp only
    rw[ea] at b2
    exact b2.weak (fun b hb _=>.inl hb) (fun h=>h) fun _ b hb _=>.inl hb
   ·simp only
    rw[←ezs]
    have ok:=o5.frame f11 fun b hb hc=>by have:=kw b hb;have:=sw b hc;omega
    have rk:=own_rows hzc_len (by omega) ok
    refine⟨by rw[rk.len];simp,fun i hi=>?_⟩
    have hi':i<zs.length:=by simpa using hi
    obtain⟨pz,epz,hz,cz⟩:=rk.at_ i hi'
    refine⟨pz,epz,.inr ?_,hi,zs[i].2,by simpa using cz,?_⟩
    ·exact⟨pz,epz,by rw[add_block]⟩
    ·have:=((hzs _ (List.getElem_mem hi')).fr f5 fun _ _ h=>h).fr f11 qn
     simpa using this.weak fun b hb _=>.inl hb
  ·rw[if_neg e,if_neg e]
   exact⟨b1,b2.weak (fun b hb _=>.inl hb) (fun h=>h) (fun _ b hb _=>.inl hb),b3.weak fun b hb=>.inl hb⟩
 ·rcases hb with hb|hb
  ·exact x.q b hb
  ·have:=kw b hb
   have:=x.hd.lt
   exact⟨by omega,fun hc=>by have:=sw b hc;omega⟩
end
end Go.Proofs.Ytggacajnmgligaa
namespace Go.Proofs.Ytggacajnmgligaa
open Go Go.Lf
set_option linter.unusedVariables false
theorem slS_tailC {Q:Nat→Prop} {h:Heap} {l:Sv} {i:Int} {xs:List Int} (x:IntsC Q h l (i :: xs)) {K:Sv→Prop} (k:∀s',IntsC Q h s' xs→K s'):slS l 1 1 ((l.n:Nat):Int) K:=by
 have hl:=x.len
 have hc:=x.cap
 simp only[List.length_cons] at hl
 refine⟨by omega,by omega,by omega,?_⟩
 rintro ⟨a,n,c⟩ h1 h2 h3
 simp only[Int.toNat_natCast,Int.toNat_one] at h1 h2 h3
 refine k _ ⟨⟨by dsimp only;omega,fun j hj=>?_⟩,by dsimp only;omega⟩
 obtain⟨p,e,q,cc⟩:=x.at_ (j+1) (by simpa using hj)
 obtain⟨p0,e0,_,c0⟩:=x.at_ 0 (by simp)
 rw[e] at e0
 simp only[Option.some.injEq] at e0
 subst e0
 rw[Nat.zero_mul,add_zero] at c0
 rw[if_neg (by omega),e] at h1
 dsimp only at h1 ⊢
 refine⟨_,h1,by rw[add_block];exact q,?_⟩
 rw[add_add]
 rw[show 1*1+j*1=(j+1)*1 by omega]
 simpa using cc
theorem head_cell {Q:Nat→Prop} {h:Heap} {l:Sv} {i:Int} {xs:List Int} (x:IntsC Q h l (i :: xs)):∃p,l.a=some p∧Q p.block∧0<l.n∧cl h p=some (.int .i64 i):=by
 obtain⟨p0,e0,q,c0⟩:=x.at_ 0 (by simp)
 rw[Nat.zero_mul,add_zero] at c0
 have:=x.len
 exact⟨p0,e0,q,by simp at this;omega,by simpa using c0⟩
theorem refGet_spec:∀(xs:List Int) {Q P:Nat→Prop} {h:Heap} {t:Vl} {v:Vv} {s:Sv},VAt false Q h t (anyA Q) v→IntsC P h s xs →
  CallsH Try.prog 53 #[.agg (vvs v),.slice s.a s.n s.c] h (fun r h'=>Grow h h'∧match getV t xs with
   | .ok y=>∃u,r=.tuple #[.agg (vvs u),.int .i64 0]∧VAt false Q h' y (anyA Q) u
   | .error f=>r=.tuple #[.agg (vvs zVv),.int .i64 f])
 | [],Q,P,h,t,v,s,hv,hx=>by
  apply F53
  unfold L53
  refine newV (v:=v) fun h1 k1 f1 z1=>newV (v:=zVv) fun h2 k2 f2 z2=>?_
  have k12:=f2.blk k1 fun h=>h
  have sn:=hx.len
  refine⟨fun _=>?_,fun e=>by simp at sn;simp[sn] at e⟩
  refine rd7 (Vv7.blk k12) (stoV (v:=v) k2 rfl fun h3 k3 f3=>rd7 (Vv7.blk k3) ?_)
  have g:=(f1.trans f2).trans' f3 fun i hi e=>by omega
  refine⟨g,?_⟩
  unfold getV
  exact⟨v,rfl,hv.grow g⟩
 | i :: xs,Q,P,h,.mk k n nm ts al pa tg,v,s,hv,hx=>by
  obtain⟨e1,e2,e3,e4,e5,e6,e7,e8⟩:=vAt_iff.1 hv
  apply F53
  unfold L53
  refine newV (v:=v) fun h1 k1 f1 z1=>newV (v:=zVv) fun h2 k2 f2 z2=>?_
  have k12:=f2.blk k1 fun h=>h
  have sn:=hx.len
  have f12:=f1.trans f2
  have hx2:=hx.fr f12 fun _ _ h=>h
  obtain⟨q,eq,qq,q0,cq⟩:=head_cell hx2
  refine⟨fun e=>by simp at sn;simp[sn] at e;omega,fun _=>?_⟩
  refine ldI_i (x:=v.k) (by rw[k12.cl];rfl) ?_
  unfold getV
  have bad:∀f:Int,stoA h2 ⟨h1.size,0,none⟩ (vvs zVv).toList fun h4=>Vv7 h4 ⟨h1.size,0,none⟩ zVv∧Grow h h4:=fun f=>
   stoV (v:=zVv) k2 rfl fun h3 k3 f3=>⟨Vv7.blk k3,f12.trans' f3 fun i hi e=>by omega⟩
  refine ifb_iff (q:=k=0) (by rw[e1];simp) (fun hk=>?_) (fun hk=>?_)
  ·rw[if_pos hk]
   refine stoV (v:=zVv) k2 rfl fun h3 k3 f3=>rd7 (Vv7.blk k3) ⟨f12.trans' f3 fun i hi e=>by omega,rfl⟩
  rw[if_neg hk]
  refine⟨fun c=>c=decide (k≠5∨i<0∨(ts.length:Int)≤i),?_,?_⟩
  ·refine ldI_i (x:=v.k) (by rw[k12.cl];rfl) ?_
   refine ifb_iff (q:=k≠5) (by rw[e1];simp) (fun h5=>by rw[decide_eq_true (.inl h5)]) (fun h5=>?_)
   refine⟨q,eq,by omega,by omega,ldI_i cq ?_⟩
   refine ifb_iff (q:=i<0) (by simp) (fun h0=>by rw[decide_eq_true (.inr (.inl h0))]) (fun h0=>?_)
   refine⟨q,eq,by omega,by omega,ldS_i (s:=v.ps) (by rw[add_plain,k12.cl];rfl) (ldI_i cq ?_)⟩
   rw[e7]
   simp[h5,h0]
  rintro _ rfl
  refine ifb_dec (fun hb=>?_) (fun hb=>?_)
  ·rw[if_pos hb]
   refine stoV (v:=zVv) k2 rfl fun h3 k3 f3=>rd7 (Vv7.blk k3) ⟨f12.trans' f3 fun i hi e=>by omega,rfl⟩
  rw[if_neg hb]
  have hi:i.toNat<ts.length:=by omega
  rw[List.getElem?_eq_getElem hi]
  simp only
  obtain⟨p,u,r1,r2,r3,r4,r5⟩:=e8 i.toNat hi
  refine⟨fun hh=>Grow h2 hh,Fr.refl _ _,?_⟩
  refine⟨q,eq,by omega,by omega,v.ps,fun hh f=>(by rw[add_plain,(f.blk k12 fun h=>h).cl];rfl),i,fun hh f=>f.clk cq fun h=>h,p,r1,by omega,by rw[e7];omega,?_⟩
  refine⟨u.k,u.n,u.nm,u.ps,u.al,u.pa,u.tg,?_⟩
  have r4':∀hh,Grow h2 hh→Vv7 hh (p.add (i.toNat*7)) u:=fun hh f=>(r4.fr f12 fun h=>h).fr f fun h=>h
  refine⟨fun hh f=>by have:=r4' hh f 0 _ rfl;rwa [add_zero] at this,fun hh f=>r4' hh f 1 _ rfl,fun hh f=>r4' hh f 2 _ rfl,fun hh f=>r4' hh f 3 _ rfl,fun hh f=>r4' hh f 4 _ rfl,fun hh f=>r4' hh f 5 _ rfl,fun hh f=>r4' hh f 6 _ rfl,?_⟩
  refine slS_tailC hx2 fun s' hs'=>⟨Fr.refl _ _,?_⟩
  have r5':VAt false (fun b=>Q b∧b<h.size) h2 ts[i.toNat] (anyA fun b=>Q b∧b<h.size) u:=VAt.grow (r5.weak (Q':=fun b=>Q b∧b<h.size) (A':=anyA fun b=>Q b∧b<h.size) (fun b h1 h2=>⟨h1,h2⟩) (fun h=>h) fun _ b h1 h2=>⟨h1,h2⟩) f12
  refine cal_of (refGet_spec xs r5' hs') ?_
  rintro _ h6 ⟨f6,hm⟩
  have k6:=f6.blk k2 fun h=>h
  cases hg:getV ts[i.toNat] xs with
  | error f=>
   rw[hg] at hm
   simp only at hm
   subst hm
   refine⟨_,_,_,zVv.ps,_,zVv.pa,_,_,rfl,stoV (v:=zVv) k6 rfl fun h7 k7 f7=>rd7 (Vv7.blk k7) ⟨(f12.trans f6).trans' f7 fun i hi e=>by omega,rfl⟩⟩
  | ok y=>
   rw[hg] at hm
   obtain⟨w,rfl,hw⟩:=hm
   refine⟨_,_,_,w.ps,_,w.pa,_,_,rfl,stoV (v:=w) k6 rfl fun h7 k7 f7=>rd7 (Vv7.blk k7) ⟨(f12.trans f6).trans' f7 fun i hi e=>by omega,w,rfl,?_⟩⟩
   have:=hw.fr f7 (fun b hb e=>by have:=hb.2;omega) fun _ b hb e=>by have:=hb.2;omega
   exact this.weak (fun b hb _=>hb.1) (fun h=>h) fun _ b hb _=>hb.1
theorem refWhole_spec (t:Vl):∀ {Q:Nat→Prop} {A:List Nat→Nat→Prop} {v:Vv} {h:Heap},few t→VAt false Q h t A v→CallsH Try.prog 61 #[.agg (vvs v)] h (fun x h'=>Grow h h'∧x=.bool (wholeV t)):=by
 refine Vl.ind (P:=fun t=>∀ {Q:Nat→Prop} {A:List Nat→Nat→Prop} {v:Vv} {h:Heap},few t→VAt false Q h t A v→CallsH Try.prog 61 #[.agg (vvs v)] h (fun x h'=>Grow h h'∧x=.bool (wholeV t))) ?_ t
 intro k n nm ts al pa tg ih Q A v h hfew hv
 obtain⟨hf1,hf2,hf3⟩:=few_mk.1 hfew
 obtain⟨e1,e2,e3,e4,e5,e6,e7,e8⟩:=vAt_iff.1 hv
 apply F61
 unfold L61
 refine newV (v:=v) fun h1 k1 f1 z1=>?_
 refine ldI_i (x:=v.k) (by rw[k1.cl];rfl) ?_
 rw[whole_mk]
 refine ifb_iff (q:=k=0) (by rw[e1];simp) (fun hk=>⟨f1,by rw[decide_eq_false (by simpa using hk)];rfl⟩) (fun hk=>?_)
 rw[decide_eq_true hk,Bool.true_and]
 refine⟨fun i hh=>∃j:Nat,i=j∧j≤ts.length∧Grow h1 hh∧(ts.take j).all wholeV=true,fun i _=>ts.length - i.toNat,⟨0,rfl,Nat.zero_le _,Fr.refl _ _,rfl⟩,?_⟩
 rintro _ h3 ⟨j,rfl,hj,f3,hall⟩
 have c3:cl h3 ((⟨h.size,0,none⟩:Addr).add 3)=some (.slice v.ps.a v.ps.n v.ps.c):=by rw[add_plain,(f3.blk k1 fun h=>h).cl];rfl
 refine ldS_i (s:=v.ps) c3 ?_
 refine ifb_iff (q:=j<ts.length) (by rw[e7];simp) (fun hlt=>?_) (fun hge=>?_)
 ·obtain⟨p,u,q1,q2,q3,q4,q5⟩:=e8 j hlt
  have g3:=f1.trans f3
  refine ldS_i (s:=v.ps) c3 ⟨p,q1,by omega,by rw[e7];omega,?_⟩
  rw[Int.toNat_natCast]
  refine rd7 (q4.fr g3 fun h=>h) ?_
  refine cal_of (ih ts[j] (List.getElem_mem hlt) (hf3 _ (List.getElem_mem hlt)) (q5.grow g3)) ?_
  rintro _ h4 ⟨f4,rfl⟩
  refine⟨_,rfl,fun e=>⟨g3.trans f4,?_⟩,fun e=>?_⟩
  ·have:ts.all wholeV=false:=by
    rw[List.all_eq_false]
    exact⟨_,List.getElem_mem hlt,by simpa using e⟩
   rw[this]
  ·have hw:wholeV ts[j]=true:=by simpa using e
   rw[wrap_succ hlt (by omega)]
   refine⟨⟨j+1,rfl,hlt,f3.trans f4,?_⟩,by dsimp only;omega⟩
   rw[List.take_succ_eq_append_getElem hlt,List.all_append,hall]
   simp[hw]
 ·obtain rfl:j=ts.length:=by omega
  rw[List.take_length] at hall
  exact⟨f1.trans f3,by rw[hall]⟩
end Go.Proofs.Ytggacajnmgligaa
namespace Go.Proofs.Ytggacajnmgligaa
open Go Go.Lf
set_option linter.unusedVariables false
theorem VAt.low {o:Bool} {Q:Nat→Prop} {h:Heap} {t:Vl} {v:Vv} (x:VAt o Q h t (anyA Q) v):VAt o (fun b=>Q b∧b<h.size) h t (anyA fun b=>Q b∧b<h.size) v:=
 x.weak (fun b h1 h2=>⟨h1,h2⟩) (fun h=>h) fun _ b h1 h2=>⟨h1,h2⟩
theorem VAt.up {o:Bool} {Q Q':Nat→Prop} {h:Heap} {t:Vl} {v:Vv} (x:VAt o Q h t (anyA Q) v) (hq:∀b,Q b→Q' b):VAt o Q' h t (anyA Q') v:=
 x.weak (fun b h1 _=>hq b h1) (fun h=>h) fun _ b h1 _=>hq b h1
theorem refPut_spec:∀(xs:List Int) {Q P:Nat→Prop} {h:Heap} {t x y:Vl} {v xv:Vv} {s:Sv},getV t xs=.ok y→few t→VAt false Q h t (anyA Q) v→IntsC P h s xs→VAt false Q h x (anyA Q) xv →
  CallsH Try.prog 51 #[.agg (vvs v),.slice s.a s.n s.c,.agg (vvs xv)] h (fun r h'=>Grow h h'∧∃u,r=.agg (vvs u)∧VAt false (fun b=>Q b∨(h.size≤b∧b<h'.size)) h' (putV t (natsOf xs) x) (anyA fun b=>Q b∨(h.size≤b∧b<h'.size)) u)
 | [],Q,P,h,t,x,y,v,xv,s,hg,hf,hv,hx,hxv=>by
  apply F51
  unfold L51
  refine newV (v:=v) fun h1 k1 f1 z1=>newV (v:=xv) fun h2 k2 f2 z2=>newV (v:=zVv) fun h3 k3 f3 z3=>?_
  have K2:=f3.blk k2 fun h=>h
  have sn:=hx.len
  refine⟨fun _=>?_,fun e=>by simp at sn;simp[sn] at e⟩
  refine rd7 (Vv7.blk K2) (stoV (v:=xv) k3 rfl fun h4 k4 f4=>rd7 (Vv7.blk k4) ?_)
  have g:=((f1.trans f2).trans f3).trans' f4 fun i hi e=>by omega
  refine⟨g,xv,rfl,?_⟩
  show VAt false _ h4 (putV t [] x) _ xv
  unfold putV
  exact (hxv.grow g).up fun b hb=>.inl hb
 | i :: xs,Q,P,h,.mk k n nm ts al pa tg,x,y,v,xv,s,hg,hf,hv,hx,hxv=>by
  obtain⟨hf1,hf2,hf3⟩:=few_mk.1 hf
  have hv':=hv.low
  obtain⟨us,hul,hrow,hparts⟩:=parts_row hv'
  obtain⟨e1,e2,e3,e4,e5,e6,e7,e8⟩:=vAt_iff.1 hv'
  unfold getV at hg
  split at hg
  ·cases hg
  split at hg
  ·cases hg
  rename_i hk0 hk5
  have hi:i.toNat<ts.length:=by omega
  have hi0:((i.toNat:Nat):Int)=i:=by omega
  rw[List.getElem?_eq_getElem hi] at hg
  simp only at hg
  apply F51
  unfold L51
  refine newV (v:=v) fun h1 k1 f1 z1=>newV (v:=xv) fun h2 k2 f2 z2=>newV (v:=zVv) fun h3 k3 f3 z3=>?_
  have g3:=(f1.trans f2).trans f3
  have K1:=(f2.trans f3).blk k1 fun h=>h
  have sn:=hx.len
  refine⟨fun e=>by simp at sn;simp[sn] at e;omega,fun _=>?_⟩
  refine rd7 (Vv7.blk K1) (mineV (v:=v) fun h6 k6 g6=>?_)
  rintro s13 h7 rfl rfl
  have g67:Grow h6 (h6.push (.cells #[] 33)):=Fr.push _ _ _
  have o7:Own (h6.push (.cells #[] 33)) h6.size 7 ⟨some ⟨h6.size,0,none⟩,0,0⟩ []:=own_empty' 7 h6 h6.size 33 (Nat.le_refl _)
  have z7:(h6.push (.cells #[] 33)).size=h6.size+1:=by simp
  generalize h6.push (.cells #[] 33)=h7 at *
  have z6:=g6.size
  have g7:=(g3.trans g6).trans g67
  have K17:=(g6.trans g67).blk K1 fun h=>h
  refine ldS_i (s:=v.ps) (by rw[add_plain,K17.cl];rfl) ?_
  have hrow7:RowO h7 v.ps.a (c7 us):=by
   have:=(parts_row (hv'.grow g7))
   have key:∀cs,RowO h v.ps.a cs→RowO h7 v.ps.a cs:=fun cs=>by
    cases v.ps.a with
    | none=>exact fun h=>h
    | some p=>exact fun hh j u hu=>g7.clk (hh j u hu) fun h=>h
   exact key _ hrow
  refine appS_own (news:=c7 us) rfl o7 (by rw[c7_len];omega) hrow7 (one_c7l us) (by omega) (by dsimp only;omega) (by dsimp only;omega) fun s16 h8 n16 o8 f8 hown8=>?_
  rw[List.nil_append] at o8
  have z8:=f8.size
  have w16:∀b,s16.own b→h6.size≤b∧b<h8.size:=fun b hb=>o8.ge hb
  have s13own:∀b,(⟨some ⟨h6.size,0,none⟩,0,0⟩:Sv).own b→b=h6.size:=by
   rintro b ⟨a,ea,rfl⟩
   simp only[Option.some.injEq] at ea
   subst ea;rfl
  have g68:Grow h6 h8:=g67.trans' f8 fun b hb e=>by have:=s13own b e;omega
  have k8:=g68.blk k6 fun h=>h
  rw[add_plain]
  refine sto_i k8 (by simp) ?_
  have B9:blk (sc h8 ⟨h3.size,0+3,none⟩ (.slice s16.a s16.n s16.c)) h3.size (vvs { v with ps:=s16 }):=k8.sc 3 (.slice s16.a s16.n s16.c)
  have f9:Fr (fun b=>b=h3.size) h8 (sc h8 ⟨h3.size,0+3,none⟩ (.slice s16.a s16.n s16.c)):=Fr.scb _ _ _ _
  have z9:(sc h8 ⟨h3.size,0+3,none⟩ (.slice s16.a s16.n s16.c)).size=h8.size:=sc_size _ _ _
  generalize sc h8 ⟨h3.size,0+3,none⟩ (.slice s16.a s16.n s16.c)=h9 at *
  have z36:h3.size<h6.size:=k6.lt
  have o9:=o8.frame f9 fun b hb e=>by have:=(w16 b hb).1;omega
  have g9:Grow h h9:=((g3.trans g6).trans g68).trans' f9 fun b hb e=>by omega
  have g39:Grow h3 h9:=(g6.trans g68).trans' f9 fun b hb e=>by omega
  have K19:=g39.blk K1 fun h=>h
  have K29:=g39.blk (f3.blk k2 fun h=>h) fun h=>h
  have K39:=g39.blk k3 fun h=>h
  have hx9:=hx.fr g9 fun _ _ h=>h
  obtain⟨q,eq,qq,q0,cq⟩:=head_cell hx9
  obtain⟨p,u,r1,r2,r3,r4,r5⟩:=e8 i.toNat hi
  have r5:VAt false (fun b=>Q b∧b<h.size) h ts[i.toNat] (anyA fun b=>Q b∧b<h.size) u:=r5
  have r4':∀hh,Grow h9 hh→Vv7 hh (p.add (i.toNat*7)) u:=fun hh f=>(r4.fr g9 fun h=>h).fr f fun h=>h
  have x4':∀hh,Grow h9 hh→Vv7 hh ⟨h1.size,0,none⟩ xv:=fun hh f=>Vv7.blk (f.blk K29 fun h=>h)
  have nn16:s16.n=ts.length:=by rw[n16];dsimp only;omega
  refine⟨fun hh=>Grow h9 hh,Fr.refl _ _,q,eq,by omega,by omega,q,eq,by omega,by omega,s16,fun hh f=>(by rw[(f.blk B9 fun h=>h).cl];rfl),i,fun hh f=>f.clk cq fun h=>h,v.ps,fun hh f=>(by rw[add_plain,(f.blk K19 fun h=>h).cl];rfl),i,fun hh f=>f.clk cq fun h=>h,p,r1,by omega,by rw[e7];omega,?_⟩
  refine⟨u.k,u.n,u.nm,u.ps,u.al,u.pa,u.tg,fun hh f=>by have:=r4' hh f 0 _ rfl;rwa [add_zero] at this,fun hh f=>r4' hh f 1 _ rfl,fun hh f=>r4' hh f 2 _ rfl,fun hh f=>r4' hh f 3 _ rfl,fun hh f=>r4' hh f 4 _ rfl,fun hh f=>r4' hh f 5 _ rfl,fun hh f=>r4' hh f 6 _ rfl,?_⟩
  refine⟨xv.k,xv.n,xv.nm,xv.ps,xv.al,xv.pa,xv.tg,fun hh f=>by have:=x4' hh f 0 _ rfl;rwa [add_zero] at this,fun hh f=>x4' hh f 1 _ rfl,fun hh f=>x4' hh f 2 _ rfl,fun hh f=>x4' hh f 3 _ rfl,fun hh f=>x4' hh f 4 _ rfl,fun hh f=>x4' hh f 5 _ rfl,fun hh f=>x4' hh f 6 _ rfl,?_⟩
  refine slS_tailC hx9 fun s' hs'=>⟨Fr.refl _ _,?_⟩
  refine cal_of (refPut_spec xs hg (hf3 _ (List.getElem_mem hi)) (r5.grow g9) hs' (hxv.low.grow g9)) ?_
  rintro _ h10 ⟨f10,w,rfl,hw⟩
  obtain⟨p16,e16⟩:=own_addr (o9.frame f10 fun _ _ h=>h) (by omega)
  have o10:=o9.frame f10 fun _ _ h=>h
  refine⟨w.k,w.n,w.nm,w.ps,w.al,w.pa,w.tg,rfl,f10,_,e16,by omega,by rw[nn16];omega,?_⟩
  refine own_stoA o10 (by omega) (vs:=(vvs w).toList) rfl (one_vv w) e16 fun h11 o11 f11=>?_
  rw[c7_set us i.toNat (by omega) w] at o11
  have B11:=f11.blk (f10.blk B9 fun h=>h) fun e=>by have:=(w16 _ e).1;omega
  have C11:=f11.blk (f10.blk K39 fun h=>h) fun e=>by have:=(w16 _ e).1;omega
  refine rd7 (Vv7.blk B11) (stoV (v:={ v with ps:=s16 }) C11 rfl fun h12 k12 f12=>rd7 (Vv7.blk k12) ?_)
  have z10:=f10.size
  have z11:=f11.size
  have z12:=f12.size
  have gall:Grow h h12:=((g9.trans f10).trans' f11 fun b hb e=>by have:=(w16 b e).1;omega).trans' f12 fun b hb e=>by omega
  have o12:=o11.frame f12 fun b hb e=>by have:=(w16 b hb).1;omega
  refine⟨gall,{ v with ps:=s16 },rfl,?_⟩
  have hput:putV (.mk k n nm ts al pa tg) (natsOf (i :: xs)) x=.mk k n nm (ts.set i.toNat (putV ts[i.toNat] (natsOf xs) x)) al pa tg:=by
   show putV (.mk k n nm ts al pa tg) (i.toNat :: natsOf xs) x=_
   conv=>lhs;unfold putV
   rw[List.getElem?_eq_getElem hi]
  rw[hput]
  refine vAt_iff.2 ⟨e1,e2,e3,e4,e5,(e6.fr gall fun _ _ h=>h).weak fun b hb _=>.inl hb.1,by rw[List.length_set];exact nn16,fun j hj=>?_⟩
  have hj':j<ts.length:=by simpa using hj
  obtain⟨pj,epj,ownj,_,cj⟩:=own7 o12 (i:=j) (by simpa [hul] using hj')
  have wj:=w16 _ ownj
  refine⟨pj,_,epj,.inr ⟨by omega,by omega⟩,fun h=>(by cases h),cj,?_⟩
  simp only[List.getElem_set]
  by_cases hij:i.toNat=j
  ·subst hij
   rw[if_pos rfl,if_pos rfl]
   have a:=hw.fr f11 (fun b hb e=>by have:=w16 b e;rcases hb with hb|hb<;>omega) fun _ b hb e=>by have:=w16 b e;rcases hb with hb|hb<;>omega
   have a:=a.fr f12 (fun b hb e=>by rcases hb with hb|hb<;>omega) fun _ b hb e=>by rcases hb with hb|hb<;>omega
   exact a.up fun b hb=>hb.imp (fun hb=>hb.1) fun hb=>by omega
  ·rw[if_neg hij,if_neg hij]
   have a:VAt false (fun b=>Q b∧b<h.size) h ts[j] (anyA fun b=>Q b∧b<h.size) us[j]:=hparts j (by omega) hj'
   exact (a.grow gall).up fun b hb=>.inl hb.1
end Go.Proofs.Ytggacajnmgligaa
namespace Go.Proofs.Ytggacajnmgligaa
open Go Go.Lf
set_option linter.unusedVariables false
def FewX (X:Hs):Prop:=X.l.length≤1000000∧∀a∈X.l,few a.v∧a.st.length≤1000000∧∀d∈a.st,d.pa.length≤1000000
def RNx (Q:Nat→Prop) (h:Heap) (hp:Nat) (s:Sv) (Q':Nat→Prop) (h':Heap) (X':Hs):Prop:=
 (∀b,Q b→Q' b)∧(∀b,Q' b→Q b∨(h.size≤b∧b<h'.size))∧∃rs',RAt Q' h' hp X' s rs'
section
variable {Q Q':Nat→Prop} {h h' h2:Heap} {hp:Nat} {X X':Hs} {s:Sv} {rs:List Rw}
theorem RNx.refl (x:RAt Q h hp X s rs):RNx Q h hp s Q h X:=⟨fun _ h=>h,fun _ h=>.inl h,rs,x⟩
theorem RNx.of_grow (g:Grow h h2) (z:RNx Q h2 hp s Q' h' X'):RNx Q h hp s Q' h' X':=⟨z.1,fun b hb=>(z.2.1 b hb).imp id fun hb=>by have:=g.size;omega,z.2.2⟩
theorem RNx.then_grow (z:RNx Q h hp s Q' h2 X') (g:Grow h2 h'):RNx Q h hp s Q' h' X':=by
 obtain⟨a,b,rs',c⟩:=z
 exact⟨a,fun q hq=>(b q hq).imp id fun hb=>by have:=g.size;omega,rs',c.grow g⟩
theorem RNx.loc {h3 h4:Heap} {B c:Nat} (z:RNx Q h hp s Q' h3 X') (hQ:∀b,Q b→b<B) (h1:B≤c) (h2:c<h.size) (hhp:hp<B) (hs:∀b,s.own b→b<B) (f:Fr (fun b=>b=c) h3 h4):RNx Q h hp s Q' h4 X':=by
 obtain⟨a,b,rs',x⟩:=z
 refine⟨a,fun q hq=>(b q hq).imp id fun hb=>by have:=f.size;omega,rs',x.fr f (by omega) (fun b hb e=>by have:=hs b hb;omega) fun q hq e=>?_⟩
 rcases b q hq with h|h
 ·have:=hQ q h;omega
 ·omega
theorem use_nx (x:RAt Q h hp X s rs) (hX:FewX X) {al tg:Int} {sp:Sv} {pa:List Int} (hpt:IntsC Q h sp pa) (hpl:pa.length≤1000000) (w:Bool) :
  CallsH Try.prog 52 #[ptr hp,.agg (pvs al sp tg),.bool w] h (fun v h'=>Fr s.own h h'∧∃Q',RNx Q h hp s Q' h' (match useX X al pa tg w with|.error _=>X|.ok X'=>X')∧v=.int .i64 (match useX X al pa tg w with|.error f=>f|.ok _=>0)):=by
 refine (refUse_spec x hpt hpl (fun a ha=>(hX.2 a ha).2) hX.1 w).mono ?_
 rintro v h' ⟨f,hm⟩
 refine⟨f,?_⟩
 cases hu:useX X al pa tg w with
 | error e=>
  rw[hu] at hm
  exact⟨Q,⟨fun _ h=>h,fun _ h=>.inl h,rs,hm.2⟩,hm.1⟩
 | ok X'=>
  rw[hu] at hm
  obtain⟨rfl,Q',rs',q1,q2,x'⟩:=hm
  exact⟨Q',⟨q1,q2,rs',x'⟩,rfl⟩
theorem useX_len {al tg:Int} {pa:List Int} {w:Bool} (h:useX X al pa tg w=.ok X'):X'.l.length=X.l.length∧(∃j:Nat,al=j∧j<X.l.length)∧∀i (h1:i<X'.l.length) (h2:i<X.l.length),X'.l[i].live=X.l[i].live∧X'.l[i].v=X.l[i].v:=by
 unfold useX at h
 split at h
 ·cases h
 ·rename_i a ha
  obtain⟨j,rfl,hj,ea,_⟩:=atS_some ha
  split at h
  ·cases h
  ·rename_i a' ha'
   simp only[Except.ok.injEq] at h
   subst h
   obtain⟨q1,q2,_⟩:=useAlX_eq ha'
   refine⟨by simp,⟨j,rfl,hj⟩,fun i h1 h2=>?_⟩
   simp only[Int.toNat_natCast,List.getElem_set]
   split
   ·rename_i e
    subst e
    rw[ea]
    exact⟨q1,q2⟩
   ·exact⟨rfl,rfl⟩
theorem row_v {p:Addr} {r:Rw} (c:CsAt h p (rwc r)):Vv7 h (p.add 1) r.v:=fun j u hu=>by
 rw[add_add]
 have hj:j<7:=(Array.getElem?_eq_some_iff.1 hu).1
 refine c (1+j) u ?_
 rcases j with _|_|_|_|_|_|_|j<;>first|exact hu|omega
theorem useX_err {al tg:Int} {pa:List Int} {w:Bool} {f:Int} (hu:useX X al pa tg w=.error f):f≠0:=by
 unfold useX at hu
 split at hu
 ·simp at hu;omega
 ·split at hu
  ·simp at hu;omega
  ·cases hu
theorem useX_at {al tg:Int} {pa:List Int} {w:Bool} (h:useX X al pa tg w=.ok X'):∃j:Nat,al=j∧∃hj:j<X'.l.length,X'.l[j].live=true∧atS X' al=some X'.l[j]:=by
 obtain⟨e1,⟨j,rfl,hj⟩,e3⟩:=useX_len h
 have hl:X'.l[j].live=true:=by
  rw[(e3 j (by omega) hj).1]
  unfold useX at h
  split at h
  ·cases h
  ·rename_i a ha
   obtain⟨j',e,_,ea,hv⟩:=atS_some ha
   obtain rfl:j=j':=by omega
   rw[ea];exact hv
 exact⟨j,rfl,by omega,hl,atS_of (by omega) hl⟩
theorem few_use (hX:FewX X) {al tg:Int} {pa:List Int} {w:Bool} (h:useX X al pa tg w=.ok X'):∀i (h1:i<X'.l.length),few X'.l[i].v:=by
 obtain⟨e1,_,e3⟩:=useX_len h
 intro i h1
 rw[(e3 i h1 (by omega)).2]
 exact (hX.2 _ (List.getElem_mem _)).1
theorem get50_spec (x:RAt Q h hp X s rs) (hX:FewX X) (hQ:∀b,Q b→b<h.size) {al tg:Int} {sp:Sv} {pa:List Int} (hpt:IntsC Q h sp pa) (hpl:pa.length≤1000000) (w:Bool) :
  CallsH Try.prog 50 #[ptr hp,.agg (pvs al sp tg),.bool w] h (fun v h'=>Fr s.own h h'∧∃Q',RNx Q h hp s Q' h' (getX X al pa tg w).1∧match (getX X al pa tg w).2 with
   | .error f=>f≠0∧v=.tuple #[.agg (vvs zVv),.int .i64 f]
   | .ok y=>∃u,v=.tuple #[.agg (vvs u),.int .i64 0]∧VAt false Q' h' y (anyA Q') u):=by
 have hX1:=hX.1
 have toO:∀ {a b:Heap},Grow a b→Fr s.own a b:=fun g=>g.mono fun _ _ h=>h.elim
 have sw:∀b,s.own b→b<h.size:=fun b hb=>(x.own.ge hb).2
 have hhp:=x.hd.lt
 apply F50
 unfold L50
 refine newPt fun h1 k1 f1 z1=>newV (v:=zVv) fun h2 k2 f2 z2=>?_
 have g2:=f1.trans f2
 have K1:=f2.blk k1 fun h=>h
 refine rdPt K1 ?_
 have x2:=x.grow g2
 have hpt2:=hpt.fr g2 fun _ _ h=>h
 refine cal_of (use_nx x2 hX hpt2 hpl w) ?_
 rintro v h3 ⟨f3,Q1,nx,rfl⟩
 have K13:=f3.blk K1 fun e=>by have:=sw _ e;omega
 have K23:=f3.blk k2 fun e=>by have:=sw _ e;have:=f1.size;omega
 have z3:=f3.size
 have z1':=f1.size
 unfold getX
 cases hu:useX X al pa tg w with
 | error f=>
  rw[hu] at nx
  refine⟨_,rfl,?_⟩
  refine⟨fun _=>?_,fun e=>absurd (by simpa using e) (useX_err hu)⟩
  refine stoV (v:=zVv) K23 rfl fun h4 k4 f4=>rd7 (Vv7.blk k4) ?_
  have F:Fr s.own h h4:=((toO g2).trans f3).trans' f4 fun i hi e=>by omega
  exact⟨F,Q1,(nx.loc hQ (by omega) (by omega) hhp sw f4).of_grow g2,useX_err hu,rfl⟩
 | ok X1=>
  rw[hu] at nx
  have nx:RNx Q h2 hp s Q1 h3 X1:=nx
  refine⟨_,rfl,fun e=>(by simp at e),fun _=>?_⟩
  obtain⟨j,rfl,hj,hlive,hat⟩:=useX_at hu
  have hfw:=few_use hX hu j hj
  obtain⟨q1,q2,rs1,x3⟩:=nx
  have hlen:=(useX_len hu).1
  obtain⟨p,ep,hr,c⟩:=x3.row hj
  obtain⟨el1,el2,el3⟩:=x3.el j hj hr
  have hn3:=x3.n
  have hpt3:IntsC Q h3 sp pa:=hpt2.fr f3 fun b hb e=>(x2.q b hb).2 e
  have hgw:getW X1 j pa=match getV X1.l[j].v pa with|.error f=>.error f|.ok y=>if wholeV y=true then .ok y else .error 3:=by
   unfold getW
   rw[hat]
   all_goals rfl
  simp only
  rw[hgw]
  have hQ1:∀b,Q1 b→b<h3.size:=fun b hb=>by
   rcases q2 b hb with h|h
   ·have:=hQ b h;omega
   ·omega
  refine⟨fun p9 f hh=>Grow h3 hh∧match getV X1.l[j].v pa with
   | .error g=>f=g∧g≠0
   | .ok y=>f=0∧∃u b,p9=⟨b,0,none⟩∧blk hh b (vvs u)∧h3.size≤b∧VAt false Q1 hh y (anyA Q1) u,?_,?_⟩
  ·refine⟨fun hh=>Grow h3 hh,Fr.refl _ _,⟨hp,0,none⟩,rfl,s,fun hh f=>(by rw[(f.blk x3.hd fun h=>h).cl];rfl),(j:Int),fun hh f=>(by rw[(f.blk K13 fun h=>h).cl];rfl),p,ep,by omega,by rw[hn3];omega,?_⟩
   rw[Int.toNat_natCast]
   have V:=row_v c
   have V':∀hh,Grow h3 hh→Vv7 hh ((p.add (j*9)).add 1) rs1[j].v:=fun hh f=>V.fr f fun h=>h
   generalize rs1[j].v=u at *
   refine⟨u.k,u.n,u.nm,u.ps,u.al,u.pa,u.tg,fun hh f=>by have:=V' hh f 0 _ rfl;rwa [add_zero] at this,fun hh f=>V' hh f 1 _ rfl,fun hh f=>V' hh f 2 _ rfl,fun hh f=>V' hh f 3 _ rfl,fun hh f=>V' hh f 4 _ rfl,fun hh f=>V' hh f 5 _ rfl,fun hh f=>V' hh f 6 _ rfl,?_⟩
   refine⟨sp,fun hh f=>(by rw[add_plain,(f.blk K13 fun h=>h).cl];rfl),?_,?_⟩
   ·refine cal_of (refGet_spec pa el2 hpt3) ?_
    rintro _ h5 ⟨f5,hm⟩
    cases hg:getV X1.l[j].v pa with
    | error f=>
     rw[hg] at hm
     simp only at hm
     subst hm
     refine⟨_,_,_,zVv.ps,_,zVv.pa,_,_,rfl,mineV (v:=zVv) fun h7 k7 g7=>?_⟩
     exact⟨f5.trans g7,rfl,getV_err _ _ _ hg⟩
    | ok y=>
     rw[hg] at hm
     obtain⟨u',rfl,hv'⟩:=hm
     refine⟨_,_,_,u'.ps,_,u'.pa,_,_,rfl,mineV (v:=u') fun h7 k7 g7=>?_⟩
     exact⟨f5.trans g7,rfl,u',_,rfl,k7,f5.size,hv'.grow g7⟩
   ·refine newV (v:=zVv) fun h8 k8 g8 z8=>⟨g8,?_⟩
    refine cal_of (refGet_spec pa (VAt.grow el2 g8) (hpt3.fr g8 fun _ _ h=>h)) ?_
    rintro _ h5 ⟨f5,hm⟩
    have k5:=f5.blk k8 fun h=>h
    cases hg:getV X1.l[j].v pa with
    | error f=>
     rw[hg] at hm
     simp only at hm
     subst hm
     refine⟨_,_,_,zVv.ps,_,zVv.pa,_,_,rfl,stoV (v:=zVv) k5 rfl fun h7 k7 g7=>?_⟩
     exact⟨(g8.trans f5).trans' g7 fun i hi e=>by omega,rfl,getV_err _ _ _ hg⟩
    | ok y=>
     rw[hg] at hm
     obtain⟨u',rfl,hv'⟩:=hm
     refine⟨_,_,_,u'.ps,_,u'.pa,_,_,rfl,stoV (v:=u') k5 rfl fun h7 k7 g7=>?_⟩
     refine⟨(g8.trans f5).trans' g7 fun i hi e=>by omega,rfl,u',_,rfl,k7,Nat.le_refl _,hv'.fr g7 (fun b hb e=>by have:=hQ1 b hb;omega) fun _ b hb e=>by have:=hQ1 b hb;omega⟩
  rintro v9 f10 h11 ⟨f11,hm⟩
  have nx3:RNx Q h2 hp s Q1 h11 X1:=RNx.then_grow ⟨q1,q2,rs1,x3⟩ f11
  have F11:Fr s.own h h11:=((toO g2).trans f3).trans (toO f11)
  have K211:=f11.blk K23 fun h=>h
  have z11:=f11.size
  cases hg:getV X1.l[j].v pa with
  | error f=>
   rw[hg] at hm
   obtain⟨rfl,hf⟩:=hm
   simp only
   refine⟨fun _=>?_,fun e=>absurd (by simpa using e) hf⟩
   refine stoV (v:=zVv) K211 rfl fun h4 k4 f4=>rd7 (Vv7.blk k4) ?_
   exact⟨F11.trans' f4 fun i hi e=>by omega,Q1,(nx3.loc hQ (by omega) (by omega) hhp sw f4).of_grow g2,hf,rfl⟩
  | ok y=>
   rw[hg] at hm
   obtain⟨rfl,u,b,rfl,kb,hb,hv⟩:=hm
   simp only
   refine⟨fun e=>(by simp at e),fun _=>rd7 (Vv7.blk kb) ?_⟩
   refine cal_of (refWhole_spec y (getV_few _ _ _ hg hfw) hv) ?_
   rintro _ h13 ⟨f13,rfl⟩
   have K213:=f13.blk K211 fun h=>h
   have Kb:=f13.blk kb fun h=>h
   have z13:=f13.size
   have nx13:=nx3.then_grow f13
   have F13:Fr s.own h h13:=F11.trans (toO f13)
   refine⟨_,rfl,?_⟩
   refine ifb_iff (q:=wholeV y=false) (by simp) (fun hw=>?_) (fun hw=>?_)
   ·rw[if_neg (by rw[hw];simp)]
    refine stoV (v:=zVv) K213 rfl fun h4 k4 f4=>rd7 (Vv7.blk k4) ?_
    exact⟨F13.trans' f4 fun i hi e=>by omega,Q1,(nx13.loc hQ (by omega) (by omega) hhp sw f4).of_grow g2,by omega,rfl⟩
   ·rw[if_pos (by simpa using hw)]
    refine rd7 (Vv7.blk Kb) (stoV (v:=u) K213 rfl fun h4 k4 f4=>rd7 (Vv7.blk k4) ?_)
    refine⟨F13.trans' f4 fun i hi e=>by omega,Q1,(nx13.loc hQ (by omega) (by omega) hhp sw f4).of_grow g2,u,rfl,?_⟩
    have hv13:VAt false Q1 h13 y (anyA Q1) u:=VAt.grow hv f13
    have nq:∀b,Q1 b→¬b=h1.size:=fun b hb e=>by
     rcases q2 b hb with h|h
     ·have:=hQ b h;omega
     ·omega
    exact hv13.fr f4 nq fun _ b hb=>nq b hb
theorem refRead_spec (x:RAt Q h hp X s rs) (hX:FewX X) (hQ:∀b,Q b→b<h.size) {al tg:Int} {sp:Sv} {pa:List Int} (hpt:IntsC Q h sp pa) (hpl:pa.length≤1000000) :
  CallsH Try.prog 33 #[ptr hp,.agg (pvs al sp tg)] h (fun v h'=>Fr s.own h h'∧∃Q',RNx Q h hp s Q' h' (getX X al pa tg false).1∧match (getX X al pa tg false).2 with
   | .error f=>f≠0∧v=.tuple #[.agg (vvs zVv),.int .i64 f]
   | .ok y=>∃u,v=.tuple #[.agg (vvs u),.int .i64 0]∧VAt false Q' h' y (anyA Q') u):=by
 have toO:∀ {a b:Heap},Grow a b→Fr s.own a b:=fun g=>g.mono fun _ _ h=>h.elim
 have sw:∀b,s.own b→b<h.size:=fun b hb=>(x.own.ge hb).2
 have hhp:=x.hd.lt
 apply F33
 unfold L33
 refine newPt fun h1 k1 f1 z1=>newV (v:=zVv) fun h2 k2 f2 z2=>?_
 have g2:=f1.trans f2
 have z1':=f1.size
 refine rdPt (f2.blk k1 fun h=>h) ?_
 refine cal_of (get50_spec (x.grow g2) hX (fun b hb=>by have:=hQ b hb;omega) (hpt.fr g2 fun _ _ h=>h) hpl false) ?_
 rintro v h3 ⟨f3,Q1,nx,hm⟩
 have K23:=f3.blk k2 fun e=>by have:=sw _ e;omega
 have z3:=f3.size
 have nq:∀b,Q1 b→¬b=h1.size:=fun b hb e=>by
  rcases nx.2.1 b hb with h|h
  ·have:=hQ b h;omega
  ·omega
 cases hg:(getX X al pa tg false).2 with
 | error f=>
  rw[hg] at hm
  obtain⟨hf,rfl⟩:=hm
  refine⟨_,_,_,zVv.ps,_,zVv.pa,_,_,rfl,stoV (v:=zVv) K23 rfl fun h4 k4 f4=>rd7 (Vv7.blk k4) ?_⟩
  exact⟨((toO g2).trans f3).trans' f4 fun i hi e=>by omega,Q1,(nx.loc hQ (by omega) (by omega) hhp sw f4).of_grow g2,hf,rfl⟩
 | ok y=>
  rw[hg] at hm
  obtain⟨u,rfl,hv⟩:=hm
  refine⟨_,_,_,u.ps,_,u.pa,_,_,rfl,stoV (v:=u) K23 rfl fun h4 k4 f4=>rd7 (Vv7.blk k4) ?_⟩
  exact⟨((toO g2).trans f3).trans' f4 fun i hi e=>by omega,Q1,(nx.loc hQ (by omega) (by omega) hhp sw f4).of_grow g2,u,rfl,hv.fr f4 nq fun _ b hb=>nq b hb⟩
end
end Go.Proofs.Ytggacajnmgligaa
namespace Go.Proofs.Ytggacajnmgligaa
open Go Go.Lf
set_option linter.unusedVariables false
theorem own_stoP {h:Heap} {B sz:Nat} {s:Sv} {xs:List Value} (o:Own h B sz s xs) {c:Nat} {vs:List Value} (hc:c+vs.length≤s.n*sz) (h1:∀v∈vs,v.oneCell'=true) {p:Addr} (hp:s.a=some p) {K:Heap→Prop}
  (k:∀h',Own h' B sz s (xs.take c++vs++xs.drop (c+vs.length))→Fr s.own h h'→K h'):stoA h (p.add c) vs K:=by
 rcases o.mem with⟨e,_,_⟩|⟨g,cur,e,hB,kk,hcc,hsz,ht⟩
 ·rw[e] at hp;cases hp
 rw[e] at hp
 simp only[Option.some.injEq] at hp
 subst hp
 have hcap:s.n*sz≤cur.size:=by rw[hsz];exact Nat.mul_le_mul_right _ hcc
 have hfit:c+vs.length≤cur.size:=by omega
 refine⟨h1,fun j hj=>?_,?_⟩
 ·rw[add_plain,add_plain]
  refine⟨?_,kk.fz _⟩
  rw[kk.cl]
  have:c+j<cur.size:=by omega
  simp[this]
 ·rintro h' rfl
  have hs:=scs_blk g vs h cur c 0 kk
  simp only[Nat.add_zero] at hs
  rw[add_plain,Nat.zero_add]
  have hf:=fold_set vs cur c hfit
  refine k _ ⟨?_,.inr ⟨g,_,e,hB,hs.1,hcc,?_,?_⟩⟩ (hs.2.mono fun b _ hb=>⟨_,e,hb.symm⟩)
  ·have:=o.len
   simp only[List.length_append,List.length_take,List.length_drop]
   omega
  ·rw[←hsz,←Array.length_toList,hf]
   simp
   omega
  ·rw[hf]
   have hxl:=o.len
   apply List.ext_getElem?
   intro q
   rw[←ht]
   simp only[List.getElem?_take,List.getElem?_append,List.length_take,List.length_append,List.getElem?_drop,Array.length_toList]
   have m1:min c cur.size=c:=by omega
   have m2:min (s.n*sz) cur.size=s.n*sz:=by omega
   have m3:min c (s.n*sz)=c:=by omega
   simp only[m1,m2,m3]
   by_cases q1:q<s.n*sz
   ·by_cases q2:q<c
    ·have q3:q<c+vs.length:=by omega
     simp[q1,q2,q3]
    ·by_cases q3:q<c+vs.length
     ·simp[q1,q2,q3]
     ·simp[q1,q3]
      intro hh;omega
   ·have q3:¬q<c+vs.length:=by omega
    simp[q1,q3]
    intro hh;omega
theorem flat_setA {α:Type} {f:α→List Value} {sz:Nat} (hf:∀a,(f a).length=sz) {c:Nat} {vs:List Value} {a':α}:∀(l:List α) (i:Nat) (hi:i<l.length),(f l[i]).take c++vs++(f l[i]).drop (c+vs.length)=f a'→c+vs.length≤sz →
  (l.flatMap f).take (i*sz+c)++vs++(l.flatMap f).drop (i*sz+c+vs.length)=(l.set i a').flatMap f
 | a :: l,0,_,he,hc=>by
  simp only[List.getElem_cons_zero] at he
  rw[List.set_cons_zero,List.flatMap_cons,List.flatMap_cons,Nat.zero_mul,Nat.zero_add,←he,List.take_append_of_le_length (by rw[hf];omega),List.drop_append_of_le_length (by rw[hf];omega)]
  simp
 | a :: l,i+1,hi,he,hc=>by
  have:=flat_setA hf l i (by simpa using hi) (by simpa using he) hc
  rw[List.set_cons_succ,List.flatMap_cons,List.flatMap_cons,←this]
  have e1:(i+1)*sz+c=(f a).length+(i*sz+c):=by rw[hf,Nat.succ_mul];omega
  have e2:(i+1)*sz+c+vs.length=(f a).length+(i*sz+c+vs.length):=by rw[e1];omega
  rw[e2,e1,List.take_length_add_append,List.drop_length_add_append]
  simp
section
variable {Q Q':Nat→Prop} {h h' h2:Heap} {hp:Nat} {X X':Hs} {s:Sv} {rs:List Rw}
theorem RAt.put (x:RAt Q h hp X s rs) (f:Fr s.own h h') {j:Nat} {r':Rw} {a':Al} (o':Own h' 0 9 s ((rs.set j r').flatMap rwc)) (hr:r'.live=a'.live∧VAt false Q h a'.v (anyA Q) r'.v∧SkAt Q h a'.st r'.t) (e1:X'.l=X.l.set j a') (e2:X'.tags=X.tags) (e3:X'.most=X.most):RAt Q h' hp X' s (rs.set j r'):=by
 have qn:∀b,Q b→¬s.own b:=fun b hb=>(x.q b hb).2
 refine⟨by rw[e2,e3];exact f.blk x.hd x.ne,o',x.ne,by rw[e1];simp[x.len],fun i i1 i2=>?_,x.q⟩
 have i1':i<X.l.length:=by rw[e1] at i1;simpa using i1
 have i2':i<rs.length:=by simpa using i2
 obtain⟨b1,b2,b3⟩:=x.el i i1' i2'
 simp only[e1,List.getElem_set]
 split
 ·exact⟨hr.1,hr.2.1.fr f qn fun _ b hb=>qn b hb,hr.2.2.fr f qn⟩
 ·exact⟨b1,b2.fr f qn fun _ b hb=>qn b hb,b3.fr f qn⟩
theorem RAt.sto_v (x:RAt Q h hp X s rs) {j:Nat} (hj:j<X.l.length) {p:Addr} (ep:s.a=some p) {u:Vv} {t:Vl} (hv:VAt false Q h t (anyA Q) u) {K:Heap→Prop}
  (k:∀h' rs',Fr s.own h h'→RAt Q h' hp { X with l:=X.l.set j { X.l[j] with v:=t } } s rs'→K h'):stoA h ((p.add (j*9)).add 1) (vvs u).toList K:=by
 have hr:j<rs.length:=by have:=x.len;omega
 have hn:=x.n
 rw[add_add]
 refine own_stoP x.own (by rw[hn];simp;omega) (one_vv u) ep fun h' o' f=>?_
 rw[flat_setA (a':={ rs[j] with v:=u }) rwc_len rs j hr rfl (by simp)] at o'
 refine k h' _ f (x.put f o' ?_ rfl rfl rfl)
 obtain⟨b1,b2,b3⟩:=x.el j hj hr
 exact⟨b1,hv,b3⟩
theorem RAt.sto_no (x:RAt Q h hp X s rs) {j:Nat} (hj:j<X.l.length) {p:Addr} (ep:s.a=some p) {n:Int} {K:Heap→Prop}
  (k:∀h' rs',Fr s.own h h'→RAt Q h' hp { X with live:=n,l:=X.l.set j ⟨false,zVl,[]⟩ } s rs'→K h'):stoA h (p.add (j*9)) (rwc ⟨false,zVv,⟨none,0,0⟩⟩) K:=by
 have hr:j<rs.length:=by have:=x.len;omega
 have hn:=x.n
 refine own_stoP x.own (by rw[hn];simp;omega) (one_rw _) ep fun h' o' f=>?_
 have e:=flat_setA (c:=0) (vs:=rwc ⟨false,zVv,⟨none,0,0⟩⟩) (a':=⟨false,zVv,⟨none,0,0⟩⟩) rwc_len rs j hr rfl (by simp)
 rw[Nat.add_zero] at e
 rw[e] at o'
 exact k h' _ f (x.put f o' ⟨rfl,zVl_at,SkAt.nil _ _⟩ rfl rfl rfl)
theorem RAt.sto_t (x:RAt Q h hp X s rs) {j:Nat} (hj:j<X.l.length) {p:Addr} (ep:s.a=some p) {t:Sv} {st:List Hd} (ht:SkAt Q h st t) {K:Heap→Prop}
  (k:∀h' rs',Fr s.own h h'→RAt Q h' hp { X with l:=X.l.set j { X.l[j] with st:=st } } s rs'→K h'):sto h ((p.add (j*9)).add 8) (.slice t.a t.n t.c) K:=by
 have hr:j<rs.length:=by have:=x.len;omega
 have hn:=x.n
 rw[add_add]
 refine own_stoC x.own (by rw[hn];omega) rfl ep fun h' o' f=>?_
 rw[flat_set rwc_len rs j hr (a':={ rs[j] with t:=t }) rfl (by omega)] at o'
 refine k h' _ f (x.put f o' ?_ rfl rfl rfl)
 obtain⟨b1,b2,b3⟩:=x.el j hj hr
 exact⟨b1,b2,ht⟩
theorem getX_ok {al tg:Int} {pa:List Int} {w:Bool} {y:Vl} (h:(getX X al pa tg w).2=.ok y):useX X al pa tg w=.ok (getX X al pa tg w).1∧∃j:Nat,al=j∧∃hj:j<(getX X al pa tg w).1.l.length,atS (getX X al pa tg w).1 al=some (getX X al pa tg w).1.l[j]∧getV (getX X al pa tg w).1.l[j].v pa=.ok y:=by
 have key:∃X1,useX X al pa tg w=.ok X1∧getX X al pa tg w=(X1,getW X1 al pa):=by
  unfold getX at h ⊢
  cases hu:useX X al pa tg w with
  | error f=>rw[hu] at h;cases h
  | ok X1=>exact⟨X1,rfl,rfl⟩
 obtain⟨X1,hu,e⟩:=key
 rw[e] at h ⊢
 obtain⟨j,rfl,hj,hl,hat⟩:=useX_at hu
 refine⟨hu,j,rfl,hj,hat,?_⟩
 unfold getW at h
 rw[hat] at h
 simp only at h
 cases hg:getV X1.l[j].v pa with
 | error f=>rw[hg] at h;cases h
 | ok y'=>
  rw[hg] at h
  simp only at h
  split at h
  ·exact h
  ·cases h
theorem refTake_spec (x:RAt Q h hp X s rs) (hX:FewX X) (hQ:∀b,Q b→b<h.size) {al tg:Int} {sp:Sv} {pa:List Int} (hpt:IntsC Q h sp pa) (hpl:pa.length≤1000000) :
  CallsH Try.prog 34 #[ptr hp,.agg (pvs al sp tg)] h (fun v h'=>Fr s.own h h'∧∃Q',RNx Q h hp s Q' h' (takeX X al pa tg).1∧match (takeX X al pa tg).2 with
   | .error f=>f≠0∧v=.tuple #[.agg (vvs zVv),.int .i64 f]
   | .ok y=>∃u,v=.tuple #[.agg (vvs u),.int .i64 0]∧VAt false Q' h' y (anyA Q') u):=by
 have toO:∀ {a b:Heap},Grow a b→Fr s.own a b:=fun g=>g.mono fun _ _ h=>h.elim
 have sw:∀b,s.own b→b<h.size:=fun b hb=>(x.own.ge hb).2
 have hhp:=x.hd.lt
 apply F34
 unfold L34
 refine newPt fun h1 k1 f1 z1=>newV (v:=zVv) fun h2 k2 f2 z2=>?_
 have g2:=f1.trans f2
 have z1':=f1.size
 have K1:=f2.blk k1 fun h=>h
 refine rdPt K1 ?_
 have hpt2:=hpt.fr g2 fun _ _ h=>h
 have x2:=x.grow g2
 refine cal_of (get50_spec x2 hX (fun b hb=>by have:=hQ b hb;omega) hpt2 hpl true) ?_
 rintro v h3 ⟨f3,Q1,nx,hm⟩
 have K13:=f3.blk K1 fun e=>by have:=sw _ e;omega
 have K23:=f3.blk k2 fun e=>by have:=sw _ e;omega
 have z3:=f3.size
 have F3:Fr s.own h h3:=(toO g2).trans f3
 cases hg:(getX X al pa tg true).2 with
 | error f=>
  rw[hg] at hm
  obtain⟨hf,rfl⟩:=hm
  have et:takeX X al pa tg=((getX X al pa tg true).1,.error f):=by
   unfold takeX
   generalize getX X al pa tg true=r at *
   obtain⟨r1,r2⟩:=r
   simp only at hg
   rw[hg]
  rw[et]
  refine⟨_,_,_,zVv.ps,_,zVv.pa,_,_,rfl,mineV (v:=zVv) fun h5 k5 g5=>?_⟩
  refine⟨fun hh=>hh=h5,⟨fun e=>absurd (by simpa using e) hf,fun _=>rfl⟩,?_⟩
  rintro _ rfl
  refine rd7 (Vv7.blk k5) (stoV (v:=zVv) (g5.blk K23 fun h=>h) rfl fun h4 k4 f4=>rd7 (Vv7.blk k4) ?_)
  exact⟨(F3.trans (toO g5)).trans' f4 fun i hi e=>by omega,Q1,((nx.then_grow g5).loc hQ (by omega) (by omega) hhp sw f4).of_grow g2,hf,rfl⟩
 | ok y=>
  rw[hg] at hm
  obtain⟨u,rfl,hv⟩:=hm
  obtain⟨hu,j,rfl,hj,hat,hgv⟩:=getX_ok hg
  have hfw:=few_use hX hu j hj
  have et:takeX X j pa tg=({ (getX X j pa tg true).1 with l:=(getX X j pa tg true).1.l.set j { (getX X j pa tg true).1.l[j] with v:=putV (getX X j pa tg true).1.l[j].v (natsOf pa) zVl } },.ok y):=by
   unfold takeX
   generalize getX X j pa tg true=r at *
   obtain⟨r1,r2⟩:=r
   simp only at hg hat
   rw[hg]
   simp only
   rw[hat]
   simp
  rw[et]
  generalize (getX X j pa tg true).1=X1 at *
  have hQ1:∀b,Q1 b→b<h3.size∧b≠h1.size:=fun b hb=>by
   rcases nx.2.1 b hb with h|h
   ·have:=hQ b h;omega
   ·omega
  obtain⟨q1,q2,rs1,x3⟩:=nx
  refine⟨_,_,_,u.ps,_,u.pa,_,_,rfl,mineV (v:=u) fun h5 k5 g5=>?_⟩
  have z5:=g5.size
  have x5:=x3.grow g5
  obtain⟨p,ep,hr,c⟩:=x5.row hj
  obtain⟨el1,el2,el3⟩:=x5.el j hj hr
  have hn5:=x5.n
  have K15:=g5.blk K13 fun h=>h
  have K25:=g5.blk K23 fun h=>h
  have hpt5:IntsC Q h5 sp pa:=(hpt2.fr f3 fun b hb e=>(x2.q b hb).2 e).fr g5 fun _ _ h=>h
  refine⟨fun hh=>Fr s.own h5 hh∧∃(Q2:Nat→Prop) (rs2:List Rw),(∀b,Q1 b→Q2 b)∧(∀b,Q2 b→Q1 b∨(h5.size≤b∧b<hh.size))∧RAt Q2 hh hp { X1 with l:=X1.l.set j { X1.l[j] with v:=putV X1.l[j].v (natsOf pa) zVl } } s rs2,⟨fun _=>?_,fun e=>(by simp at e)⟩,?_⟩
  ·refine⟨fun hh=>Grow h5 hh,Fr.refl _ _,⟨hp,0,none⟩,rfl,⟨hp,0,none⟩,rfl,ldS_i (s:=s) (by rw[x5.hd.cl];rfl) (ldI_i (x:=(j:Int)) (by rw[K15.cl];rfl) ⟨p,ep,by omega,by rw[hn5];omega,?_⟩)⟩
   rw[Int.toNat_natCast]
   refine rd7 (row_v c) (ldS_i (s:=sp) (by rw[add_plain,K15.cl];rfl) ?_)
   refine⟨s,fun hh f=>(by rw[(f.blk x5.hd fun h=>h).cl];rfl),(j:Int),fun hh f=>(by rw[(f.blk K15 fun h=>h).cl];rfl),?_⟩
   refine cal_of (refPut_spec pa (x:=zVl) (xv:=zVv) hgv hfw el2 hpt5 zVl_at) ?_
   rintro _ h6 ⟨f6,u',rfl,hv6⟩
   refine⟨_,_,_,u'.ps,_,u'.pa,_,rfl,f6,p,ep,by omega,by rw[hn5];omega,?_⟩
   rw[Int.toNat_natCast]
   have x6:RAt (fun b=>Q1 b∨(h5.size≤b∧b<h6.size)) h6 hp X1 s rs1:=(x5.grow f6).weak (fun b hb=>.inl hb) fun b hb=>by
    rcases hb with hb|hb
    ·exact x5.q b hb
    ·have:=x5.hd.lt
     exact⟨by omega,fun e=>by have:=(x5.own.ge e).2;omega⟩
   refine x6.sto_v hj ep hv6 fun h7 rs7 f7 x7=>?_
   exact⟨(toO f6).trans f7,_,rs7,fun b hb=>.inl hb,fun b hb=>hb.imp id fun hb=>by have:=f7.size;omega,x7⟩
  rintro h8 ⟨f8,Q2,rs2,p1,p2,x8⟩
  have z8:=f8.size
  have K58:=f8.blk k5 fun e=>by have:=sw _ e;omega
  have K28:=f8.blk K25 fun e=>by have:=sw _ e;omega
  refine rd7 (Vv7.blk K58) (stoV (v:=u) K28 rfl fun h9 k9 f9=>rd7 (Vv7.blk k9) ?_)
  have nx8:RNx Q h2 hp s Q2 h8 { X1 with l:=X1.l.set j { X1.l[j] with v:=putV X1.l[j].v (natsOf pa) zVl } }:=⟨fun b hb=>p1 b (q1 b hb),fun b hb=>by
   rcases p2 b hb with h|h
   ·exact (q2 b h).imp id fun h=>by omega
   ·exact .inr (by omega),rs2,x8⟩
  refine⟨((F3.trans (toO g5)).trans f8).trans' f9 fun i hi e=>by omega,Q2,(nx8.loc hQ (by omega) (by omega) hhp sw f9).of_grow g2,u,rfl,?_⟩
  have hv8:VAt false Q1 h8 y (anyA Q1) u:=(VAt.grow hv g5).fr f8 (fun b hb e=>(x5.q b hb).2 e) fun _ b hb e=>(x5.q b hb).2 e
  exact (hv8.fr f9 (fun b hb e=>(hQ1 b hb).2 e) fun _ b hb e=>(hQ1 b hb).2 e).up p1
end
end Go.Proofs.Ytggacajnmgligaa
namespace Go.Proofs.Ytggacajnmgligaa
open Go Go.Lf
set_option linter.unusedVariables false
def FewV (X:Hs):Prop:=∀a∈X.l,few a.v
structure RDo (Q:Nat→Prop) (h:Heap) (hp:Nat) (s:Sv) (n:Nat) (X':Hs) (h':Heap):Prop where
 fr:Fr s.own h h'
 at_:∃rs',RAt Q h' hp X' s rs'
 few:FewV X'
 live:liveN X'≤n
theorem RDo.pre {Q:Nat→Prop} {h h1 h':Heap} {hp:Nat} {s:Sv} {n m:Nat} {X':Hs} (f:Fr s.own h h1) (x:RDo Q h1 hp s n X' h') (hm:n≤m):RDo Q h hp s m X' h':=⟨f.trans x.fr,x.at_,x.few,Nat.le_trans x.live hm⟩
def RFreeOk (n:Nat):Prop:=∀(Q:Nat→Prop) (h:Heap) (hp:Nat) (X:Hs) (s:Sv) (rs:List Rw) (i:Int),RAt Q h hp X s rs→liveN X≤n→FewV X →
 CallsH Try.prog 38 #[ptr hp,.int .i64 i] h (fun v h'=>v=.int .i64 (freeS n X i).2∧RDo Q h hp s (liveN X) (freeS n X i).1 h')
theorem rdrop_spec {n:Nat} (hF:RFreeOk n) (t:Vl):∀(Q:Nat→Prop) (h:Heap) (hp:Nat) (X:Hs) (s:Sv) (rs:List Rw) (u:Vv),RAt Q h hp X s rs→liveN X≤n→FewV X→few t→VAt false Q h t (anyA Q) u →
  CallsH Try.prog 54 #[ptr hp,.agg (vvs u)] h (fun v h'=>v=.int .i64 (dropF (freeS n) t X).2∧RDo Q h hp s (liveN X) (dropF (freeS n) t X).1 h'):=by
 refine Vl.ind (P:=fun t=>∀(Q:Nat→Prop) (h:Heap) (hp:Nat) (X:Hs) (s:Sv) (rs:List Rw) (u:Vv),RAt Q h hp X s rs→liveN X≤n→FewV X→few t→VAt false Q h t (anyA Q) u →
  CallsH Try.prog 54 #[ptr hp,.agg (vvs u)] h (fun v h'=>v=.int .i64 (dropF (freeS n) t X).2∧RDo Q h hp s (liveN X) (dropF (freeS n) t X).1 h')) ?_ t
 intro k nn nm ts al pa tg ih Q h hp X s rs u x hn hO hfew hu
 obtain⟨hf1,hf2,hf3⟩:=few_mk.1 hfew
 obtain⟨e1,e2,e3,e4,e5,e6,e7,e8⟩:=vAt_iff.1 hu
 have toO:∀ {a b:Heap},Grow a b→Fr s.own a b:=fun g=>g.mono fun _ _ h=>h.elim
 have sw:∀b,s.own b→b<h.size:=fun b hb=>(x.own.ge hb).2
 rw[drop_mk]
 apply F54
 unfold L54
 refine newV (v:=u) fun h1 k1 f1 z1=>?_
 have x1:=x.grow f1
 refine ldI_i (x:=u.k) (by rw[k1.cl];rfl) ?_
 rw[e1]
 refine ifb_iff (q:=k=6) (by simp) (fun hk=>?_) (fun hk=>?_)
 ·rw[if_pos hk]
  refine ldI_i (x:=al) (by rw[add_plain,k1.cl,←e4];rfl) ?_
  refine cal_of (hF Q h1 hp X s rs al x1 hn hO) ?_
  rintro _ h2 ⟨rfl,hd⟩
  exact⟨_,rfl,rfl,hd.pre (toO f1) (Nat.le_refl _)⟩
 rw[if_neg hk]
 have hall:(if k≠5 then (X,(0:Int)) else dropL (freeS n) ts X)=dropL (freeS n) (if k=5 then ts else []) X:=by
  by_cases hk5:k=5
  ·rw[if_neg (by simp[hk5]),if_pos hk5]
  ·rw[if_pos hk5,if_neg hk5];rfl
 rw[hall]
 refine⟨fun i h'=>∃(j:Nat) (Xj:Hs) (rj:List Rw),i=j∧j≤ts.length∧Fr s.own h1 h'∧RAt Q h' hp Xj s rj∧dropL (freeS n) (if k=5 then ts else []) X=dropL (freeS n) ((if k=5 then ts else []).drop j) Xj∧liveN Xj≤liveN X∧FewV Xj,fun i _=>ts.length - i.toNat,⟨0,X,rs,rfl,Nat.zero_le _,Fr.refl _ _,x1,rfl,Nat.le_refl _,hO⟩,?_⟩
 rintro _ h3 ⟨j,Xj,rj,rfl,hj,f3,x3,hd,hl3,hO3⟩
 have k3:=f3.blk k1 fun e=>by have:=sw _ e;omega
 have F3:Fr s.own h h3:=(toO f1).trans f3
 refine ldI_i (x:=u.k) (by rw[k3.cl];rfl) ?_
 rw[e1]
 refine⟨fun c=>c=decide (k=5∧j<ts.length),⟨fun e=>?_,fun e=>?_⟩,?_⟩
 ·have hk5:k=5:=by simpa using e
  refine ldS_i (s:=u.ps) (by rw[add_plain,k3.cl];rfl) ?_
  rw[e7]
  simp[hk5]
 ·have hk5:k≠5:=by simpa using e
  simp[hk5]
 rintro _ rfl
 refine ifb_dec (fun hb=>?_) (fun hb=>?_)
 rotate_left
 ·have:(if k=5 then ts else []).drop j=[]:=by
   by_cases hk5:k=5
   ·rw[if_pos hk5,List.drop_of_length_le (by omega)]
   ·rw[if_neg hk5];simp
  rw[this] at hd
  rw[hd]
  exact⟨rfl,F3,⟨rj,x3⟩,hO3,hl3⟩
 obtain⟨hk5,hlt⟩:=hb
 rw[if_pos hk5] at hd ⊢
 have nq:∀b,Q b→¬s.own b:=fun b hb=>(x.q b hb).2
 have hu3:VAt false Q h3 (.mk k nn nm ts al pa tg) (anyA Q) u:=hu.fr F3 nq fun _ b hb=>nq b hb
 obtain⟨-,-,-,-,-,-,-,e8'⟩:=vAt_iff.1 hu3
 obtain⟨p,w,q1,q2,q3,q4,q5⟩:=e8' j hlt
 refine ldS_i (s:=u.ps) (by rw[add_plain,k3.cl];rfl) ⟨p,q1,by omega,by rw[e7];omega,?_⟩
 rw[Int.toNat_natCast]
 refine rd7 q4 ?_
 refine cal_of (ih ts[j] (List.getElem_mem hlt) Q h3 hp Xj s rj w x3 (by omega) hO3 (hf3 _ (List.getElem_mem hlt)) q5) ?_
 rintro _ h6 ⟨rfl,hdo⟩
 rw[List.drop_eq_getElem_cons hlt,dropL] at hd
 refine⟨_,rfl,fun e=>?_,fun e=>?_⟩
 ·have e':(dropF (freeS n) ts[j] Xj).2≠0:=by simpa using e
  rw[if_pos e'] at hd
  rw[hd]
  exact⟨rfl,hdo.pre F3 hl3⟩
 ·have e':¬(dropF (freeS n) ts[j] Xj).2≠0:=by simpa using e
  rw[if_neg e'] at hd
  rw[wrap_succ hlt (by omega)]
  obtain⟨r6,x6⟩:=hdo.at_
  exact⟨⟨j+1,_,r6,rfl,hlt,f3.trans hdo.fr,x6,hd,Nat.le_trans hdo.live hl3,hdo.few⟩,by dsimp only;omega⟩
theorem rfree_ok (n:Nat):RFreeOk n:=by
 induction n with
 | zero=>
  intro Q h hp X s rs i x hn hO
  apply F38
  unfold L38
  refine cal_of (there_spec x i) ?_
  rintro _ _ ⟨rfl,rfl⟩
  refine⟨_,rfl,?_⟩
  have hnone:atS X i=none:=by
   cases ha:atS X i with
   | none=>rfl
   | some a=>
    obtain⟨j,_,hj,ea,hl⟩:=atS_some ha
    have:0<liveN X:=List.countP_pos_iff.2 ⟨a,by rw[←ea];exact List.getElem_mem _,hl⟩
    omega
  rw[hnone]
  exact⟨fun _=>⟨rfl,Fr.refl _ _,⟨rs,x⟩,hO,Nat.le_refl _⟩,fun e=>by simp at e⟩
 | succ n ihn=>
  intro Q h hp X s rs i x hn hO
  have toO:∀ {a b:Heap},Grow a b→Fr s.own a b:=fun g=>g.mono fun _ _ h=>h.elim
  have sw:∀b,s.own b→b<h.size:=fun b hb=>(x.own.ge hb).2
  have nq:∀b,Q b→¬s.own b:=fun b hb=>(x.q b hb).2
  apply F38
  unfold L38
  refine cal_of (there_spec x i) ?_
  rintro _ _ ⟨rfl,rfl⟩
  refine⟨_,rfl,?_⟩
  cases ha:atS X i with
  | none=>
   have e:freeS (n+1) X i=(X,1):=by unfold freeS;rw[ha]
   rw[e]
   exact⟨fun _=>⟨rfl,Fr.refl _ _,⟨rs,x⟩,hO,Nat.le_refl _⟩,fun e=>by simp at e⟩
  | some a=>
   refine⟨fun e=>(by simp at e),fun _=>?_⟩
   obtain⟨j,rfl,hj,ea,hl⟩:=atS_some ha
   have e:freeS (n+1) X j=dropF (freeS n) a.v { X with live:=X.live - 1,l:=X.l.set j ⟨false,zVl,[]⟩ }:=by
    conv=>lhs;unfold freeS
    rw[ha]
    simp
   rw[e]
   obtain⟨p,ep,hr,c⟩:=x.row hj
   obtain⟨el1,el2,el3⟩:=x.el j hj hr
   have hnn:=x.n
   refine⟨_,rfl,ldS_i (s:=s) (by rw[x.hd.cl];rfl) ⟨p,ep,by omega,by rw[hnn];omega,?_⟩⟩
   rw[Int.toNat_natCast]
   have V:=row_v c
   rw[ea] at el2
   generalize rs[j].v=u at *
   refine rd7 V (mineV (v:=u) fun h3 k3 g3=>?_)
   have x3:=x.grow g3
   refine⟨_,rfl,ldS_i (s:=s) (by rw[x3.hd.cl];rfl) ⟨p,ep,by omega,by rw[hnn];omega,?_⟩⟩
   refine x3.sto_no (n:=X.live - 1) hj ep fun h4 rs4 f4 x4=>?_
   have k4:=f4.blk k3 fun e=>by have:=sw _ e;omega
   refine rd7 (Vv7.blk k4) ?_
   have hu4:VAt false Q h4 a.v (anyA Q) u:=(VAt.grow el2 g3).fr f4 nq fun _ b hb=>nq b hb
   have hlive:=liveN_set (S:=X) hj (by rw[ea];exact hl) (X.live - 1) 0
   have hfa:few a.v:=hO a (by rw[←ea];exact List.getElem_mem _)
   have hO':FewV { X with live:=X.live - 1,l:=X.l.set j ⟨false,zVl,[]⟩ }:=fun b hb=>by
    rcases List.mem_or_eq_of_mem_set hb with h|rfl
    ·exact hO b h
    ·exact few_zVl
   refine cal_of (rdrop_spec ihn a.v Q h4 hp _ s rs4 u x4 (by omega) hO' hfa hu4) ?_
   rintro _ h5 ⟨rfl,hdo⟩
   exact⟨_,rfl,rfl,hdo.pre ((toO g3).trans f4) (by omega)⟩
end Go.Proofs.Ytggacajnmgligaa
namespace Go.Proofs.Ytggacajnmgligaa
open Go Go.Lf
set_option linter.unusedVariables false
theorem liveN_map {X X':Hs} (h:X.l.map (·.live)=X'.l.map (·.live)):liveN X=liveN X':=by
 have e:∀l:List Al,l.countP (fun a=>a.live)=(l.map (·.live)).countP id:=fun l=>by rw[List.countP_map];rfl
 unfold liveN
 rw[e,e,h]
theorem liveN_use {X X':Hs} {al tg:Int} {pa:List Int} {w:Bool} (h:useX X al pa tg w=.ok X'):liveN X'=liveN X:=by
 obtain⟨e1,_,e3⟩:=useX_len h
 refine liveN_map (List.ext_getElem (by simpa using e1) fun i h1 h2=>?_)
 simp only[List.getElem_map]
 exact (e3 i (by simpa using h1) (by simpa using h2)).1
theorem liveN_v {X X':Hs} {j:Nat} (hj:j<X.l.length) {a:Al} (ha:a.live=X.l[j].live) (e:X'.l=X.l.set j a):liveN X'=liveN X:=by
 refine liveN_map ?_
 rw[e,List.map_set,ha]
 refine List.ext_getElem (by simp) fun i h1 h2=>?_
 simp only[List.getElem_set,List.getElem_map]
 split
 ·rename_i e;subst e;rfl
 ·rfl
section
variable {Q Q':Nat→Prop} {h h' h2:Heap} {hp:Nat} {X X':Hs} {s:Sv} {rs:List Rw}
theorem refWrite_spec (x:RAt Q h hp X s rs) (hX:FewX X) (hQ:∀b,Q b→b<h.size) {al tg:Int} {sp:Sv} {pa:List Int} (hpt:IntsC Q h sp pa) (hpl:pa.length≤1000000) {xt:Vl} {xv:Vv} (hxv:VAt false Q h xt (anyA Q) xv) (hxf:few xt) {n:Nat} (hn:liveN X≤n) :
  CallsH Try.prog 35 #[ptr hp,.agg (pvs al sp tg),.agg (vvs xv)] h (fun v h'=>Fr s.own h h'∧v=.int .i64 (writeX n X al pa tg xt).2∧∃Q',RNx Q h hp s Q' h' (writeX n X al pa tg xt).1):=by
 have toO:∀ {a b:Heap},Grow a b→Fr s.own a b:=fun g=>g.mono fun _ _ h=>h.elim
 have sw:∀b,s.own b→b<h.size:=fun b hb=>(x.own.ge hb).2
 have hhp:=x.hd.lt
 apply F35
 unfold L35
 refine newPt fun h1 k1 f1 z1=>newV (v:=xv) fun h2 k2 f2 z2=>?_
 have g2:=f1.trans f2
 have z1':=f1.size
 have K1:=f2.blk k1 fun h=>h
 refine rdPt K1 ?_
 have x2:=x.grow g2
 have hpt2:=hpt.fr g2 fun _ _ h=>h
 refine cal_of (use_nx x2 hX hpt2 hpl true) ?_
 rintro v h3 ⟨f3,Q1,nx,rfl⟩
 have K13:=f3.blk K1 fun e=>by have:=sw _ e;omega
 have K23:=f3.blk k2 fun e=>by have:=sw _ e;omega
 have z3:=f3.size
 have F3:Fr s.own h h3:=(toO g2).trans f3
 unfold writeX
 cases hu:useX X al pa tg true with
 | error f=>
  rw[hu] at nx
  exact⟨_,rfl,fun _=>⟨F3,rfl,Q1,nx.of_grow g2⟩,fun e=>absurd (by simpa using e) (useX_err hu)⟩
 | ok X1=>
  rw[hu] at nx
  have nx:RNx Q h2 hp s Q1 h3 X1:=nx
  refine⟨_,rfl,fun e=>(by simp at e),fun _=>?_⟩
  obtain⟨j,rfl,hj,hlive,hat⟩:=useX_at hu
  have hfw:=few_use hX hu j hj
  have hlen:=(useX_len hu).1
  obtain⟨q1,q2,rs1,x3⟩:=nx
  obtain⟨p,ep,hr,c⟩:=x3.row hj
  obtain⟨el1,el2,el3⟩:=x3.el j hj hr
  have hn3:=x3.n
  have nq2:∀b,Q b→¬s.own b:=fun b hb=>(x2.q b hb).2
  have hpt3:IntsC Q h3 sp pa:=hpt2.fr f3 nq2
  have hxv3:VAt false Q h3 xt (anyA Q) xv:=(VAt.grow hxv g2).fr f3 nq2 fun _ b hb=>nq2 b hb
  simp only
  rw[hat]
  simp only
  have hQ1:∀b,Q1 b→b<h3.size∧b≠h1.size:=fun b hb=>by
   rcases q2 b hb with h|h
   ·have:=hQ b h;omega
   ·omega
  refine⟨fun p9 f hh=>Grow h3 hh∧match getV X1.l[j].v pa with
   | .error g=>f=g∧g≠0
   | .ok y=>f=0∧∃u b,p9=⟨b,0,none⟩∧blk hh b (vvs u)∧h3.size≤b∧VAt false Q1 hh y (anyA Q1) u,?_,?_⟩
  ·refine⟨fun hh=>Grow h3 hh,Fr.refl _ _,⟨hp,0,none⟩,rfl,s,fun hh f=>(by rw[(f.blk x3.hd fun h=>h).cl];rfl),(j:Int),fun hh f=>(by rw[(f.blk K13 fun h=>h).cl];rfl),p,ep,by omega,by rw[hn3];omega,?_⟩
   rw[Int.toNat_natCast]
   have V:=row_v c
   have V':∀hh,Grow h3 hh→Vv7 hh ((p.add (j*9)).add 1) rs1[j].v:=fun hh f=>V.fr f fun h=>h
   generalize rs1[j].v=u at *
   refine⟨u.k,u.n,u.nm,u.ps,u.al,u.pa,u.tg,fun hh f=>by have:=V' hh f 0 _ rfl;rwa [add_zero] at this,fun hh f=>V' hh f 1 _ rfl,fun hh f=>V' hh f 2 _ rfl,fun hh f=>V' hh f 3 _ rfl,fun hh f=>V' hh f 4 _ rfl,fun hh f=>V' hh f 5 _ rfl,fun hh f=>V' hh f 6 _ rfl,?_⟩
   refine⟨sp,fun hh f=>(by rw[add_plain,(f.blk K13 fun h=>h).cl];rfl),?_,?_⟩
   ·refine cal_of (refGet_spec pa el2 hpt3) ?_
    rintro _ h5 ⟨f5,hm⟩
    cases hg:getV X1.l[j].v pa with
    | error f=>
     rw[hg] at hm
     simp only at hm
     subst hm
     refine⟨_,_,_,zVv.ps,_,zVv.pa,_,_,rfl,mineV (v:=zVv) fun h7 k7 g7=>?_⟩
     exact⟨f5.trans g7,rfl,getV_err _ _ _ hg⟩
    | ok y=>
     rw[hg] at hm
     obtain⟨u',rfl,hv'⟩:=hm
     refine⟨_,_,_,u'.ps,_,u'.pa,_,_,rfl,mineV (v:=u') fun h7 k7 g7=>?_⟩
     exact⟨f5.trans g7,rfl,u',_,rfl,k7,f5.size,hv'.grow g7⟩
   ·refine newV (v:=zVv) fun h8 k8 g8 z8=>⟨g8,?_⟩
    refine cal_of (refGet_spec pa (VAt.grow el2 g8) (hpt3.fr g8 fun _ _ h=>h)) ?_
    rintro _ h5 ⟨f5,hm⟩
    have k5:=f5.blk k8 fun h=>h
    cases hg:getV X1.l[j].v pa with
    | error f=>
     rw[hg] at hm
     simp only at hm
     subst hm
     refine⟨_,_,_,zVv.ps,_,zVv.pa,_,_,rfl,stoV (v:=zVv) k5 rfl fun h7 k7 g7=>?_⟩
     exact⟨(g8.trans f5).trans' g7 fun i hi e=>by omega,rfl,getV_err _ _ _ hg⟩
    | ok y=>
     rw[hg] at hm
     obtain⟨u',rfl,hv'⟩:=hm
     refine⟨_,_,_,u'.ps,_,u'.pa,_,_,rfl,stoV (v:=u') k5 rfl fun h7 k7 g7=>?_⟩
     refine⟨(g8.trans f5).trans' g7 fun i hi e=>by omega,rfl,u',_,rfl,k7,Nat.le_refl _,hv'.fr g7 (fun b hb e=>by have:=(hQ1 b hb).1;omega) fun _ b hb e=>by have:=(hQ1 b hb).1;omega⟩
  rintro v9 f10 h10 ⟨f10',hm⟩
  have nx3:RNx Q h2 hp s Q1 h10 X1:=RNx.then_grow ⟨q1,q2,rs1,x3⟩ f10'
  have F10:Fr s.own h h10:=F3.trans (toO f10')
  cases hg:getV X1.l[j].v pa with
  | error f=>
   rw[hg] at hm
   obtain⟨rfl,hf⟩:=hm
   exact⟨fun _=>⟨F10,rfl,Q1,nx3.of_grow g2⟩,fun e=>absurd (by simpa using e) hf⟩
  | ok y=>
   rw[hg] at hm
   obtain⟨rfl,u,b,rfl,kb,hb,hv⟩:=hm
   refine⟨fun e=>(by simp at e),fun _=>?_⟩
   have x10:=x3.grow f10'
   have K110:=f10'.blk K13 fun h=>h
   have K210:=f10'.blk K23 fun h=>h
   obtain⟨p',ep',hr',c'⟩:=x10.row hj
   obtain⟨el1',el2',el3'⟩:=x10.el j hj hr'
   have hn10:=x10.n
   have z10:=f10'.size
   refine⟨fun hh=>Grow h10 hh,Fr.refl _ _,⟨hp,0,none⟩,rfl,⟨hp,0,none⟩,rfl,ldS_i (s:=s) (by rw[x10.hd.cl];rfl) (ldI_i (x:=(j:Int)) (by rw[K110.cl];rfl) ⟨p',ep',by omega,by rw[hn10];omega,?_⟩)⟩
   rw[Int.toNat_natCast]
   refine rd7 (row_v c') (ldS_i (s:=sp) (by rw[add_plain,K110.cl];rfl) (rd7 (Vv7.blk K210) ?_))
   refine⟨s,fun hh f=>(by rw[(f.blk x10.hd fun h=>h).cl];rfl),(j:Int),fun hh f=>(by rw[(f.blk K110 fun h=>h).cl];rfl),?_⟩
   have hxv10:VAt false Q1 h10 xt (anyA Q1) xv:=(VAt.grow hxv3 f10').up q1
   refine cal_of (refPut_spec pa hg hfw el2' (hpt3.fr f10' fun _ _ h=>h) hxv10) ?_
   rintro _ h11 ⟨f11,u',rfl,hv11⟩
   refine⟨_,_,_,u'.ps,_,u'.pa,_,rfl,f11,p',ep',by omega,by rw[hn10];omega,?_⟩
   rw[Int.toNat_natCast]
   have x11:RAt (fun b=>Q1 b∨(h10.size≤b∧b<h11.size)) h11 hp X1 s rs1:=(x10.grow f11).weak (fun b hb=>.inl hb) fun b hb=>by
    rcases hb with hb|hb
    ·exact x10.q b hb
    ·have:=x10.hd.lt
     exact⟨by omega,fun e=>by have:=(x10.own.ge e).2;omega⟩
   refine x11.sto_v hj ep' hv11 fun h12 rs12 f12 x12=>?_
   have kb12:=f12.blk (f11.blk kb fun h=>h) fun e=>by have:=sw _ e;omega
   refine rd7 (Vv7.blk kb12) ?_
   have hv12:VAt false Q1 h12 y (anyA Q1) u:=(VAt.grow hv f11).fr f12 (fun b hb=>(x3.q b hb).2) fun _ b hb=>(x3.q b hb).2
   have hl1:liveN X1≤n:=by rw[liveN_use hu];exact hn
   have hl2:=liveN_v (X:=X1) (X':={ X1 with l:=X1.l.set j { X1.l[j] with v:=putV X1.l[j].v (natsOf pa) xt } }) hj (a:={ X1.l[j] with v:=putV X1.l[j].v (natsOf pa) xt }) rfl rfl
   have hO:FewV { X1 with l:=X1.l.set j { X1.l[j] with v:=putV X1.l[j].v (natsOf pa) xt } }:=fun a ha=>by
    rcases List.mem_or_eq_of_mem_set ha with h|rfl
    ·obtain⟨i,hi,rfl⟩:=List.getElem_of_mem h
     exact few_use hX hu i hi
    ·exact few_put _ _ _ hfw hxf
   refine cal_of (rdrop_spec (rfree_ok n) y _ h12 hp _ s rs12 u x12 (by rw[hl2];exact hl1) hO (getV_few _ _ _ hg hfw) (hv12.up (Q':=fun b=>Q1 b∨(h10.size≤b∧b<h11.size)) fun b hb=>.inl hb)) ?_
   rintro _ h13 ⟨rfl,hdo⟩
   have z11:=f11.size
   have z12:=f12.size
   have z13:=hdo.fr.size
   refine⟨_,rfl,(((F10.trans (toO f11)).trans f12).trans hdo.fr),by simp,fun b=>Q1 b∨(h10.size≤b∧b<h11.size),⟨fun b hb=>.inl (q1 b hb),fun b hb=>?_,?_⟩⟩
   ·rcases hb with hb|hb
    ·rcases q2 b hb with h|h
     ·exact .inl h
     ·exact .inr (by omega)
    ·exact .inr (by omega)
   ·simpa using hdo.at_
theorem refPeek_spec (x:RAt Q h hp X s rs) (hQ:∀b,Q b→b<h.size) {al tg:Int} {sp:Sv} {pa:List Int} {P:Nat→Prop} (hpt:IntsC P h sp pa) :
  CallsH Try.prog 39 #[ptr hp,.agg (pvs al sp tg)] h (fun v h'=>Grow h h'∧match peekS X al pa with
   | .error f=>f≠0∧v=.tuple #[.agg (vvs zVv),.int .i64 f]
   | .ok y=>∃u,v=.tuple #[.agg (vvs u),.int .i64 0]∧VAt false Q h' y (anyA Q) u):=by
 apply F39
 unfold L39
 refine newPt fun h1 k1 f1 z1=>newV (v:=zVv) fun h2 k2 f2 z2=>?_
 have g2:=f1.trans f2
 have z1':=f1.size
 have K1:=f2.blk k1 fun h=>h
 have x2:=x.grow g2
 refine ldI_i (x:=al) (by rw[K1.cl];rfl) ?_
 refine cal_of (there_spec x2 al) ?_
 rintro _ _ ⟨rfl,rfl⟩
 refine⟨_,rfl,?_⟩
 unfold peekS
 cases hat:atS X al with
 | none=>
  refine⟨fun _=>stoV (v:=zVv) k2 rfl fun h4 k4 f4=>rd7 (Vv7.blk k4) ?_,fun e=>by simp at e⟩
  exact⟨g2.trans' f4 fun i hi e=>by omega,by omega,rfl⟩
 | some a=>
  refine⟨fun e=>(by simp at e),fun _=>?_⟩
  obtain⟨j,rfl,hj,ea,hl⟩:=atS_some hat
  obtain⟨p,ep,hr,c⟩:=x2.row hj
  obtain⟨el1,el2,el3⟩:=x2.el j hj hr
  have hn:=x2.n
  refine⟨_,rfl,ldS_i (s:=s) (by rw[x2.hd.cl];rfl) (ldI_i (x:=(j:Int)) (by rw[K1.cl];rfl) ⟨p,ep,by omega,by rw[hn];omega,?_⟩)⟩
  rw[Int.toNat_natCast]
  refine rd7 (row_v c) (ldS_i (s:=sp) (by rw[add_plain,K1.cl];rfl) ?_)
  have el2':VAt false (fun b=>Q b∧b<h.size) h2 X.l[j].v (anyA fun b=>Q b∧b<h.size) rs[j].v:=el2.up fun b hb=>⟨hb,hQ b hb⟩
  rw[ea] at el2'
  refine cal_of (refGet_spec pa el2' (hpt.fr g2 fun _ _ h=>h)) ?_
  rintro _ h5 ⟨f5,hm⟩
  have k5:=f5.blk k2 fun h=>h
  simp only
  cases hg:getV a.v pa with
  | error f=>
   rw[hg] at hm
   simp only at hm
   subst hm
   refine⟨_,_,_,zVv.ps,_,zVv.pa,_,_,rfl,stoV (v:=zVv) k5 rfl fun h6 k6 f6=>rd7 (Vv7.blk k6) ?_⟩
   exact⟨(g2.trans f5).trans' f6 fun i hi e=>by omega,getV_err _ _ _ hg,rfl⟩
  | ok y=>
   rw[hg] at hm
   obtain⟨u,rfl,hv⟩:=hm
   refine⟨_,_,_,u.ps,_,u.pa,_,_,rfl,stoV (v:=u) k5 rfl fun h6 k6 f6=>rd7 (Vv7.blk k6) ?_⟩
   refine⟨(g2.trans f5).trans' f6 fun i hi e=>by omega,u,rfl,?_⟩
   exact (hv.fr f6 (fun b hb e=>by have:=hb.2;omega) fun _ b hb e=>by have:=hb.2;omega).up fun b hb=>hb.1
end
end Go.Proofs.Ytggacajnmgligaa
namespace Go.Proofs.Ytggacajnmgligaa
open Go Go.Lf
set_option linter.unusedVariables false
def RMv (Q:Nat→Prop) (h:Heap) (hp:Nat) (s:Sv) (Q':Nat→Prop) (h':Heap) (s':Sv) (X':Hs):Prop:=
 Fr (fun b=>b=hp∨s.own b) h h'∧(∀b,Q b→Q' b)∧(∀b,Q' b→Q b∨(h.size≤b∧b<h'.size))∧(∀b,s'.own b→s.own b∨h.size≤b)∧∃rs',RAt Q' h' hp X' s' rs'
section
variable {Q Q':Nat→Prop} {h h' h2:Heap} {hp:Nat} {X X':Hs} {s:Sv} {rs:List Rw}
theorem refAlloc_spec (x:RAt Q h hp X s rs) (hQ:∀b,Q b→b<h.size) (hw:X.watch=true) (hl:X.l.length≤1000000) (ht0:0≤X.tags) (ht1:X.tags≤1000000) {t:Vl} {v:Vv} (hv:VAt false Q h t (anyA Q) v) :
  CallsH Try.prog 40 #[ptr hp,.agg (vvs v)] h (fun r h'=>if X.most≤(liveN X:Int) then Grow h h'∧(∃rs',RAt Q h' hp X s rs')∧r=.tuple #[.agg (pvs 0 ⟨none,0,0⟩ 0),.bool false]
   else ∃Q' s',RMv Q h hp s Q' h' s' (allocS X t)∧r=.tuple #[.agg (pvs X.l.length ⟨none,0,0⟩ (X.tags+1)),.bool true]):=by
 have sw:∀b,s.own b→b<h.size:=fun b hb=>(x.own.ge hb).2
 have hhp:=x.hd.lt
 apply F40
 unfold L40
 refine newV (v:=v) fun h1 k1 f1 z1=>newPt (al:=0) (sp:=⟨none,0,0⟩) (tg:=0) fun h2 k2 f2 z2=>?_
 have g2:=f1.trans f2
 have K1:=f2.blk k1 fun h=>h
 have x2:=x.grow g2
 refine⟨fun hh=>Grow h2 hh,Fr.refl _ _,⟨hp,0,none⟩,rfl,X.most,fun hh f=>(by rw[add_plain,(f.blk x2.hd fun h=>h).cl];rfl),?_⟩
 refine cal_of (refLive_spec x2 hl) ?_
 rintro _ _ ⟨rfl,rfl⟩
 refine⟨_,rfl,Fr.refl _ _,?_⟩
 refine ifb_iff (q:=X.most≤(liveN X:Int)) (by simp) (fun hfull=>?_) (fun hroom=>?_)
 ·refine stoPt (al:=0) (sp:=⟨none,0,0⟩) (tg:=0) k2 rfl fun h3 k3 f3=>rdPt k3 ?_
  show if X.most≤(liveN X:Int) then _ else _
  rw[if_pos hfull]
  refine⟨g2.trans' f3 fun i hi e=>by omega,⟨rs,?_⟩,rfl⟩
  exact x2.fr f3 (by omega) (fun b hb e=>by have:=sw b hb;omega) fun b hb e=>by have:=hQ b hb;omega
 refine⟨_,rfl,ldI_i (x:=X.tags) (by rw[add_plain,x2.hd.cl];rfl) ⟨_,rfl,?_⟩⟩
 rw[add_plain,wrap64_id (by omega) (by omega)]
 refine sto_i x2.hd (by simp) ?_
 have K3:blk (sc h2 ⟨hp,0+1,none⟩ (.int .i64 (X.tags+1))) hp #[.slice s.a s.n s.c,.int .i64 (X.tags+1),.int .i64 X.most,.bool true]:=x2.hd.sc 1 _
 have f3:Fr (fun b=>b=hp) h2 (sc h2 ⟨hp,0+1,none⟩ (.int .i64 (X.tags+1))):=Fr.scb _ _ _ _
 generalize sc h2 ⟨hp,0+1,none⟩ (.int .i64 (X.tags+1))=h3 at *
 have z3:=f3.size
 have K13:=f3.blk K1 (by omega)
 have K23:=f3.blk k2 (by omega)
 refine rd7 (Vv7.blk K13) ?_
 rintro p6 h6 rfl rfl
 have f6:Grow h3 (h3.push (.cells (rwc ⟨false,zVv,⟨none,0,0⟩⟩).toArray 89)):=Fr.push _ _ _
 have k6:blk (h3.push (.cells (rwc ⟨false,zVv,⟨none,0,0⟩⟩).toArray 89)) h3.size (rwc ⟨false,zVv,⟨none,0,0⟩⟩).toArray:=blk.new _ _ _
 have z6:(h3.push (.cells (rwc ⟨false,zVv,⟨none,0,0⟩⟩).toArray 89)).size=h3.size+1:=by simp
 generalize h3.push (.cells (rwc ⟨false,zVv,⟨none,0,0⟩⟩).toArray 89)=h6 at *
 refine stoA_i (vs:=rwc ⟨true,v,⟨none,0,0⟩⟩) k6 rfl (one_rw _) fun h7 k7 f7=>?_
 have z7:=f7.size
 have g7:Grow h3 h7:=f6.trans' f7 fun i hi e=>by omega
 have K37:=g7.blk K3 fun h=>h
 refine⟨fun hh=>∃t33,Grow h3 hh∧blk hh h3.size (rwc ⟨true,v,t33⟩).toArray∧∃p,t33.a=some p∧h3.size≤p.block∧p.block<hh.size∧t33.n=1∧CsAt hh p [.int .i64 (X.tags+1),.slice none 0 0,.bool true],?_,?_⟩
 ·refine⟨_,rfl,ldB_i (x:=true) (by rw[add_plain,K37.cl];rfl) ⟨fun _=>?_,fun e=>(by cases e)⟩⟩
  refine⟨_,rfl,ldI_i (x:=X.tags+1) (by rw[add_plain,K37.cl];rfl) ?_⟩
  rintro s33 h8 rfl rfl
  have f8:Grow h7 (h7.push (.cells #[.int .i64 (X.tags+1),.slice none 0 0,.bool true] 80)):=Fr.push _ _ _
  have k8:blk (h7.push (.cells #[.int .i64 (X.tags+1),.slice none 0 0,.bool true] 80)) h7.size #[.int .i64 (X.tags+1),.slice none 0 0,.bool true]:=blk.new _ _ _
  have z8:(h7.push (.cells #[.int .i64 (X.tags+1),.slice none 0 0,.bool true] 80)).size=h7.size+1:=by simp
  generalize h7.push (.cells #[.int .i64 (X.tags+1),.slice none 0 0,.bool true] 80)=h8 at *
  have k78:=f8.blk k7 fun h=>h
  rw[add_plain]
  refine sto_i k78 (by simp) ?_
  have K9:blk (sc h8 ⟨h3.size,0+8,none⟩ (.slice (some ⟨h7.size,0,none⟩) 1 1)) h3.size (rwc ⟨true,v,⟨some ⟨h7.size,0,none⟩,1,1⟩⟩).toArray:=k78.sc 8 _
  have f9:Fr (fun b=>b=h3.size) h8 (sc h8 ⟨h3.size,0+8,none⟩ (.slice (some ⟨h7.size,0,none⟩) 1 1)):=Fr.scb _ _ _ _
  generalize sc h8 ⟨h3.size,0+8,none⟩ (.slice (some ⟨h7.size,0,none⟩) 1 1)=h9 at *
  have z9:=f9.size
  have k89:=f9.blk k8 (by omega)
  exact⟨⟨some ⟨h7.size,0,none⟩,1,1⟩,(g7.trans f8).trans' f9 fun i hi e=>by omega,K9,⟨h7.size,0,none⟩,rfl,by dsimp only;omega,by dsimp only;omega,rfl,fun j u hu=>by rw[add_plain,k89.cl];simpa using hu⟩
 rintro h10 ⟨t33,g10,k10,p33,e33,b33,b33',n33,c33⟩
 have z10:=g10.size
 have lt10:=k10.lt
 have K310:=g10.blk K3 fun h=>h
 have F3:Fr (fun b=>b=hp∨s.own b) h h3:=(g2.mono fun _ _ h=>h.elim).trans' f3 fun i _ e=>.inl e
 have F10:Fr (fun b=>b=hp∨s.own b) h h10:=F3.trans (g10.mono fun _ _ h=>h.elim)
 refine⟨_,rfl,ldS_i (s:=s) (by rw[K310.cl];rfl) ?_⟩
 refine⟨true,v.k,v.n,v.nm,v.ps,v.al,v.pa,v.tg,t33,by rw[k10.cl];rfl,by rw[add_plain,k10.cl];rfl,by rw[add_plain,k10.cl];rfl,by rw[add_plain,k10.cl];rfl,by rw[add_plain,k10.cl];rfl,by rw[add_plain,k10.cl];rfl,by rw[add_plain,k10.cl];rfl,by rw[add_plain,k10.cl];rfl,by rw[add_plain,k10.cl];rfl,?_⟩
 have o10:Own h10 0 9 s (rs.flatMap rwc):=(x2.own.frame f3 fun b hb e=>x.ne (e ▸ hb)).frame g10 fun _ _ h=>h
 have hn:=x.n
 refine app1 (vs:=(rwc ⟨true,v,t33⟩).toArray) rfl o10 rfl (one_rw _) (Nat.zero_le _) (by omega) (by omega) fun s' h12 n12 o12 f12 w12=>?_
 have z12:=f12.size
 have K12:=f12.blk K310 x.ne
 refine⟨_,rfl,?_⟩
 refine sto_i K12 (by simp) ?_
 have K13':blk (sc h12 ⟨hp,0,none⟩ (.slice s'.a s'.n s'.c)) hp #[.slice s'.a s'.n s'.c,.int .i64 (X.tags+1),.int .i64 X.most,.bool true]:=K12.sc 0 _
 have f13:Fr (fun b=>b=hp) h12 (sc h12 ⟨hp,0,none⟩ (.slice s'.a s'.n s'.c)):=Fr.scb _ _ _ _
 generalize sc h12 ⟨hp,0,none⟩ (.slice s'.a s'.n s'.c)=h13 at *
 have z13:=f13.size
 refine⟨_,rfl,ldS_i (s:=s') (by rw[K13'.cl];rfl) ⟨_,rfl,ldI_i (x:=X.tags+1) (by rw[add_plain,K13'.cl];rfl) ?_⟩⟩
 rw[n12,hn,wrap64_id (by omega) (by omega)]
 have en:(((X.l.length+1:Nat):Int) - 1)=X.l.length:=by omega
 rw[en]
 have k213:=f13.blk (f12.blk (g10.blk K23 fun h=>h) fun e=>by have:=sw _ e;omega) (by omega)
 refine stoPt (al:=X.l.length) (sp:=⟨none,0,0⟩) (tg:=X.tags+1) k213 rfl fun h14 k14 f14=>rdPt k14 ?_
 have z14:=f14.size
 have F12:Fr (fun b=>b=hp∨s.own b) h h12:=F10.trans (f12.mono fun _ _ h=>.inr h)
 have F13:Fr (fun b=>b=hp∨s.own b) h h13:=F12.trans (f13.mono fun _ _ h=>.inl h)
 have F14:Fr (fun b=>b=hp∨s.own b) h h14:=F13.trans' f14 fun i hi e=>by omega
 have s'w:∀b,s'.own b→s.own b∨h10.size≤b:=w12
 have s'hp:¬s'.own hp:=fun e=>by
  rcases s'w _ e with h|h
  ·exact x.ne h
  ·omega
 have o14:=(o12.frame f13 fun b hb e=>s'hp (e ▸ hb)).frame f14 fun b hb e=>by
  rcases s'w _ hb with h|h
  ·have:=sw _ h;omega
  ·omega
 have nq:∀b,Q b→¬(b=hp∨s.own b):=fun b hb e=>by
  rcases e with e|e
  ·exact (x.q b hb).1 e
  ·exact (x.q b hb).2 e
 show if X.most≤(liveN X:Int) then _ else _
 rw[if_neg hroom]
 refine⟨fun b=>Q b∨b=p33.block,s',⟨F14,fun b hb=>.inl hb,fun b hb=>hb.imp id fun e=>by omega,fun b hb=>(s'w b hb).imp id fun h=>by omega,rs++[⟨true,v,t33⟩],?_⟩,rfl⟩
 have Kh:=f14.blk K13' (by omega)
 refine⟨Kh,by simpa using o14,s'hp,by simp[allocS,x.len],fun i i1 i2=>?_,fun b hb=>?_⟩
 ·have c14:CsAt h14 p33 [.int .i64 (X.tags+1),.slice none 0 0,.bool true]:=fun j u hu=>by
   refine f14.clk (f13.clk (f12.clk (c33 j u hu) ?_) ?_) ?_<;>rw[add_block]
   ·exact fun e=>by have:=sw _ e;omega
   ·omega
   ·omega
  by_cases hi:i<X.l.length
  ·have hi2:i<rs.length:=by have:=x.len;omega
   obtain⟨b1,b2,b3⟩:=x.el i hi hi2
   have ea:(allocS X t).l[i]=X.l[i]:=by simp[allocS,hi]
   rw[ea,List.getElem_append_left hi2]
   exact⟨b1,(b2.fr F14 nq fun _ b hb=>nq b hb).up fun b hb=>.inl hb,(b3.fr F14 nq).weak fun b hb=>.inl hb⟩
  ·have hi1:i=X.l.length:=by simp[allocS] at i1;omega
   have hlen:=x.len
   have ea:(allocS X t).l[i]=⟨true,t,[⟨X.tags+1,[],true⟩]⟩:=by simp[allocS,hi1,hw]
   have eb:(rs++[(⟨true,v,t33⟩:Rw)])[i]=⟨true,v,t33⟩:=by
    rw[List.getElem_append_right (by omega)]
    simp
   rw[ea,eb]
   refine⟨rfl,(hv.fr F14 nq fun _ b hb=>nq b hb).up fun b hb=>.inl hb,⟨n33,fun q hq=>?_⟩⟩
   obtain rfl:q=0:=by simp at hq;omega
   refine⟨p33,e33,.inr (by rw[add_block]),by simp,⟨none,0,0⟩,?_,IntsC.nil _ _⟩
   rw[Nat.zero_mul,add_zero]
   exact c14
 ·rcases hb with hb|rfl
  ·refine⟨(x.q b hb).1,fun e=>?_⟩
   rcases s'w _ e with h|h
   ·exact (x.q b hb).2 h
   ·have:=hQ b hb;omega
  ·refine⟨by omega,fun e=>?_⟩
   rcases s'w _ e with h|h
   ·have:=sw _ h;omega
   ·omega
end
end Go.Proofs.Ytggacajnmgligaa
namespace Go.Proofs.Ytggacajnmgligaa
open Go Go.Lf
set_option linter.unusedVariables false
theorem hzc_row {Q:Nat→Prop} {h:Heap} {st:List Hd} {t:Sv} (x:SkAt Q h st t):∃zs:List (Hd×Sv),zs.map (·.1)=st∧t.n=zs.length∧RowO h t.a (zs.flatMap hzc)∧∀z∈zs,IntsC Q h z.2 z.1.pa:=by
 have key:∀i:Fin st.length,∃u:Sv,∃p,t.a=some p∧CsAt h (p.add (i.1*3)) (hzc (st[i.1],u))∧IntsC Q h u st[i.1].pa:=fun i=>by
  obtain⟨p,e,q,hi,u,c,d⟩:=x.rows.at_ i.1 i.2
  exact⟨u,p,e,c,d⟩
 let g:Fin st.length→Sv:=fun i=>Classical.choose (key i)
 have hg:∀i,∃p,t.a=some p∧CsAt h (p.add (i.1*3)) (hzc (st[i.1],g i))∧IntsC Q h (g i) st[i.1].pa:=fun i=>Classical.choose_spec (key i)
 let zs:List (Hd×Sv):=List.ofFn fun i:Fin st.length=>(st[i.1],g i)
 have hl:zs.length=st.length:=by simp[zs]
 have hz:∀i (h1:i<zs.length) (h2:i<st.length),zs[i]=(st[i],g ⟨i,h2⟩):=fun i h1 h2=>by simp[zs]
 refine⟨zs,?_,by rw[hl];exact x.rows.len,?_,?_⟩
 ·refine List.ext_getElem (by simpa using hl) fun i h1 h2=>?_
  rw[List.getElem_map,hz i (by omega) h2]
 ·refine rows_row hzc_len (by omega) ⟨by rw[hl];exact x.rows.len,fun i hi=>?_⟩
  obtain⟨p,e,c,d⟩:=hg ⟨i,by omega⟩
  exact⟨p,e,hi,by rw[hz i hi (by omega)];exact c⟩
 ·intro z hzm
  obtain⟨i,hi,rfl⟩:=List.getElem_of_mem hzm
  rw[hz i hi (by omega)]
  obtain⟨p,e,c,d⟩:=hg ⟨i,by omega⟩
  exact d
theorem SkAt.ofOwn {Q:Nat→Prop} {h:Heap} {B:Nat} {zs:List (Hd×Sv)} {t:Sv} (o:Own h B 3 t (zs.flatMap hzc)) (hz:∀z∈zs,IntsC Q h z.2 z.1.pa):SkAt (fun b=>Q b∨t.own b) h (zs.map (·.1)) t:=by
 have rk:=own_rows hzc_len (by omega) o
 refine⟨by rw[rk.len];simp,fun i hi=>?_⟩
 have hi':i<zs.length:=by simpa using hi
 obtain⟨pz,epz,hz',cz⟩:=rk.at_ i hi'
 refine⟨pz,epz,.inr ⟨pz,epz,by rw[add_block]⟩,hi,zs[i].2,by simpa using cz,?_⟩
 simpa using (hz _ (List.getElem_mem hi')).weak fun b hb _=>.inl hb
theorem RowO.keep {h h':Heap} {a:Option Addr} {cs:List Value} (x:RowO h a cs) (g:Grow h h'):RowO h' a cs:=by
 cases a with
 | none=>exact x
 | some p=>exact fun j u hu=>g.clk (x j u hu) fun h=>h
structure IJb (h0:Heap) (zs:List (Hd×Sv)) (d:Hd×Sv) (b6 b8 b17 b18:Bool) (s59 s61 s70 s71:Sv) (hh:Heap):Prop where
 g:Grow h0 hh
 a:b6=true→b8=false→Own hh h0.size 3 s59 []
 b:b8=true→b18=false→Own hh h0.size 3 s61 (zs.flatMap hzc)
 c:b17=true→b18=false→Own hh h0.size 3 s70 (hzc d)
 d:b18=true→Own hh h0.size 3 s71 ((zs++[d]).flatMap hzc)
 n1:b17=true→b6=true→b8=false→b18=false→∀b,s59.own b→¬s70.own b
 n2:b17=true→b8=true→b18=false→∀b,s61.own b→¬s70.own b
 o1:b8=true→b6=true
 o2:b18=true→b8=true∧b17=true
section
variable {h0:Heap} {zs:List (Hd×Sv)} {d:Hd×Sv} {b6 b8 b17 b18:Bool} {s59 s61 s70 s71:Sv} {hh:Heap}
theorem IJb.start:IJb h0 zs d false false false false s59 s61 s70 s71 h0:=
 ⟨Fr.refl _ _,fun e=>(by cases e),fun e=>(by cases e),fun e=>(by cases e),fun e=>(by cases e),fun e=>(by cases e),fun e=>(by cases e),fun e=>(by cases e),fun e=>(by cases e)⟩
theorem own_at {b c:Nat} {n m:Nat}:(⟨some ⟨b,0,none⟩,n,m⟩:Sv).own c→c=b:=by
 rintro ⟨p,e,rfl⟩
 simp only[Option.some.injEq] at e
 subst e;rfl
theorem IJb.s1 (X:IJb h0 zs d b6 b8 b17 b18 s59 s61 s70 s71 hh) (e:b6=false):newS 80 #[] 0 hh fun s h'=>IJb h0 zs d true b8 b17 b18 s s61 s70 s71 h':=by
 rintro s h' rfl rfl
 have f:Grow hh (hh.push (.cells #[] 80)):=Fr.push _ _ _
 have z0:=X.g.size
 have h8:b8=false:=by cases h:b8 with|false=>rfl|true=>have:=X.o1 h;rw[e] at this;cases this
 have h18:b18=false:=by cases h:b18 with|false=>rfl|true=>have:=(X.o2 h).1;rw[h8] at this;cases this
 subst h8 h18
 exact⟨X.g.trans f,fun _ _=>own_empty z0,fun e=>(by cases e),fun e h=>(X.c e h).frame f fun _ _ h=>h,fun e=>(by cases e),fun e _ _ _ b hb hc=>by
  have:=((X.c e rfl).ge hc).2
  have:=own_at hb
  omega,fun _ e=>(by cases e),fun e=>(by cases e),fun e=>(by cases e)⟩
theorem IJb.s2 (X:IJb h0 zs d b6 b8 b17 b18 s59 s61 s70 s71 hh) (e8:b8=false) (e6:b6=true) {t:Sv} (hn:t.n=zs.length) (hr:RowO h0 t.a (zs.flatMap hzc)) (hb:zs.length≤1000000) :
  appS 80 (Value.agg #[.int .i64 0,.slice none 0 0,.bool false]).cells 3 40 hh s59 t fun s h'=>IJb h0 zs d b6 true b17 b18 s59 s s70 s71 h':=by
 subst e8 e6
 have h18:b18=false:=by cases h:b18 with|false=>rfl|true=>have:=(X.o2 h).1;cases this
 subst h18
 have o:=X.a rfl rfl
 have n0:s59.n=0:=by have:=o.len;simp at this;omega
 refine appS_own (news:=zs.flatMap hzc) rfl o (by rw[flat_len hzc_len,hn]) (RowO.keep hr X.g) (one_flat (fun z=>one_hz z) zs) X.g.size (by omega) (by omega) fun s' h' n' o' f w=>?_
 rw[List.nil_append] at o'
 have hge:=fun b hb=>(o.ge (b:=b) hb).1
 exact⟨X.g.trans' f fun b hb e=>by have:=hge b e;omega,fun _ e=>(by cases e),fun _ _=>o',fun e h=>(X.c e h).frame f fun b hb hc=>X.n1 e rfl rfl rfl b hc hb,fun e=>(by cases e),fun _ _ e=>(by cases e),fun e _ _ b hb hc=>by
  rcases w b hb with h|h
  ·exact X.n1 e rfl rfl rfl b h hc
  ·have:=((X.c e rfl).ge hc).2;omega,fun _=>rfl,fun e=>(by cases e)⟩
theorem IJb.s3 (X:IJb h0 zs d b6 b8 b17 b18 s59 s61 s70 s71 hh) (e:b17=false):newS 80 (hzc d).toArray 1 hh fun s h'=>IJb h0 zs d b6 b8 true b18 s59 s61 s s71 h':=by
 rintro s h' rfl rfl
 have f:Grow hh (hh.push (.cells (hzc d).toArray 80)):=Fr.push _ _ _
 have h18:b18=false:=by cases h:b18 with|false=>rfl|true=>have:=(X.o2 h).2;rw[e] at this;cases this
 subst h18
 exact⟨X.g.trans f,fun a b=>(X.a a b).frame f fun _ _ h=>h,fun a b=>(X.b a b).frame f fun _ _ h=>h,fun _ _=>own_new1 X.g.size rfl,fun e=>(by cases e),fun _ a c _ b hb hc=>by
  have:=((X.a a c).ge hb).2
  have:=own_at hc
  omega,fun _ a _ b hb hc=>by
  have:=((X.b a rfl).ge hb).2
  have:=own_at hc
  omega,X.o1,fun e=>(by cases e)⟩
theorem IJb.s4 (X:IJb h0 zs d b6 b8 b17 b18 s59 s61 s70 s71 hh) (e18:b18=false) (e8:b8=true) (e17:b17=true) (hb:zs.length≤1000000) :
  appS 80 (Value.agg #[.int .i64 0,.slice none 0 0,.bool false]).cells 3 40 hh s61 s70 fun s h'=>IJb h0 zs d b6 b8 b17 true s59 s61 s70 s h':=by
 subst e18 e8 e17
 have o:=X.b rfl rfl
 have oc:=X.c rfl rfl
 have hl:=own_len hzc_len (by omega) o
 have n70:s70.n=1:=by have:=oc.len;simp at this;omega
 refine appS_own (news:=hzc d) rfl o (by rw[n70];rfl) oc.row (one_hz d) X.g.size (by omega) (by omega) fun s' h' n' o' f w=>?_
 have hge:=fun b hb=>(o.ge (b:=b) hb).1
 exact⟨X.g.trans' f fun b hb e=>by have:=hge b e;omega,fun _ e=>(by cases e),fun _ e=>(by cases e),fun _ e=>(by cases e),fun _=>by simpa using o',fun _ _ e=>(by cases e),fun _ _ e=>(by cases e),X.o1,fun _=>⟨rfl,rfl⟩⟩
end
end Go.Proofs.Ytggacajnmgligaa

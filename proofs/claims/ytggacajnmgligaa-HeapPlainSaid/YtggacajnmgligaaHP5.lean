/- HeapPlain: for every input that its row covers the law returns true, and its arguments read as they did; under no other conditions. This text is joined by a program of ours out of smaller ones. -/
import Derived.Test.YtggacajnmgligaaHP4
namespace Go.Proofs.Ytggacajnmgligaa
open Go Go.Lf
set_option linter.unusedVariables false
section
variable {Q Q':Nat→Prop} {h h' h2:Heap} {hp:Nat} {X X':Hs} {s:Sv} {rs:List Rw}
theorem refBorrow_spec (x:RAt Q h hp X s rs) (hX:FewX X) (hQ:∀b,Q b→b<h.size) (ht0:0≤X.tags) (ht1:X.tags≤1000000) {al tg:Int} {sp:Sv} {pa:List Int} (hpt:IntsC Q h sp pa) (hpl:pa.length≤1000000) (u:Bool) :
  CallsH Try.prog 37 #[ptr hp,.agg (pvs al sp tg),.bool u] h (fun v h'=>Fr (fun b=>b=hp∨s.own b) h h'∧∃Q',RNx Q h hp s Q' h' (borrowX X al pa tg u).1∧match (borrowX X al pa tg u).2 with
   | .error f=>f≠0∧v=.tuple #[.agg (pvs 0 ⟨none,0,0⟩ 0),.int .i64 f]
   | .ok t=>v=.tuple #[.agg (pvs al sp t),.int .i64 0]):=by
 have toO:∀ {a b:Heap},Grow a b→Fr (fun b=>b=hp∨s.own b) a b:=fun g=>g.mono fun _ _ h=>h.elim
 have sw:∀b,s.own b→b<h.size:=fun b hb=>(x.own.ge hb).2
 have hhp:=x.hd.lt
 apply F37
 unfold L37
 refine newPt fun h1 k1 f1 z1=>newPt (al:=0) (sp:=⟨none,0,0⟩) (tg:=0) fun h2 k2 f2 z2=>?_
 have g2:=f1.trans f2
 have z1':=f1.size
 have K1:=f2.blk k1 fun h=>h
 refine rdPt K1 ?_
 have hpt2:=hpt.fr g2 fun _ _ h=>h
 have x2:=x.grow g2
 have nq:∀b,Q b→¬s.own b:=fun b hb=>(x.q b hb).2
 refine cal_of (get50_spec x2 hX (fun b hb=>by have:=hQ b hb;omega) hpt2 hpl u) ?_
 rintro v h3 ⟨f3,Q1,nx,hm⟩
 have K13:=f3.blk K1 fun e=>by have:=sw _ e;omega
 have K23:=f3.blk k2 fun e=>by have:=sw _ e;omega
 have z3:=f3.size
 have F3:Fr (fun b=>b=hp∨s.own b) h h3:=(toO g2).trans (f3.mono fun _ _ h=>.inr h)
 cases hg:(getX X al pa tg u).2 with
 | error f=>
  rw[hg] at hm
  obtain⟨hf,rfl⟩:=hm
  have et:borrowX X al pa tg u=((getX X al pa tg u).1,.error f):=by
   unfold borrowX
   generalize getX X al pa tg u=r at *
   obtain⟨r1,r2⟩:=r
   simp only at hg
   rw[hg]
  rw[et]
  refine⟨_,_,_,zVv.ps,_,zVv.pa,_,_,rfl,mineV (v:=zVv) fun h5 k5 g5=>?_⟩
  refine⟨fun _=>?_,fun e=>absurd (by simpa using e) hf⟩
  refine stoPt (al:=0) (sp:=⟨none,0,0⟩) (tg:=0) (g5.blk K23 fun h=>h) rfl fun h4 k4 f4=>rdPt k4 ?_
  exact⟨(F3.trans (toO g5)).trans' f4 fun i hi e=>by omega,Q1,((nx.then_grow g5).loc hQ (by omega) (by omega) hhp sw f4).of_grow g2,hf,rfl⟩
 | ok y=>
  rw[hg] at hm
  obtain⟨w,rfl,hv⟩:=hm
  obtain⟨hu,j,rfl,hj,hat,hgv⟩:=getX_ok hg
  have hlen:=(useX_len hu).1
  have et:borrowX X j pa tg u=({ (getX X j pa tg u).1 with tags:=(getX X j pa tg u).1.tags+1,l:=(getX X j pa tg u).1.l.set j { (getX X j pa tg u).1.l[j] with st:=(getX X j pa tg u).1.l[j].st++[⟨(getX X j pa tg u).1.tags+1,pa,u⟩] } },.ok ((getX X j pa tg u).1.tags+1)):=by
   unfold borrowX
   generalize getX X j pa tg u=r at *
   obtain⟨r1,r2⟩:=r
   simp only at hg hat hj
   rw[hg]
   simp[hj]
  rw[et]
  have htg:(getX X j pa tg u).1.tags=X.tags:=by
   have:∀X',useX X j pa tg u=.ok X'→X'.tags=X.tags:=fun X' h=>by
    unfold useX at h
    split at h
    ·cases h
    ·split at h
     ·cases h
     ·simp only[Except.ok.injEq] at h
      subst h;rfl
   exact this _ hu
  have hstl:(getX X j pa tg u).1.l[j].st.length≤1000000:=by
   have:∀X' (hj:j<X'.l.length),useX X j pa tg u=.ok X'→X'.l[j].st.length≤1000000:=fun X' hj h=>by
    unfold useX at h
    split at h
    ·cases h
    ·rename_i a ha
     obtain⟨j',e,hj',ea,_⟩:=atS_some ha
     obtain rfl:j=j':=by omega
     split at h
     ·cases h
     ·rename_i a' ha'
      simp only[Except.ok.injEq] at h
      subst h
      simp only[Int.toNat_natCast,List.getElem_set_self]
      have hA:a.st.length≤1000000:=by rw[←ea];exact (hX.2 _ (List.getElem_mem _)).2.1
      unfold useAlX at ha'
      split at ha'
      ·cases ha'
      ·rename_i k hk
       split at ha'
       ·cases ha'
       ·split at ha'
        ·cases ha'
        ·simp only[Option.some.injEq] at ha'
         subst ha'
         have:=List.length_filter_le (keepX pa u) (a.st.drop (k+1))
         simp only[List.length_append,List.length_take,List.length_drop] at this ⊢
         omega
   exact this _ hj hu
  generalize (getX X j pa tg u).1=X1 at *
  obtain⟨q1,q2,rs1,x3⟩:=nx
  refine⟨_,_,_,w.ps,_,w.pa,_,_,rfl,mineV (v:=w) fun h5 k5 g5=>?_⟩
  have z5:=g5.size
  have x5:=x3.grow g5
  have K15:=g5.blk K13 fun h=>h
  have K25:=g5.blk K23 fun h=>h
  refine⟨fun e=>(by simp at e),fun _=>?_⟩
  refine ldI_i (x:=(j:Int)) (by rw[K15.cl];rfl) (ldS_i (s:=sp) (by rw[add_plain,K15.cl];rfl) ?_)
  refine newPt (al:=0) (sp:=⟨none,0,0⟩) (tg:=0) fun h7 k7 f7 z7=>?_
  refine stoPt (al:=j) (sp:=sp) (tg:=0) k7 rfl fun h8 k8 f8=>?_
  have g8:Grow h5 h8:=f7.trans' f8 fun i hi e=>by omega
  have z8:=f8.size
  have x8:=x5.grow g8
  have K18:=g8.blk K15 fun h=>h
  have K28:=g8.blk K25 fun h=>h
  have hp8:hp<h5.size:=x5.hd.lt
  refine⟨fun hh=>Fr (fun b=>b=hp∨s.own b∨b=h5.size) h8 hh∧blk hh h5.size (pvs j sp (X1.tags+1))∧∃(Q2:Nat→Prop) (rs2:List Rw),(∀b,Q1 b→Q2 b)∧(∀b,Q2 b→Q1 b∨(h8.size≤b∧b<hh.size))∧RAt Q2 hh hp { X1 with tags:=X1.tags+1,l:=X1.l.set j { X1.l[j] with st:=X1.l[j].st++[⟨X1.tags+1,pa,u⟩] } } s rs2,?_,?_⟩
  ·refine⟨_,rfl,ldB_i (x:=true) (by rw[add_plain,x8.hd.cl];rfl) ⟨fun _=>?_,fun e=>(by cases e)⟩⟩
   refine⟨_,rfl,ldI_i (x:=X1.tags) (by rw[add_plain,x8.hd.cl];rfl) ⟨_,rfl,?_⟩⟩
   rw[add_plain,wrap64_id (by omega) (by omega)]
   refine sto_i x8.hd (by simp) ?_
   have K9:blk (sc h8 ⟨hp,0+1,none⟩ (.int .i64 (X1.tags+1))) hp #[.slice s.a s.n s.c,.int .i64 (X1.tags+1),.int .i64 X1.most,.bool true]:=x8.hd.sc 1 _
   have f9:Fr (fun b=>b=hp) h8 (sc h8 ⟨hp,0+1,none⟩ (.int .i64 (X1.tags+1))):=Fr.scb _ _ _ _
   generalize sc h8 ⟨hp,0+1,none⟩ (.int .i64 (X1.tags+1))=h9 at *
   have z9:=f9.size
   have qp:∀b,Q1 b→¬b=hp:=fun b hb=>(x8.q b hb).1
   have x9:RAt Q1 h9 hp { X1 with tags:=X1.tags+1 } s rs1:=⟨K9,x8.own.frame f9 fun b hb e=>x8.ne (e ▸ hb),x8.ne,x8.len,fun i i1 i2=>⟨(x8.el i i1 i2).1,(x8.el i i1 i2).2.1.fr f9 qp fun _ b hb=>qp b hb,(x8.el i i1 i2).2.2.fr f9 qp⟩,x8.q⟩
   refine⟨_,rfl,ldI_i (x:=X1.tags+1) (by rw[add_plain,K9.cl];rfl) ?_⟩
   have k89:=f9.blk k8 (by omega)
   rw[add_plain]
   refine sto_i k89 (by simp) ?_
   have k10:blk (sc h9 ⟨h5.size,0+2,none⟩ (.int .i64 (X1.tags+1))) h5.size (pvs j sp (X1.tags+1)):=k89.sc 2 _
   have f10:Fr (fun b=>b=h5.size) h9 (sc h9 ⟨h5.size,0+2,none⟩ (.int .i64 (X1.tags+1))):=Fr.scb _ _ _ _
   generalize sc h9 ⟨h5.size,0+2,none⟩ (.int .i64 (X1.tags+1))=h10 at *
   have z10:=f10.size
   have q5:∀b,Q1 b→b<h3.size:=fun b hb=>by
    rcases q2 b hb with h|h
    ·have:=hQ b h;omega
    ·omega
   have x10:RAt Q1 h10 hp { X1 with tags:=X1.tags+1 } s rs1:=x9.fr f10 (by omega) (fun b hb e=>by have:=sw b hb;omega) fun b hb e=>by have:=q5 b hb;omega
   have K110:=f10.blk (f9.blk K18 (by omega)) (by omega)
   obtain⟨p,ep,hr,c⟩:=x10.row hj
   obtain⟨el1,el2,el3⟩:=x10.el j hj hr
   have hn10:=x10.n
   have hn10:s.n=X1.l.length:=hn10
   refine⟨_,rfl,ldS_i (s:=s) (by rw[x10.hd.cl];rfl) (ldI_i (x:=(j:Int)) (by rw[K110.cl];rfl) ⟨p,ep,by omega,by rw[hn10];omega,?_⟩)⟩
   rw[Int.toNat_natCast]
   refine ldS_i (s:=rs1[j].t) (c 8 _ rfl) ⟨_,rfl,_,rfl,?_⟩
   obtain⟨zs,ezs,nzs,rzs,hzs⟩:=hzc_row el3
   have ezs:zs.map (·.1)=X1.l[j].st:=ezs
   have lzs:zs.length≤1000000:=by
    have:=congrArg List.length ezs
    simp at this;omega
   have hpt10:IntsC Q1 h10 sp pa:=((((hpt2.fr f3 nq).weak fun b hb _=>q1 b hb).fr (g5.trans g8) fun _ _ h=>h).fr f9 qp).fr f10 fun b hb e=>by have:=q5 b hb;omega
   refine⟨IJb h10 zs (⟨X1.tags+1,pa,u⟩,sp),fun hh=>Grow h10 hh,fun _ _ _ _ _ _ _ _ _ Y=>Y.g,fun _ _ _ _=>IJb.start,s,fun hh f=>(by rw[(f.blk x10.hd fun h=>h).cl];rfl),(j:Int),fun hh f=>(by rw[(f.blk K110 fun h=>h).cl];rfl),X1.tags+1,fun hh f=>(by rw[add_plain,(f.blk x10.hd fun h=>h).cl];rfl),sp,fun hh f=>(by rw[(f.blk K110 fun h=>h).cl];rfl),
    fun b6 b8 b17 b18 _ _ _ _ _ Y e=>Y.s1 e,fun b6 b8 b17 b18 _ _ _ _ _ Y e8 e6=>Y.s2 e8 e6 nzs rzs lzs,fun b6 b8 b17 b18 _ _ _ _ _ Y e=>Y.s3 e,fun b6 b8 b17 b18 _ _ _ _ _ Y e18 e6 e8 e17=>Y.s4 e18 e8 e17 lzs,?_⟩
   intro s59 s61 s70 s71 h28 Y
   have o71:=Y.d rfl
   have g28:=Y.g
   have z28:=g28.size
   have x28:=x10.grow g28
   have w71:=fun b hb=>o71.ge (b:=b) hb
   refine⟨p,ep,by omega,by rw[hn10];omega,?_⟩
   rw[Int.toNat_natCast]
   have sk:=SkAt.ofOwn (Q:=Q1) o71 (fun z hz=>by
    rcases List.mem_append.1 hz with h|h
    ·exact (hzs z h).fr g28 fun _ _ h=>h
    ·simp at h;subst h;exact hpt10.fr g28 fun _ _ h=>h)
   rw[List.map_append,ezs] at sk
   have x28w:RAt (fun b=>Q1 b∨s71.own b) h28 hp { X1 with tags:=X1.tags+1 } s rs1:=x28.weak (fun b hb=>.inl hb) fun b hb=>by
    rcases hb with hb|hb
    ·exact x28.q b hb
    ·have:=w71 b hb
     exact⟨by omega,fun e=>by have:=sw b e;omega⟩
   refine x28w.sto_t hj ep sk fun h29 rs29 f29 x29=>?_
   have z29:=f29.size
   have k29:=f29.blk (g28.blk k10 fun h=>h) fun e=>by have:=sw _ e;omega
   refine⟨?_,k29,fun b=>Q1 b∨s71.own b,rs29,fun b hb=>.inl hb,fun b hb=>hb.imp id fun hb=>by have:=w71 b hb;omega,x29⟩
   exact (((f9.mono fun _ _ h=>.inl h).trans (f10.mono fun _ _ h=>.inr (.inr h))).trans (g28.mono fun _ _ h=>h.elim)).trans (f29.mono fun _ _ h=>.inr (.inl h))
  rintro h34 ⟨f34,k34,Q2,rs2,p1,p2,x34⟩
  have z34:=f34.size
  refine rdPt k34 ?_
  have K234:=f34.blk K28 fun e=>by
   rcases e with e|e|e
   ·omega
   ·have:=sw _ e;omega
   ·omega
  refine stoPt (al:=j) (sp:=sp) (tg:=X1.tags+1) K234 rfl fun h35 k35 f35=>rdPt k35 ?_
  have nx34:RNx Q h2 hp s Q2 h34 { X1 with tags:=X1.tags+1,l:=X1.l.set j { X1.l[j] with st:=X1.l[j].st++[⟨X1.tags+1,pa,u⟩] } }:=⟨fun b hb=>p1 b (q1 b hb),fun b hb=>by
   rcases p2 b hb with h|h
   ·exact (q2 b h).imp id fun h=>by omega
   ·exact .inr (by omega),rs2,x34⟩
  have F34:Fr (fun b=>b=hp∨s.own b) h h34:=((F3.trans (toO g5)).trans (toO g8)).trans' f34 fun i hi e=>by
   rcases e with e|e|e
   ·exact .inl e
   ·exact .inr e
   ·omega
  exact⟨F34.trans' f35 fun i hi e=>by omega,Q2,(nx34.loc hQ (by omega) (by omega) hhp sw f35).of_grow g2,rfl⟩
end
end Go.Proofs.Ytggacajnmgligaa
namespace Go.Proofs.Ytggacajnmgligaa
open Go Go.Lf
set_option linter.unusedVariables false
theorem refPoint_spec {h:Heap} {al al' tg tg':Int} {sp sp':Sv} {pa pa':List Int} (x:IntsAt h sp pa) (y:IntsAt h sp' pa') (hl:pa.length≤1000000) :
  CallsH Try.prog 41 #[.agg (pvs al sp tg),.agg (pvs al' sp' tg'),.bool false] h (fun v h'=>Grow h h'∧v=.bool (decide (al=al'∧pa=pa'))):=by
 apply F41
 unfold L41
 refine newPt fun h1 k1 f1 z1=>newPt fun h2 k2 f2 z2=>?_
 have g2:=f1.trans f2
 have K1:=f2.blk k1 fun h=>h
 refine ldI_i (x:=al) (by rw[K1.cl];rfl) (ldI_i (x:=al') (by rw[k2.cl];rfl) ?_)
 refine⟨fun c hh=>hh=h2∧c=decide (al=al'∧pa=pa'),⟨fun e=>?_,fun e=>?_⟩,?_⟩
 ·have e:al=al':=by simpa using e
  refine ldS_i (s:=sp) (by rw[add_plain,K1.cl];rfl) (ldS_i (s:=sp') (by rw[add_plain,k2.cl];rfl) ?_)
  refine cal_of (refInts_spec (x.keep g2 fun _ _ h=>h) (y.keep g2 fun _ _ h=>h) hl) ?_
  rintro _ _ ⟨rfl,rfl⟩
  exact⟨_,rfl,rfl,by simp[e]⟩
 ·have e:¬al=al':=by simpa using e
  exact⟨rfl,by simp[e]⟩
 rintro _ _ ⟨rfl,rfl⟩
 refine⟨fun c=>c=decide (al=al'∧pa=pa'),⟨fun e=>⟨fun c=>c=true,⟨fun _=>rfl,fun e=>by simp at e⟩,fun c hc=>by rw[hc,e]⟩,fun e=>by rw[e]⟩,?_⟩
 rintro _ rfl
 exact⟨g2,rfl⟩
theorem refSame_spec (t:Vl):∀ {o o':Bool} {Q Q':Nat→Prop} {A A':List Nat→Nat→Prop} {t':Vl} {v v':Vv} {h:Heap},few t→VAt o Q h t A v→VAt o' Q' h t' A' v'→er t=er t' →
  CallsH Try.prog 42 #[.agg (vvs v),.agg (vvs v'),.bool false] h (fun x h'=>Grow h h'∧x=.bool true):=by
 refine Vl.ind (P:=fun t=>∀ {o o':Bool} {Q Q':Nat→Prop} {A A':List Nat→Nat→Prop} {t':Vl} {v v':Vv} {h:Heap},few t→VAt o Q h t A v→VAt o' Q' h t' A' v'→er t=er t' →
  CallsH Try.prog 42 #[.agg (vvs v),.agg (vvs v'),.bool false] h (fun x h'=>Grow h h'∧x=.bool true)) ?_ t
 intro k n nm ts al pa tg ih o o' Q Q' A A' t' v v' h hfew hv hv' he
 obtain⟨k',n',nm',ts',al',pa',tg'⟩:=t'
 obtain⟨rfl,rfl,rfl,hts,rfl,rfl⟩:=er_iff.1 he
 obtain⟨hl,hel⟩:=map_el hts
 obtain⟨hf1,hf2,hf3⟩:=few_mk.1 hfew
 obtain⟨e1,e2,e3,e4,e5,e6,e7,e8⟩:=vAt_iff.1 hv
 obtain⟨d1,d2,d3,d4,d5,d6,d7,d8⟩:=vAt_iff.1 hv'
 apply F42
 unfold L42
 refine newV (v:=v) fun h1 k1 f1 z1=>newV (v:=v') fun h2 k2 f2 z2=>?_
 have g2:=f1.trans f2
 have K1:=f2.blk k1 fun h=>h
 refine ldI_i (x:=v.k) (by rw[K1.cl];rfl) (ldI_i (x:=v'.k) (by rw[k2.cl];rfl) ?_)
 refine⟨fun c=>c=false,⟨fun e=>(by rw[e1,d1] at e;simp at e),fun _=>?_⟩,?_⟩
 ·refine⟨v.n,by rw[add_plain,K1.cl];rfl,v'.n,by rw[add_plain,k2.cl];rfl,?_⟩
  rw[e2,d2];simp
 rintro _ rfl
 refine⟨fun c=>c=false,⟨fun e=>(by cases e),fun _=>?_⟩,?_⟩
 ·refine⟨v.nm,by rw[add_plain,K1.cl];rfl,v'.nm,by rw[add_plain,k2.cl];rfl,?_⟩
  rw[e3,d3];simp
 rintro _ rfl
 refine⟨fun c=>c=false,⟨fun e=>(by cases e),fun _=>?_⟩,?_⟩
 ·refine ldS_i (s:=v.ps) (by rw[add_plain,K1.cl];rfl) (ldS_i (s:=v'.ps) (by rw[add_plain,k2.cl];rfl) ?_)
  rw[e7,d7,hl];simp
 rintro _ rfl
 refine⟨fun c hh=>c=false∧Grow h2 hh,⟨fun e=>(by cases e),fun _=>?_⟩,?_⟩
 ·refine⟨v.al,v.pa,v.tg,by rw[add_plain,K1.cl];rfl,by rw[add_plain,add_plain,K1.cl];rfl,by rw[add_plain,add_plain,K1.cl];rfl,v'.al,v'.pa,v'.tg,by rw[add_plain,k2.cl];rfl,by rw[add_plain,add_plain,k2.cl];rfl,by rw[add_plain,add_plain,k2.cl];rfl,?_⟩
  refine cal_of (refPoint_spec (e6.fr g2 fun _ _ h=>h).ints (d6.fr g2 fun _ _ h=>h).ints hf2) ?_
  rintro _ h4 ⟨f4,rfl⟩
  refine⟨_,rfl,?_,f4⟩
  rw[e4,d4];simp
 rintro _ h3 ⟨rfl,f3⟩
 refine⟨fun e=>(by cases e),fun _=>?_⟩
 refine⟨fun i hh=>∃j:Nat,i=j∧j≤ts.length∧Grow h2 hh,fun i _=>ts.length - i.toNat,⟨0,rfl,Nat.zero_le _,f3⟩,?_⟩
 rintro _ h5 ⟨j,rfl,hj,f5⟩
 have K15:=f5.blk K1 fun h=>h
 have K25:=f5.blk k2 fun h=>h
 refine ldS_i (s:=v.ps) (by rw[add_plain,K15.cl];rfl) ?_
 refine ifb_iff (q:=j<ts.length) (by rw[e7];simp) (fun hlt=>?_) (fun hge=>⟨g2.trans f5,rfl⟩)
 have g5:=g2.trans f5
 obtain⟨p,u,q1,q2,q3,q4,q5⟩:=e8 j hlt
 obtain⟨p',u',r1,r2,r3,r4,r5⟩:=d8 j (by omega)
 refine ldS_i (s:=v.ps) (by rw[add_plain,K15.cl];rfl) ⟨p,q1,by omega,by rw[e7];omega,?_⟩
 rw[Int.toNat_natCast]
 refine rd7 (q4.fr g5 fun h=>h) (ldS_i (s:=v'.ps) (by rw[add_plain,K25.cl];rfl) ⟨p',r1,by omega,by rw[d7];omega,?_⟩)
 refine rd7 (r4.fr g5 fun h=>h) ?_
 refine cal_of (ih ts[j] (List.getElem_mem hlt) (hf3 _ (List.getElem_mem hlt)) (VAt.grow q5 g5) (VAt.grow r5 g5) (hel j hlt (by omega))) ?_
 rintro _ h6 ⟨f6,rfl⟩
 refine⟨_,rfl,fun e=>(by cases e),fun _=>?_⟩
 rw[wrap_succ hlt (by omega)]
 exact⟨⟨j+1,rfl,hlt,f5.trans f6⟩,by dsimp only;omega⟩
end Go.Proofs.Ytggacajnmgligaa
namespace Go.Proofs.Ytggacajnmgligaa
open Go Go.Lf
set_option linter.unusedVariables false
theorem lawSmall_spec:∀(d:Nat) {o:Bool} {Q:Nat→Prop} {A:List Nat→Nat→Prop} {t:Vl} {v:Vv} {h:Heap},d≤5→VAt o Q h t A v→CallsH Try.prog 22 #[.agg (vvs v),.int .i64 (d:Int)] h (fun x h'=>Grow h h'∧∃b,x=.bool b∧(b=true→few t))
 | 0,o,Q,A,t,v,h,hd,hv=>by
  apply F22
  unfold L22
  refine newV (v:=v) fun h1 k1 f1 z1=>?_
  refine⟨fun c=>c=true,⟨fun _=>rfl,fun e=>by simp at e⟩,?_⟩
  rintro _ rfl
  refine⟨fun c=>c=true,⟨fun _=>rfl,fun e=>by simp at e⟩,?_⟩
  rintro _ rfl
  refine⟨fun c=>c=true,⟨fun _=>rfl,fun e=>by simp at e⟩,?_⟩
  rintro _ rfl
  exact⟨fun _=>⟨f1,false,rfl,fun e=>by cases e⟩,fun e=>by cases e⟩
 | d+1,o,Q,A,.mk k n nm ts al pa tg,v,h,hd,hv=>by
  obtain⟨e1,e2,e3,e4,e5,e6,e7,e8⟩:=vAt_iff.1 hv
  apply F22
  unfold L22
  refine newV (v:=v) fun h1 k1 f1 z1=>?_
  refine⟨fun c=>c=decide (5<ts.length),⟨fun e=>(by simp at e;omega),fun _=>?_⟩,?_⟩
  ·refine ldS_i (s:=v.ps) (by rw[add_plain,k1.cl];rfl) ?_
   rw[e7];show decide _=decide _;rw[Bool.eq_iff_iff,decide_eq_true_iff,decide_eq_true_iff];omega
  rintro _ rfl
  refine⟨fun c=>c=decide (5<ts.length∨60<nm.size),⟨fun e=>by simp at e;simp[e],fun e=>?_⟩,?_⟩
  ·refine⟨v.nm,by rw[add_plain,k1.cl];rfl,?_⟩
   have e:=of_decide_eq_false e
   rw[e3];show decide _=decide _;rw[Bool.eq_iff_iff,decide_eq_true_iff,decide_eq_true_iff];omega
  rintro _ rfl
  refine⟨fun c=>c=decide ((5<ts.length∨60<nm.size)∨6<pa.length),⟨fun e=>by simp at e;simp[e],fun e=>?_⟩,?_⟩
  ·refine ldS_i (s:=v.pa) (by rw[add_plain,add_plain,k1.cl];rfl) ?_
   have e:=of_decide_eq_false e
   rw[e6.len];show decide _=decide _;rw[Bool.eq_iff_iff,decide_eq_true_iff,decide_eq_true_iff];omega
  rintro _ rfl
  refine ifb_dec (fun hb=>⟨f1,false,rfl,fun e=>by cases e⟩) (fun hb=>?_)
  refine⟨fun i hh=>∃j:Nat,i=j∧j≤ts.length∧Grow h1 hh∧∀a∈ts.take j,few a,fun i _=>ts.length - i.toNat,⟨0,rfl,Nat.zero_le _,Fr.refl _ _,by simp⟩,?_⟩
  rintro _ h3 ⟨j,rfl,hj,f3,hall⟩
  have k3:=f3.blk k1 fun h=>h
  refine ldS_i (s:=v.ps) (by rw[add_plain,k3.cl];rfl) ?_
  refine ifb_iff (q:=j<ts.length) (by rw[e7];simp) (fun hlt=>?_) (fun hge=>?_)
  rotate_left
  ·obtain rfl:j=ts.length:=by omega
   rw[List.take_length] at hall
   exact⟨f1.trans f3,true,rfl,fun _=>few_mk.2 ⟨by omega,by omega,hall⟩⟩
  obtain⟨p,u,q1,q2,q3,q4,q5⟩:=e8 j hlt
  have g3:=f1.trans f3
  refine ldS_i (s:=v.ps) (by rw[add_plain,k3.cl];rfl) ⟨p,q1,by omega,by rw[e7];omega,?_⟩
  rw[Int.toNat_natCast]
  refine rd7 (q4.fr g3 fun h=>h) ?_
  have ed:IntKind.i64.wrap (((d+1:Nat):Int) - 1)=(d:Int):=by rw[wrap64_id (by omega) (by omega)];omega
  rw[ed]
  refine cal_of (lawSmall_spec d (by omega) (VAt.grow q5 g3)) ?_
  rintro _ h4 ⟨f4,b,rfl,hb'⟩
  refine⟨_,rfl,fun e=>⟨g3.trans f4,false,rfl,fun e=>by cases e⟩,fun e=>?_⟩
  have hbt:b=true:=by simpa using e
  rw[wrap_succ hlt (by omega)]
  refine⟨⟨j+1,rfl,hlt,f3.trans f4,fun a ha=>?_⟩,by dsimp only;omega⟩
  rw[List.take_succ_eq_append_getElem hlt] at ha
  rcases List.mem_append.1 ha with h|h
  ·exact hall a h
  ·simp at h;subst h;exact hb' hbt
end Go.Proofs.Ytggacajnmgligaa
namespace Go.Proofs.Ytggacajnmgligaa
open Go Go.Lf
set_option linter.unusedVariables false
structure Opx where
 kind:Int
 a:Int
 p:Int
 pa:List Int
 t:Vl
 put:Int
structure Opv where
 kind:Int
 a:Int
 p:Int
 ps:Sv
 v:Vv
 put:Int
abbrev opc (o:Opv):List Value:=[.int .i64 o.kind,.int .i64 o.a,.int .i64 o.p,.slice o.ps.a o.ps.n o.ps.c,.int .i64 o.v.k,.int .u64 o.v.n,.string o.v.nm,.slice o.v.ps.a o.v.ps.n o.v.ps.c,.int .i64 o.v.al,.slice o.v.pa.a o.v.pa.n o.v.pa.c,.int .i64 o.v.tg,.int .i64 o.put]
structure OpAt (Q:Nat→Prop) (h:Heap) (o:Opx) (w:Opv):Prop where
 k:w.kind=o.kind
 a:w.a=o.a
 p:w.p=o.p
 pa:IntsC Q h w.ps o.pa
 t:VAt false Q h o.t (anyA Q) w.v
 put:w.put=o.put
structure OpsAt (Q:Nat→Prop) (h:Heap) (l:Sv) (ops:List Opx):Prop where
 rows:RowsE l 12 ops.length fun i p=>Q p.block∧∃(hi:i<ops.length) (w:Opv),CsAt h p (opc w)∧OpAt Q h ops[i] w
theorem OpAt.fr {Q T:Nat→Prop} {h h':Heap} {o:Opx} {w:Opv} (x:OpAt Q h o w) (f:Fr T h h') (hT:∀b,Q b→¬T b):OpAt Q h' o w:=
 ⟨x.k,x.a,x.p,x.pa.fr f hT,x.t.fr f hT fun _ b hb=>hT b hb,x.put⟩
theorem OpsAt.fr {Q T:Nat→Prop} {h h':Heap} {l:Sv} {ops:List Opx} (x:OpsAt Q h l ops) (f:Fr T h h') (hT:∀b,Q b→¬T b):OpsAt Q h' l ops:=
 ⟨x.rows.len,fun i hi=>by
  obtain⟨p,e,q,hi,w,c,d⟩:=x.rows.at_ i hi
  exact⟨p,e,q,hi,w,c.fr f (hT _ q),d.fr f hT⟩⟩
theorem op_v {h:Heap} {p:Addr} {w:Opv} (c:CsAt h p (opc w)):Vv7 h (p.add 4) w.v:=fun j u hu=>by
 rw[add_add]
 have hj:j<7:=(Array.getElem?_eq_some_iff.1 hu).1
 refine c (4+j) u ?_
 rcases j with _|_|_|_|_|_|_|j<;>first|exact hu|omega
def FewO (ops:List Opx):Prop:=ops.length≤60∧∀o∈ops,o.pa.length≤4∧few o.t
theorem lawFew_spec {Q:Nat→Prop} {h:Heap} {l:Sv} {ops:List Opx} (x:OpsAt Q h l ops):CallsH Try.prog 19 #[.slice l.a l.n l.c] h (fun v h'=>Grow h h'∧∃b,v=.bool b∧(b=true→FewO ops)):=by
 have hn:=x.rows.len
 apply F19
 unfold L19
 refine ifb_iff (q:=60<ops.length) (by rw[hn];simp;omega) (fun _=>⟨Fr.refl _ _,false,rfl,fun e=>by cases e⟩) (fun hlen=>?_)
 refine⟨fun i hh=>∃j:Nat,i=j∧j≤ops.length∧Grow h hh∧∀o∈ops.take j,o.pa.length≤4∧few o.t,fun i _=>ops.length - i.toNat,⟨0,rfl,Nat.zero_le _,Fr.refl _ _,by simp⟩,?_⟩
 rintro _ h1 ⟨j,rfl,hj,f1,hall⟩
 refine ifb_iff (q:=j<ops.length) (by rw[hn];simp) (fun hlt=>?_) (fun hge=>?_)
 rotate_left
 ·obtain rfl:j=ops.length:=by omega
  rw[List.take_length] at hall
  exact⟨f1,true,rfl,fun _=>⟨by omega,hall⟩⟩
 obtain⟨p,ep,q,hi,w,c,d⟩:=(x.fr f1 fun _ _ h=>h).rows.at_ j hlt
 refine⟨p,ep,by omega,by rw[hn];omega,?_⟩
 rw[Int.toNat_natCast]
 refine ldS_i (s:=w.ps) (c 3 _ rfl) ?_
 have lp:=d.pa.len
 refine⟨fun c hh=>Grow h1 hh∧(c=false→ops[j].pa.length≤4∧few ops[j].t),⟨fun e=>⟨Fr.refl _ _,fun e=>by cases e⟩,fun e=>?_⟩,?_⟩
 ·have e:=of_decide_eq_false e
  refine⟨p,ep,by omega,by rw[hn];omega,rd7 (op_v c) ?_⟩
  refine cal_of (lawSmall_spec 5 (Nat.le_refl _) d.t) ?_
  rintro _ h3 ⟨f3,b,rfl,hb⟩
  exact⟨_,rfl,f3,fun e2=>⟨by omega,hb (by simpa using e2)⟩⟩
 rintro b h2 ⟨f2,hb⟩
 refine⟨fun e=>⟨f1.trans f2,false,rfl,fun e=>by cases e⟩,fun e=>?_⟩
 rw[wrap_succ hlt (by omega)]
 refine⟨⟨j+1,rfl,hlt,f1.trans f2,fun o ho=>?_⟩,by dsimp only;omega⟩
 rw[List.take_succ_eq_append_getElem hlt] at ho
 rcases List.mem_append.1 ho with h|h
 ·exact hall o h
 ·simp at h;subst h;exact hb e
end Go.Proofs.Ytggacajnmgligaa
namespace Go.Proofs.Ytggacajnmgligaa
open Go Go.Lf
set_option linter.unusedVariables false
def valueX (o:Opx) (al:Int) (pa:List Int) (tg:Int):Vl:=
 if o.put=1 then .mk 6 0 ⟨#[]⟩ [] al [] 0 else if o.put=2 then .mk 7 0 ⟨#[]⟩ [] al pa tg else o.t
theorem lawValue_spec {Q:Nat→Prop} {h:Heap} {o:Opx} {w:Opv} (x:OpAt Q h o w) (hQ:∀b,Q b→b<h.size) {al tg:Int} {sp:Sv} {pa:List Int} (hpt:IntsC Q h sp pa) :
  CallsH Try.prog 36 #[.agg (opc w).toArray,.agg (pvs al sp tg)] h (fun v h'=>Grow h h'∧∃u,v=.agg (vvs u)∧VAt false Q h' (valueX o al pa tg) (anyA Q) u):=by
 apply F36
 unfold L36
 rintro p2 h1 rfl rfl
 have k1:blk (h.push (.cells (opc w).toArray 61)) h.size (opc w).toArray:=blk.new _ _ _
 have f1:Grow h (h.push (.cells (opc w).toArray 61)):=Fr.push _ _ _
 have z1:(h.push (.cells (opc w).toArray 61)).size=h.size+1:=by simp
 generalize h.push (.cells (opc w).toArray 61)=h1 at *
 refine newPt (al:=al) (sp:=sp) (tg:=tg) fun h2 k2 f2 z2=>newV (v:=zVv) fun h3 k3 f3 z3=>?_
 have g3:=(f1.trans f2).trans f3
 have K1:=(f2.trans f3).blk k1 fun h=>h
 have K2:=f3.blk k2 fun h=>h
 have c1:CsAt h3 ⟨h.size,0,none⟩ (opc w):=by simpa using CsAt.blk K1
 refine ldI_i (x:=w.put) (c1 11 _ rfl) ?_
 have fin:∀(u:Vv) (t:Vl),VAt false Q h t (anyA Q) u→∀h4,Fr (fun i=>i=h2.size) h3 h4→VAt false Q h4 t (anyA Q) u:=fun u t hv h4 f4=>
  (VAt.grow hv g3).fr f4 (fun b hb e=>by have:=hQ b hb;omega) fun _ b hb e=>by have:=hQ b hb;omega
 unfold valueX
 rw[x.put]
 refine ifb_iff (q:=o.put=1) (by simp) (fun h1=>?_) (fun h1=>?_)
 ·refine ldI_i (x:=al) (by rw[K2.cl];rfl) ?_
  refine stoV (v:=⟨6,0,⟨#[]⟩,⟨none,0,0⟩,al,⟨none,0,0⟩,0⟩) k3 rfl fun h4 k4 f4=>rd7 (Vv7.blk k4) ⟨g3.trans' f4 fun i hi e=>by omega,_,rfl,?_⟩
  rw[if_pos h1]
  exact vAt_iff.2 ⟨rfl,rfl,rfl,rfl,rfl,IntsC.nil _ _,rfl,fun j hj=>absurd hj (Nat.not_lt_zero _)⟩
 refine ifb_iff (q:=o.put=2) (by simp) (fun h2'=>?_) (fun h2'=>?_)
 ·refine rdPt K2 ?_
  refine stoV (v:=⟨7,0,⟨#[]⟩,⟨none,0,0⟩,al,sp,tg⟩) k3 rfl fun h4 k4 f4=>rd7 (Vv7.blk k4) ⟨g3.trans' f4 fun i hi e=>by omega,_,rfl,?_⟩
  rw[if_neg h1,if_pos h2']
  exact vAt_iff.2 ⟨rfl,rfl,rfl,rfl,rfl,(hpt.fr g3 fun _ _ h=>h).fr f4 fun b hb e=>by have:=hQ b hb;omega,rfl,fun j hj=>absurd hj (Nat.not_lt_zero _)⟩
 ·refine rd7 (op_v c1) (stoV (v:=w.v) k3 rfl fun h4 k4 f4=>rd7 (Vv7.blk k4) ⟨g3.trans' f4 fun i hi e=>by omega,_,rfl,?_⟩)
  rw[if_neg h1,if_neg h2']
  exact fin _ _ x.t h4 f4
end Go.Proofs.Ytggacajnmgligaa
namespace Go.Proofs.Ytggacajnmgligaa
open Go Go.Lf
set_option linter.unusedVariables false
def RowI (k:Nat) (a:Al):Prop:=few a.v∧a.st.length≤k∧(∀d∈a.st,d.pa.length≤1000000)∧(a.live=true→a.st≠[])
structure XI (M:Int) (k:Nat) (X:Hs):Prop where
 w:X.watch=true
 lv:X.live=(liveN X:Int)
 ll:X.l.length≤k
 t0:0≤X.tags
 t1:X.tags≤(k:Int)
 row:∀a∈X.l,RowI k a
 mo:X.most=M
structure SI (k:Nat) (S:Hs):Prop where
 w:S.watch=false
 t0:0≤S.tags
 t1:S.tags≤(k:Int)
 st:∀a∈S.l,a.st.length≤1000000
section
variable {M:Int} {k:Nat} {S S' X X':Hs}
theorem RowI.up {a:Al} (x:RowI k a):RowI (k+1) a:=⟨x.1,by have:=x.2.1;omega,x.2.2.1,x.2.2.2⟩
theorem XI.up (x:XI M k X):XI M (k+1) X:=⟨x.w,x.lv,by have:=x.ll;omega,x.t0,by have:=x.t1;omega,fun a ha=>(x.row a ha).up,x.mo⟩
theorem SI.up (x:SI k S):SI (k+1) S:=⟨x.w,x.t0,by have:=x.t1;omega,x.st⟩
theorem XI.set (x:XI M k X) {j:Nat} (hj:j<X.l.length) {a:Al} (ha:RowI k a) (hl:a.live=X.l[j].live):XI M k { X with l:=X.l.set j a }:=by
 refine⟨x.w,?_,by simpa using x.ll,x.t0,x.t1,fun b hb=>?_,x.mo⟩
 ·rw[liveN_v (X:=X) (X':={ X with l:=X.l.set j a }) hj hl rfl];exact x.lv
 ·rcases List.mem_or_eq_of_mem_set hb with h|h
  ·exact x.row _ h
  ·rw[h];exact ha
theorem XI.kill (x:XI M k X) {j:Nat} (hj:j<X.l.length) (hl:X.l[j].live=true):XI M k { X with live:=X.live - 1,l:=X.l.set j ⟨false,zVl,[]⟩ }:=by
 refine⟨x.w,?_,by simpa using x.ll,x.t0,x.t1,fun b hb=>?_,x.mo⟩
 ·have:=liveN_set hj hl (X.live - 1) 0
  have e:=x.lv
  show X.live - 1=_
  omega
 ·rcases List.mem_or_eq_of_mem_set hb with h|h
  ·exact x.row _ h
  ·rw[h];exact⟨few_zVl,Nat.zero_le _,fun d hd=>(by cases hd),fun e=>(by cases e)⟩
theorem SI.kill (x:SI k S) {j:Nat}:SI k { S with live:=S.live - 1,l:=S.l.set j ⟨false,zVl,[]⟩ }:=
 ⟨x.w,x.t0,x.t1,fun b hb=>by
  rcases List.mem_or_eq_of_mem_set hb with h|h
  ·exact x.st _ h
  ·rw[h];simp⟩
def Kp (P:Hs→Prop) (F:Hs→Int→Hs×Int):Prop:=∀S i,P S→P (F S i).1
theorem drop_kp {P:Hs→Prop} {F:Hs→Int→Hs×Int} (hF:Kp P F):∀(t:Vl) S,P S→P (dropF F t S).1:=by
 intro t
 induction t using Vl.ind with
 | H k n nm ts al pa tg ih=>
  intro S hS
  rw[drop_mk]
  by_cases h6:k=6
  ·rw[if_pos h6];exact hF S al hS
  rw[if_neg h6]
  by_cases h5:k≠5
  ·rw[if_pos h5];exact hS
  rw[if_neg h5]
  clear h6 h5
  induction ts generalizing S with
  | nil=>exact hS
  | cons t ts ih2=>
   have m1:=ih t (by simp) S hS
   unfold dropL
   by_cases hc:(dropF F t S).2≠0
   ·rw[if_pos hc];exact m1
   ·rw[if_neg hc]
    exact ih2 (fun a ha=>ih a (by simp[ha])) _ m1
theorem free_kp {P:Hs→Prop} (hP:∀S j (hj:j<S.l.length),S.l[j].live=true→P S→P { S with live:=S.live - 1,l:=S.l.set j ⟨false,zVl,[]⟩ }):∀n,Kp P (freeS n)
 | 0=>fun S i m=>m
 | n+1=>fun S i m=>by
  unfold freeS
  cases h:atS S i with
  | none=>exact m
  | some a=>
   obtain⟨j,rfl,hj,e,hl⟩:=atS_some h
   refine drop_kp (free_kp hP n) a.v _ ?_
   have:=hP S j hj (by rw[e];exact hl) m
   simpa using this
theorem XI.free (x:XI M k X) (n:Nat) (i:Int):XI M k (freeS n X i).1:=free_kp (P:=XI M k) (fun S j hj hl x=>x.kill hj hl) n X i x
theorem SI.free (x:SI k S) (n:Nat) (i:Int):SI k (freeS n S i).1:=free_kp (P:=SI k) (fun S j hj hl x=>x.kill) n S i x
theorem useAlX_st {a a':Al} {pa:List Int} {tg:Int} {w:Bool} (h:useAlX a pa tg w=some a'):a'.st.length≤a.st.length∧∀d∈a'.st,d∈a.st:=by
 unfold useAlX at h
 split at h
 ·cases h
 ·rename_i kk hkk
  split at h
  ·cases h
  ·split at h
   ·cases h
   ·simp only[Option.some.injEq] at h
    subst h
    refine⟨?_,fun d hd=>?_⟩
    ·have:=List.length_filter_le (keepX pa w) (a.st.drop (kk+1))
     simp only[List.length_append,List.length_take,List.length_drop] at this ⊢
     omega
    ·rcases List.mem_append.1 hd with h|h
     ·exact List.mem_of_mem_take h
     ·exact List.mem_of_mem_drop (List.mem_filter.1 h).1
theorem XI.use (x:XI M k X) {al tg:Int} {pa:List Int} {w:Bool} (h:useX X al pa tg w=.ok X'):XI M k X':=by
 unfold useX at h
 split at h
 ·cases h
 ·rename_i a ha
  split at h
  ·cases h
  ·rename_i a' ha'
   simp only[Except.ok.injEq] at h
   subst h
   obtain⟨j,rfl,hj,e,hl⟩:=atS_some ha
   obtain⟨q1,q2,q3⟩:=useAlX_eq ha'
   obtain⟨s1,s2⟩:=useAlX_st ha'
   obtain⟨r1,r2,r3,r4⟩:=x.row a (by rw[←e];exact List.getElem_mem hj)
   have:=x.set hj (a:=a') ⟨by rw[q2];exact r1,by omega,fun d hd=>r3 d (s2 d hd),fun h=>q3 (r4 (by rw[←q1];exact h))⟩ (by rw[q1,e])
   simpa using this
theorem XI.v (x:XI M k X) {al:Int} {a:Al} (h:atS X al=some a) {t:Vl} (ht:few t):XI M k { X with l:=X.l.set al.toNat { a with v:=t } }:=by
 obtain⟨j,rfl,hj,e,hl⟩:=atS_some h
 obtain⟨r1,r2,r3,r4⟩:=x.row a (by rw[←e];exact List.getElem_mem hj)
 have:=x.set hj (a:={ a with v:=t }) ⟨ht,r2,r3,r4⟩ (by rw[e])
 simpa using this
theorem XI.fewAt (x:XI M k X) {al:Int} {a:Al} (h:atS X al=some a):few a.v:=by
 obtain⟨j,rfl,hj,e,hl⟩:=atS_some h
 exact (x.row a (by rw[←e];exact List.getElem_mem hj)).1
theorem XI.get (x:XI M k X) {al tg:Int} {pa:List Int} {w:Bool} {y:Vl} (h:getX X al pa tg w=(X',.ok y)):XI M k X'∧few y:=by
 obtain⟨u,j,rfl,hj,ha,hg⟩:=getX_ok (by rw[h]:(getX X al pa tg w).2=.ok y)
 have x':=x.use u
 have e:X'=(getX X j pa tg w).1:=by rw[h]
 rw[e]
 exact⟨x',getV_few _ _ _ hg (x'.fewAt ha)⟩
theorem XI.take (x:XI M k X) {al tg:Int} {pa:List Int} {y:Vl} (h:takeX X al pa tg=(X',.ok y)):XI M k X'∧few y:=by
 unfold takeX at h
 split at h
 ·simp at h
 ·rename_i X2 y2 hg
  obtain⟨x2,fy⟩:=x.get hg
  split at h
  ·simp at h
  ·rename_i a ha
   simp only[Prod.mk.injEq,Except.ok.injEq] at h
   obtain⟨rfl,rfl⟩:=h
   exact⟨x2.v ha (few_put _ _ _ (x2.fewAt ha) few_zVl),fy⟩
theorem XI.write (x:XI M k X) {n:Nat} {al tg:Int} {pa:List Int} {t:Vl} (ht:few t):XI M k (writeX n X al pa tg t).1:=by
 unfold writeX
 split
 ·exact x
 ·rename_i X1 hu
  have x1:=x.use hu
  split
  ·exact x1
  ·rename_i a ha
   split
   ·exact x1
   ·rename_i old ho
    exact drop_kp (free_kp (P:=XI M k) (fun S j hj hl x=>x.kill hj hl) n) old _ (x1.v ha (few_put _ _ _ (x1.fewAt ha) ht))
theorem XI.borrow (x:XI M k X) {al tg:Int} {pa:List Int} {u:Bool} {t:Int} (hp:pa.length≤1000000) (h:borrowX X al pa tg u=(X',.ok t)):XI M (k+1) X':=by
 unfold borrowX at h
 split at h
 ·simp at h
 ·rename_i X2 y2 hg
  obtain⟨x2,fy⟩:=x.get hg
  split at h
  ·rename_i a ha
   simp only[Prod.mk.injEq,Except.ok.injEq] at h
   obtain⟨rfl,rfl⟩:=h
   obtain⟨hj,rfl⟩:=List.getElem?_eq_some_iff.1 ha
   obtain⟨r1,r2,r3,r4⟩:=x2.row _ (List.getElem_mem hj)
   have y:=x2.up.set hj (a:={ X2.l[al.toNat] with st:=X2.l[al.toNat].st++[⟨X2.tags+1,pa,u⟩] }) ⟨r1,by simp;omega,fun d hd=>by
    rcases List.mem_append.1 hd with h|h
    ·exact r3 d h
    ·simp at h;rw[h];exact hp,fun _=>by simp⟩ rfl
   exact⟨y.w,y.lv,y.ll,by have:=x2.t0;show 0≤X2.tags+1;omega,by have:=x2.t1;show X2.tags+1≤((k+1:Nat):Int);omega,y.row,y.mo⟩
  ·simp at h
theorem XI.alloc (x:XI M k X) {t:Vl} (ht:few t):XI M (k+1) (allocS X t):=by
 refine⟨x.w,?_,by simpa [allocS] using x.ll,by have:=x.t0;show 0≤X.tags+1;omega,by have:=x.t1;show X.tags+1≤((k+1:Nat):Int);omega,fun a ha=>?_,x.mo⟩
 ·have:=x.lv
  simp only[allocS,liveN,List.countP_append] at this ⊢
  simp
  omega
 ·simp only[allocS] at ha
  rcases List.mem_append.1 ha with h|h
  ·exact (x.row a h).up
  ·simp at h;rw[h]
   refine⟨ht,?_,fun d hd=>?_,fun _=>?_⟩
   ·simp[x.w]
   ·simp[x.w] at hd;rw[hd];simp
   ·simp[x.w]
theorem SI.useGet (x:SI k S) {al tg:Int} {pa:List Int} {w:Bool}:(useGet S al pa tg w).1=S:=by
 unfold Go.Proofs.Ytggacajnmgligaa.useGet useS
 cases h:atS S al with
 | none=>rfl
 | some a=>simp[x.w]
theorem SI.v (x:SI k S) {al:Int} {a:Al} (h:atS S al=some a) {t:Vl}:SI k { S with l:=S.l.set al.toNat { a with v:=t } }:=
 ⟨x.w,x.t0,x.t1,fun b hb=>by
  rcases List.mem_or_eq_of_mem_set hb with h'|h'
  ·exact x.st _ h'
  ·obtain⟨j,rfl,hj,e,hl⟩:=atS_some h
   rw[h'];exact x.st a (by rw[←e];exact List.getElem_mem hj)⟩
theorem SI.take (x:SI k S) {al tg:Int} {pa:List Int}:SI k (takeS S al pa tg).1:=by
 have h1:=x.useGet (al:=al) (tg:=tg) (pa:=pa) (w:=true)
 unfold takeS
 split
 ·rename_i S1 f e
  rw[e] at h1;simp only at h1;subst h1;exact x
 ·rename_i S1 y e
  rw[e] at h1;simp only at h1;subst h1
  split
  ·exact x
  ·rename_i a ha
   exact x.v ha
theorem SI.write (x:SI k S) {n:Nat} {al tg:Int} {pa:List Int} {t:Vl}:SI k (writeS n S al pa tg t).1:=by
 unfold writeS useS
 cases h:atS S al with
 | none=>exact x
 | some a=>
  dsimp only
  rw[if_pos x.w]
  dsimp only
  rw[h]
  dsimp only
  split
  ·exact x
  ·rename_i old ho
   exact drop_kp (free_kp (P:=SI k) (fun S j hj hl x=>x.kill) n) old _ (x.v h)
theorem SI.alloc (x:SI k S) {t:Vl}:SI (k+1) (allocS S t):=by
 refine⟨x.w,by have:=x.t0;show 0≤S.tags+1;omega,by have:=x.t1;show S.tags+1≤((k+1:Nat):Int);omega,fun a ha=>?_⟩
 simp only[allocS] at ha
 rcases List.mem_append.1 ha with h|h
 ·exact x.st a h
 ·simp[x.w] at h;rw[h];simp
end
structure Iv (M:Int) (k:Nat) (S X:Hs):Prop where
 sm:Sm S X
 si:SI k S
 xi:XI M k X
section
variable {M:Int} {k:Nat} {S S' X X':Hs}
theorem Iv.up (v:Iv M k S X):Iv M (k+1) S X:=⟨v.sm,v.si.up,v.xi.up⟩
theorem Iv.fewX (v:Iv M k S X) (hk:k≤1000):FewX X:=⟨by have:=v.xi.ll;omega,fun a ha=>by obtain⟨r1,r2,r3,r4⟩:=v.xi.row a ha;exact⟨r1,by omega,r3⟩⟩
theorem Iv.liveN (v:Iv M k S X):liveN X≤k:=Nat.le_trans List.countP_le_length v.xi.ll
theorem Iv.few (v:Iv M k S X) (hk:k≤1000):Few S:=by
 have h1:=v.sm.len
 have h2:=v.xi.ll
 have h3:=v.sm.live
 have h4:=v.xi.lv
 have h5:=v.liveN
 have h6:=v.si.t0
 have h7:=v.si.t1
 exact⟨by omega,by omega,by omega,by omega,by omega,v.si.st⟩
theorem Sm.liveN (m:Sm S X):liveN S=liveN X:=by
 refine liveN_map (List.ext_getElem (by simpa using m.len) fun i h1 h2=>?_)
 simpa using (m.el i (by simpa using h1) (by simpa using h2)).1
theorem Iv.okL (v:Iv M k S X) (hk:k≤1000):OkL S:=by
 have h1:=v.sm.liveN
 have h3:=v.sm.live
 have h4:=v.xi.lv
 have h5:=v.liveN
 exact⟨by omega,by omega⟩
end
end Go.Proofs.Ytggacajnmgligaa
namespace Go.Proofs.Ytggacajnmgligaa
open Go Go.Lf
set_option linter.unusedVariables false
structure Wd (h0:Heap) (lab:Nat→Lb) (Q:Nat→Prop) (h:Heap) (hp hr:Nat) (s:Sv) (S X:Hs):Prop where
 ses:Ses h0 lab h hp S
 rat:∃rs,RAt Q h hr X s rs
 q:∀b,Q b→lab b=.no∧b<h.size
 hr:lab hr=.no∧h0.size≤hr
 own:∀b,s.own b→lab b=.no∧h0.size≤b
structure Mv (lab:Nat→Lb) (Q:Nat→Prop) (h:Heap) (hr:Nat) (s:Sv) (lab':Nat→Lb) (Q':Nat→Prop) (h':Heap) (s':Sv):Prop where
 fr:Fr (fun b=>Mut (lab b)∨b=hr∨s.own b) h h'
 lb:∀b,b<h.size→¬Mut (lab b)→lab' b=lab b
 qq:∀b,Q b→Q' b
 qn:∀b,Q' b→Q b∨h.size≤b
 ow:∀b,s'.own b→s.own b∨h.size≤b
section
variable {h0 h h' h1 h2:Heap} {lab lab' lab1 lab2:Nat→Lb} {Q Q' Q1 Q2:Nat→Prop} {hp hr:Nat} {s s' s1 s2:Sv} {S S' X X':Hs}
theorem Ses.fr {T:Nat→Prop} (x:Ses h0 lab h hp S) (f:Fr T h h') (hT:∀b,T b→lab b=.no∧h0.size≤b):Ses h0 lab h' hp S:=by
 obtain⟨s,bs,x,g0,l0⟩:=x
 exact⟨s,bs,x.fr f fun b hb=>(hT b hb).1,g0.trans' f fun i hi e=>by have:=(hT i e).2;omega,l0⟩
theorem Mv.refl:Mv lab Q h hr s lab Q h s:=⟨Fr.refl _ _,fun _ _ _=>rfl,fun _ h=>h,fun _ h=>.inl h,fun _ h=>.inl h⟩
theorem Mv.trans (a:Mv lab Q h hr s lab1 Q1 h1 s1) (b:Mv lab1 Q1 h1 hr s1 lab2 Q2 h2 s2):Mv lab Q h hr s lab2 Q2 h2 s2:=by
 have z:=a.fr.size
 refine⟨a.fr.trans' b.fr fun i hi e=>?_,fun c hc hn=>?_,fun c hc=>b.qq c (a.qq c hc),fun c hc=>?_,fun c hc=>?_⟩
 ·rcases e with e|e|e
  ·refine .inl (Classical.byContradiction fun hn=>?_)
   rw[a.lb i hi hn] at e;exact hn e
  ·exact .inr (.inl e)
  ·rcases a.ow i e with e|e
   ·exact .inr (.inr e)
   ·omega
 ·have e:=a.lb c hc hn
  rw[b.lb c (by omega) (by rw[e];exact hn),e]
 ·rcases b.qn c hc with e|e
  ·exact a.qn c e
  ·exact .inr (by omega)
 ·rcases b.ow c hc with e|e
  ·exact a.ow c e
  ·exact .inr (by omega)
theorem Mv.loc {T:Nat→Prop} (a:Mv lab Q h hr s lab1 Q1 h1 s1) (f:Fr T h1 h2) (hT:∀b,T b→h.size≤b):Mv lab Q h hr s lab1 Q1 h2 s1:=
 ⟨a.fr.trans' f fun i hi e=>by have:=hT i e;omega,a.lb,a.qq,a.qn,a.ow⟩
theorem Mv.grow (a:Mv lab Q h hr s lab1 Q1 h1 s1) (f:Grow h1 h2):Mv lab Q h hr s lab1 Q1 h2 s1:=a.loc f fun _ h=>h.elim
theorem Wd.hrs (w:Wd h0 lab Q h hp hr s S X):hr<h.size:=by obtain⟨rs,x⟩:=w.rat;exact x.hd.lt
theorem Wd.owns (w:Wd h0 lab Q h hp hr s S X) {b:Nat} (hb:s.own b):b<h.size:=by obtain⟨rs,x⟩:=w.rat;exact (x.own.ge hb).2
theorem Wd.h0s (w:Wd h0 lab Q h hp hr s S X):h0.size≤h.size:=by obtain⟨_,_,_,g,_⟩:=w.ses;exact g.size
theorem Wd.qn (w:Wd h0 lab Q h hp hr s S X) {b:Nat} (hb:Q b):b≠hr∧¬s.own b:=by obtain⟨rs,x⟩:=w.rat;exact x.q b hb
theorem Wd.no (w:Wd h0 lab Q h hp hr s S X) {b:Nat} (hb:h.size≤b):lab b=.no:=w.ses.no hb
theorem Wd.fr {T:Nat→Prop} (w:Wd h0 lab Q h hp hr s S X) (f:Fr T h h') (hT:∀b,T b→lab b=.no∧h0.size≤b∧b≠hr∧¬s.own b∧¬Q b):Wd h0 lab Q h' hp hr s S X:=by
 obtain⟨x1,⟨rs,x2⟩,x3,x4,x5⟩:=w
 exact⟨x1.fr f fun b hb=>⟨(hT b hb).1,(hT b hb).2.1⟩,⟨rs,x2.fr f (fun e=>(hT _ e).2.2.1 rfl) (fun b hb e=>(hT b e).2.2.2.1 hb) fun b hb e=>(hT b e).2.2.2.2 hb⟩,fun b hb=>⟨(x3 b hb).1,Nat.lt_of_lt_of_le (x3 b hb).2 f.size⟩,x4,x5⟩
theorem Wd.grow (w:Wd h0 lab Q h hp hr s S X) (f:Grow h h'):Wd h0 lab Q h' hp hr s S X:=w.fr f fun _ h=>h.elim
theorem Wd.loc {T:Nat→Prop} (w:Wd h0 lab Q h hp hr s S X) (w1:Wd h0 lab1 Q1 h1 hp hr s1 S' X') (m:Mv lab Q h hr s lab1 Q1 h1 s1) (f:Fr T h1 h2) (hT:∀b,T b→h.size≤b∧lab1 b=.no∧¬Q1 b∧¬s1.own b):Wd h0 lab1 Q1 h2 hp hr s1 S' X':=
 w1.fr f fun b hb=>by
  obtain⟨e1,e2,e3,e4⟩:=hT b hb
  have:=w.hrs
  have:=w.h0s
  exact⟨e2,by omega,by omega,e4,e3⟩
theorem Wd.prog (w:Wd h0 lab Q h hp hr s S X) (t:Stp lab h lab' h') (x:Ses h0 lab' h' hp S'):Wd h0 lab' Q h' hp hr s S' X∧Mv lab Q h hr s lab' Q h' s:=by
 have hrs:=w.hrs
 have ows:=fun b (hb:s.own b)=>w.owns hb
 obtain⟨x1,⟨rs,x2⟩,x3,x4,x5⟩:=w
 have k:∀b,b<h.size→lab b=.no→lab' b=.no:=fun b hb e=>by rw[t.2 b hb (nomut e)];exact e
 refine⟨⟨x,⟨rs,x2.fr t.1 (nomut x4.1) (fun b hb=>nomut (x5 b hb).1) fun b hb=>nomut (x3 b hb).1⟩,fun b hb=>⟨k b (x3 b hb).2 (x3 b hb).1,Nat.lt_of_lt_of_le (x3 b hb).2 t.1.size⟩,⟨k _ hrs x4.1,x4.2⟩,fun b hb=>⟨k b (ows b hb) (x5 b hb).1,(x5 b hb).2⟩⟩,?_⟩
 exact⟨t.1.mono fun _ _ h=>.inl h,t.2,fun _ h=>h,fun _ h=>.inl h,fun _ h=>.inl h⟩
theorem Wd.doc (w:Wd h0 lab Q h hp hr s S X) (f:Fr (fun b=>b=hr∨s.own b) h h') (hq:∀b,Q b→Q' b) (hn:∀b,Q' b→Q b∨(h.size≤b∧b<h'.size)) (how:∀b,s'.own b→s.own b∨h.size≤b) (hx:∃rs',RAt Q' h' hr X' s' rs') :
  Wd h0 lab Q' h' hp hr s' S X'∧Mv lab Q h hr s lab Q' h' s':=by
 have z:=w.h0s
 have hno:=fun b (hb:h.size≤b)=>w.no hb
 obtain⟨x1,⟨rs,x2⟩,x3,x4,x5⟩:=w
 refine⟨⟨x1.fr f fun b hb=>?_,hx,fun b hb=>?_,x4,fun b hb=>?_⟩,?_⟩
 ·rcases hb with rfl|hb
  ·exact x4
  ·exact x5 b hb
 ·rcases hn b hb with h|h
  ·exact⟨(x3 b h).1,Nat.lt_of_lt_of_le (x3 b h).2 f.size⟩
  ·exact⟨hno b h.1,h.2⟩
 ·rcases how b hb with h|h
  ·exact x5 b h
  ·exact⟨hno b h,by omega⟩
 ·exact⟨f.mono fun _ _ h=>.inr h,fun _ _ _=>rfl,hq,fun b hb=>(hn b hb).imp id fun h=>h.1,how⟩
theorem Wd.docN (w:Wd h0 lab Q h hp hr s S X) (f:Fr (fun b=>b=hr∨s.own b) h h') (z:RNx Q h hr s Q' h' X'):Wd h0 lab Q' h' hp hr s S X'∧Mv lab Q h hr s lab Q' h' s:=
 w.doc f z.1 z.2.1 (fun _ h=>.inl h) z.2.2
theorem Wd.docO (w:Wd h0 lab Q h hp hr s S X) (f:Fr s.own h h') (z:RNx Q h hr s Q' h' X'):Wd h0 lab Q' h' hp hr s S X'∧Mv lab Q h hr s lab Q' h' s:=
 w.docN (f.mono fun _ _ h=>.inr h) z
theorem Wd.more (w:Wd h0 lab Q h hp hr s S X) {G:Nat→Prop} (hG:∀b,G b→lab b=.no∧b<h.size∧b≠hr∧¬s.own b):Wd h0 lab (fun b=>Q b∨G b) h hp hr s S X:=by
 obtain⟨x1,⟨rs,x2⟩,x3,x4,x5⟩:=w
 refine⟨x1,⟨rs,x2.weak (fun b hb=>.inl hb) fun b hb=>?_⟩,fun b hb=>?_,x4,x5⟩
 ·rcases hb with h|h
  ·exact x2.q b h
  ·exact (hG b h).2.2
 ·rcases hb with h|h
  ·exact x3 b h
  ·exact⟨(hG b h).1,(hG b h).2.1⟩
theorem Mv.more (a:Mv lab Q h hr s lab1 Q1 h1 s1) {G:Nat→Prop} (hG:∀b,G b→h.size≤b):Mv lab Q h hr s lab1 (fun b=>Q1 b∨G b) h1 s1:=
 ⟨a.fr,a.lb,fun b hb=>.inl (a.qq b hb),fun b hb=>hb.elim (a.qn b) fun h=>.inr (hG b h),a.ow⟩
theorem Wd.not (w:Wd h0 lab Q h hp hr s S X) {b:Nat} (hb:lab b=.q∨Q b):¬(Mut (lab b)∨b=hr∨s.own b):=by
 rintro (e|e|e)
 ·rcases hb with h|h
  ·rw[h] at e;exact e.2 rfl
  ·exact nomut (w.q b h).1 e
 ·rcases hb with h|h
  ·rw[e,w.hr.1] at h;cases h
  ·exact (w.qn h).1 e
 ·rcases hb with h|h
  ·rw[(w.own b e).1] at h;cases h
  ·exact (w.qn h).2 e
theorem IntsC.mvQ {sp:Sv} {pa:List Int} (x:IntsC Q h sp pa) (w:Wd h0 lab Q h hp hr s S X) (m:Mv lab Q h hr s lab' Q' h' s'):IntsC Q' h' sp pa:=
 (x.fr m.fr fun b hb=>w.not (.inr hb)).weak fun b hb _=>m.qq b hb
theorem IntsC.mvP {sp:Sv} {pa:List Int} (x:IntsC (fun b=>lab b=.q∨Q b) h sp pa) (w:Wd h0 lab Q h hp hr s S X) (m:Mv lab Q h hr s lab' Q' h' s'):IntsC (fun b=>lab' b=.q∨Q' b) h' sp pa:=by
 have x':IntsC (fun b=>(lab b=.q∨Q b)∧b<h.size) h sp pa:=x.weak fun b hb hs=>⟨hb,hs⟩
 refine (x'.fr m.fr fun b hb=>w.not hb.1).weak fun b hb _=>?_
 rcases hb.1 with h|h
 ·refine .inl ?_
  rw[m.lb b hb.2 (by rw[h];exact fun e=>e.2 rfl)];exact h
 ·exact .inr (m.qq b h)
theorem VAt.mvQ {t:Vl} {v:Vv} (x:VAt false Q h t (anyA Q) v) (w:Wd h0 lab Q h hp hr s S X) (m:Mv lab Q h hr s lab' Q' h' s'):VAt false Q' h' t (anyA Q') v:=
 (x.fr m.fr (fun b hb=>w.not (.inr hb)) fun _ b hb=>w.not (.inr hb)).weak (fun b hb _=>m.qq b hb) (fun h=>h) fun _ b hb _=>m.qq b hb
theorem OpAt.weak {o:Opx} {v:Opv} (x:OpAt Q h o v) (hq:∀b,Q b→b<h.size→Q' b):OpAt Q' h o v:=⟨x.k,x.a,x.p,x.pa.weak hq,x.t.weak hq (fun h=>h) fun _ b hb hs=>hq b hb hs,x.put⟩
theorem OpAt.mvQ {o:Opx} {v:Opv} (x:OpAt Q h o v) (w:Wd h0 lab Q h hp hr s S X) (m:Mv lab Q h hr s lab' Q' h' s'):OpAt Q' h' o v:=
 (x.fr m.fr fun b hb=>w.not (.inr hb)).weak fun b hb _=>m.qq b hb
theorem Wd.nomutP (w:Wd h0 lab Q h hp hr s S X) {b:Nat} (hb:lab b=.q∨Q b):¬Mut (lab b):=fun e=>w.not hb (.inl e)
theorem Wd.ltP (w:Wd h0 lab Q h hp hr s S X) {b:Nat} (hb:lab b=.q∨Q b):b<h.size:=by
 rcases hb with e|e
 ·rcases Nat.lt_or_ge b h.size with g|g
  ·exact g
  ·rw[w.no g] at e;cases e
 ·exact (w.q b e).2
structure Loc (lab:Nat→Lb) (Q:Nat→Prop) (h:Heap) (hr:Nat) (s:Sv) (b:Nat):Prop where
 l:lab b=.no
 q:¬Q b
 r:b≠hr
 o:¬s.own b
 z:b<h.size
theorem Loc.not {b:Nat} (x:Loc lab Q h hr s b):¬(Mut (lab b)∨b=hr∨s.own b):=by
 rintro (e|e|e)
 ·exact nomut x.l e
 ·exact x.r e
 ·exact x.o e
theorem Loc.mv {b:Nat} (x:Loc lab Q h hr s b) (m:Mv lab Q h hr s lab' Q' h' s'):Loc lab' Q' h' hr s' b:=by
 have z:=x.z
 exact⟨by rw[m.lb b x.z (nomut x.l)];exact x.l,fun e=>(m.qn b e).elim x.q fun h=>by omega,x.r,fun e=>(m.ow b e).elim x.o fun h=>by omega,Nat.lt_of_lt_of_le x.z m.fr.size⟩
theorem Loc.blk {b:Nat} {cs:Array Value} (x:Loc lab Q h hr s b) (k:blk h b cs) (m:Mv lab Q h hr s lab' Q' h' s'):blk h' b cs:=m.fr.blk k x.not
theorem Loc.new (w:Wd h0 lab Q h hp hr s S X) {b:Nat} (hb:h.size≤b) (hz:b<h'.size):Loc lab Q h' hr s b:=
 ⟨w.no hb,fun e=>by have:=(w.q b e).2;omega,fun e=>by have:=w.hrs;omega,fun e=>by have:=w.owns e;omega,hz⟩
end
end Go.Proofs.Ytggacajnmgligaa
namespace Go.Proofs.Ytggacajnmgligaa
open Go Go.Lf
set_option linter.unusedVariables false
theorem rc3 {h:Heap} {p:Addr} {x0:Int} {x1:Sv} {x2:Int} {K:Int→Sv→Int→Prop} (c:CsAt h p [Value.int .i64 x0,Value.slice x1.a x1.n x1.c,Value.int .i64 x2]) (k:K x0 x1 x2) :
  ∃(y0:Int) (y1:Sv) (y2:Int),cl h p=some (Value.int .i64 y0)∧cl h (p.add 1)=some (Value.slice y1.a y1.n y1.c)∧cl h (p.add 2)=some (Value.int .i64 y2)∧K y0 y1 y2:=
 ⟨x0,x1,x2,c.at0,c 1 _ rfl,c 2 _ rfl,k⟩
theorem rh3 {Sq:Heap→Prop} {p:Addr} {x0:Int} {x1:Sv} {x2:Int} {K:Int→Sv→Int→Prop} (c:∀h,Sq h→CsAt h p [Value.int .i64 x0,Value.slice x1.a x1.n x1.c,Value.int .i64 x2]) (k:K x0 x1 x2) :
  ∃(y0:Int) (y1:Sv) (y2:Int),hld Sq p (Value.int .i64 y0)∧hld Sq (p.add 1) (Value.slice y1.a y1.n y1.c)∧hld Sq (p.add 2) (Value.int .i64 y2)∧K y0 y1 y2:=
 ⟨x0,x1,x2,fun h hs=>(c h hs).at0,fun h hs=>c h hs 1 _ rfl,fun h hs=>c h hs 2 _ rfl,k⟩
theorem rc6 {h:Heap} {p:Addr} {x0:Int} {x1:Sv} {x2:Int} {x3:Int} {x4:Sv} {x5:Int} {K:Int→Sv→Int→Int→Sv→Int→Prop} (c:CsAt h p [Value.int .i64 x0,Value.slice x1.a x1.n x1.c,Value.int .i64 x2,Value.int .i64 x3,Value.slice x4.a x4.n x4.c,Value.int .i64 x5]) (k:K x0 x1 x2 x3 x4 x5) :
  ∃(y0:Int) (y1:Sv) (y2:Int) (y3:Int) (y4:Sv) (y5:Int),cl h p=some (Value.int .i64 y0)∧cl h (p.add 1)=some (Value.slice y1.a y1.n y1.c)∧cl h (p.add 2)=some (Value.int .i64 y2)∧cl h (p.add 3)=some (Value.int .i64 y3)∧cl h (p.add 4)=some (Value.slice y4.a y4.n y4.c)∧cl h (p.add 5)=some (Value.int .i64 y5)∧K y0 y1 y2 y3 y4 y5:=
 ⟨x0,x1,x2,x3,x4,x5,c.at0,c 1 _ rfl,c 2 _ rfl,c 3 _ rfl,c 4 _ rfl,c 5 _ rfl,k⟩
theorem rh6 {Sq:Heap→Prop} {p:Addr} {x0:Int} {x1:Sv} {x2:Int} {x3:Int} {x4:Sv} {x5:Int} {K:Int→Sv→Int→Int→Sv→Int→Prop} (c:∀h,Sq h→CsAt h p [Value.int .i64 x0,Value.slice x1.a x1.n x1.c,Value.int .i64 x2,Value.int .i64 x3,Value.slice x4.a x4.n x4.c,Value.int .i64 x5]) (k:K x0 x1 x2 x3 x4 x5) :
  ∃(y0:Int) (y1:Sv) (y2:Int) (y3:Int) (y4:Sv) (y5:Int),hld Sq p (Value.int .i64 y0)∧hld Sq (p.add 1) (Value.slice y1.a y1.n y1.c)∧hld Sq (p.add 2) (Value.int .i64 y2)∧hld Sq (p.add 3) (Value.int .i64 y3)∧hld Sq (p.add 4) (Value.slice y4.a y4.n y4.c)∧hld Sq (p.add 5) (Value.int .i64 y5)∧K y0 y1 y2 y3 y4 y5:=
 ⟨x0,x1,x2,x3,x4,x5,fun h hs=>(c h hs).at0,fun h hs=>c h hs 1 _ rfl,fun h hs=>c h hs 2 _ rfl,fun h hs=>c h hs 3 _ rfl,fun h hs=>c h hs 4 _ rfl,fun h hs=>c h hs 5 _ rfl,k⟩
theorem rc12 {h:Heap} {p:Addr} {x0:Int} {x1:Int} {x2:Int} {x3:Sv} {x4:Int} {x5:Int} {x6:ByteArray} {x7:Sv} {x8:Int} {x9:Sv} {x10:Int} {x11:Int} {K:Int→Int→Int→Sv→Int→Int→ByteArray→Sv→Int→Sv→Int→Int→Prop} (c:CsAt h p [Value.int .i64 x0,Value.int .i64 x1,Value.int .i64 x2,Value.slice x3.a x3.n x3.c,Value.int .i64 x4,Value.int .u64 x5,Value.string x6,Value.slice x7.a x7.n x7.c,Value.int .i64 x8,Value.slice x9.a x9.n x9.c,Value.int .i64 x10,Value.int .i64 x11]) (k:K x0 x1 x2 x3 x4 x5 x6 x7 x8 x9 x10 x11) :
  ∃(y0:Int) (y1:Int) (y2:Int) (y3:Sv) (y4:Int) (y5:Int) (y6:ByteArray) (y7:Sv) (y8:Int) (y9:Sv) (y10:Int) (y11:Int),cl h p=some (Value.int .i64 y0)∧cl h (p.add 1)=some (Value.int .i64 y1)∧cl h (p.add 2)=some (Value.int .i64 y2)∧cl h (p.add 3)=some (Value.slice y3.a y3.n y3.c)∧cl h (p.add 4)=some (Value.int .i64 y4)∧cl h (p.add 5)=some (Value.int .u64 y5)∧cl h (p.add 6)=some (Value.string y6)∧cl h (p.add 7)=some (Value.slice y7.a y7.n y7.c)∧cl h (p.add 8)=some (Value.int .i64 y8)∧cl h (p.add 9)=some (Value.slice y9.a y9.n y9.c)∧cl h (p.add 10)=some (Value.int .i64 y10)∧cl h (p.add 11)=some (Value.int .i64 y11)∧K y0 y1 y2 y3 y4 y5 y6 y7 y8 y9 y10 y11:=
 ⟨x0,x1,x2,x3,x4,x5,x6,x7,x8,x9,x10,x11,c.at0,c 1 _ rfl,c 2 _ rfl,c 3 _ rfl,c 4 _ rfl,c 5 _ rfl,c 6 _ rfl,c 7 _ rfl,c 8 _ rfl,c 9 _ rfl,c 10 _ rfl,c 11 _ rfl,k⟩
theorem rh12 {Sq:Heap→Prop} {p:Addr} {x0:Int} {x1:Int} {x2:Int} {x3:Sv} {x4:Int} {x5:Int} {x6:ByteArray} {x7:Sv} {x8:Int} {x9:Sv} {x10:Int} {x11:Int} {K:Int→Int→Int→Sv→Int→Int→ByteArray→Sv→Int→Sv→Int→Int→Prop} (c:∀h,Sq h→CsAt h p [Value.int .i64 x0,Value.int .i64 x1,Value.int .i64 x2,Value.slice x3.a x3.n x3.c,Value.int .i64 x4,Value.int .u64 x5,Value.string x6,Value.slice x7.a x7.n x7.c,Value.int .i64 x8,Value.slice x9.a x9.n x9.c,Value.int .i64 x10,Value.int .i64 x11]) (k:K x0 x1 x2 x3 x4 x5 x6 x7 x8 x9 x10 x11) :
  ∃(y0:Int) (y1:Int) (y2:Int) (y3:Sv) (y4:Int) (y5:Int) (y6:ByteArray) (y7:Sv) (y8:Int) (y9:Sv) (y10:Int) (y11:Int),hld Sq p (Value.int .i64 y0)∧hld Sq (p.add 1) (Value.int .i64 y1)∧hld Sq (p.add 2) (Value.int .i64 y2)∧hld Sq (p.add 3) (Value.slice y3.a y3.n y3.c)∧hld Sq (p.add 4) (Value.int .i64 y4)∧hld Sq (p.add 5) (Value.int .u64 y5)∧hld Sq (p.add 6) (Value.string y6)∧hld Sq (p.add 7) (Value.slice y7.a y7.n y7.c)∧hld Sq (p.add 8) (Value.int .i64 y8)∧hld Sq (p.add 9) (Value.slice y9.a y9.n y9.c)∧hld Sq (p.add 10) (Value.int .i64 y10)∧hld Sq (p.add 11) (Value.int .i64 y11)∧K y0 y1 y2 y3 y4 y5 y6 y7 y8 y9 y10 y11:=
 ⟨x0,x1,x2,x3,x4,x5,x6,x7,x8,x9,x10,x11,fun h hs=>(c h hs).at0,fun h hs=>c h hs 1 _ rfl,fun h hs=>c h hs 2 _ rfl,fun h hs=>c h hs 3 _ rfl,fun h hs=>c h hs 4 _ rfl,fun h hs=>c h hs 5 _ rfl,fun h hs=>c h hs 6 _ rfl,fun h hs=>c h hs 7 _ rfl,fun h hs=>c h hs 8 _ rfl,fun h hs=>c h hs 9 _ rfl,fun h hs=>c h hs 10 _ rfl,fun h hs=>c h hs 11 _ rfl,k⟩
abbrev prs (a1:Int) (s1:Sv) (t1:Int) (a2:Int) (s2:Sv) (t2:Int):Array Value:=#[.int .i64 a1,.slice s1.a s1.n s1.c,.int .i64 t1,.int .i64 a2,.slice s2.a s2.n s2.c,.int .i64 t2]
theorem one_pr (a1:Int) (s1:Sv) (t1:Int) (a2:Int) (s2:Sv) (t2:Int):∀u∈(prs a1 s1 t1 a2 s2 t2).toList,u.oneCell'=true:=by
 intro u hu
 simp only[List.mem_cons,List.not_mem_nil,or_false] at hu
 rcases hu with rfl|rfl|rfl|rfl|rfl|rfl<;>rfl
theorem stoPr {h:Heap} {b:Nat} {cs:Array Value} {a1 t1 a2 t2:Int} {s1 s2:Sv} {K:Heap→Prop} (kk:blk h b cs) (hs:cs.size=6) (k:∀h',blk h' b (prs a1 s1 t1 a2 s2 t2)→Fr (fun i=>i=b) h h'→K h'):stoA h ⟨b,0,none⟩ (prs a1 s1 t1 a2 s2 t2).toList K:=
 stoA_i kk (by rw[hs];rfl) (one_pr a1 s1 t1 a2 s2 t2) k
theorem ints_app (a b:List Int):ints (a++b)=ints a++ints b:=by simp[ints]
theorem cat2 {h:Heap} {Sq:Heap→Prop} {sp so:Sv} {pa oa:List Int} (x:IntsAt h sp pa) (y:IntsAt h so oa) (l1:pa.length≤1000000) (l2:oa.length≤1000000) (hSq:∀h',Grow h h'→Sq h') {K:Sv→Heap→Prop}
  (k:∀s' h',Grow h h'→(∀b,s'.own b→h.size≤b∧b<h'.size)→IntsC s'.own h' s' (pa++oa)→K s' h') :
  newS 3 #[] 0 h fun s1 h1=>Sq h1∧appS 3 (Value.int .i64 0).cells 1 8 h1 s1 sp fun s2 h2=>Sq h2∧appS 3 (Value.int .i64 0).cells 1 8 h2 s2 so fun s3 h3=>K s3 h3:=by
 rintro s1 h1 rfl rfl
 have f1:Grow h (h.push (.cells #[] 3)):=Fr.push _ _ _
 have o1:Own (h.push (.cells #[] 3)) h.size 1 ⟨some ⟨h.size,0,none⟩,0,0⟩ []:=own_empty (Nat.le_refl _)
 have lx:=x.len
 have ly:=y.len
 refine⟨hSq _ f1,appS_own (news:=ints pa) rfl o1 (by rw[lx];simp[ints]) (ints_rowL (x.keep f1 fun _ _ h=>h)) (one_intsL pa) f1.size (by rw[lx];simp only[];omega) (by rw[lx];simp only[];omega) fun s2 h2 n2 o2 f2 w2=>?_⟩
 have g2:Grow h h2:=f1.trans' f2 fun i hi e=>by have:=(o1.ge e).1;omega
 refine⟨hSq _ g2,appS_own (news:=ints oa) rfl o2 (by rw[ly];simp[ints]) (ints_rowL (y.keep g2 fun _ _ h=>h)) (one_intsL oa) g2.size (by rw[n2,lx,ly];simp only[];omega) (by rw[n2,lx,ly];simp only[];omega) fun s3 h3 n3 o3 f3 w3=>?_⟩
 have g3:Grow h h3:=g2.trans' f3 fun i hi e=>by have:=(o2.ge e).1;omega
 rw[List.nil_append,←ints_app] at o3
 refine k s3 h3 g3 (fun b hb=>o3.ge hb) ⟨IntsQ.of (own_ints o3) fun b hb _=>hb,?_⟩
 rcases o3.mem with⟨_,e1,e2⟩|⟨_,_,_,_,_,e,_⟩
 ·omega
 ·exact e
theorem tail_pt {h:Heap} {b15 b17 b10:Nat} {al t1 t2:Int} {s1 s2:Sv} {pa:List Int} {c10:Array Value} (k15:blk h b15 (pvs al s1 t1)) (k17:blk h b17 (pvs al s2 t2)) (k10:blk h b10 c10) (z10:c10.size=6)
  (x1:IntsAt h s1 pa) (x2:IntsAt h s2 pa) (hl:pa.length≤1000000) {c:Bool} (hc:c=true) {f:Int} {R:Value→Heap→Prop} (k:∀h',Fr (fun b=>b=b10) h h'→R (.tuple #[.agg (prs al s1 t1 al s2 t2),.int .i64 f,.bool true]) h') :
  ∃J:Int→Bool→Heap→Prop,(
   ∃Sq:Heap→Prop,Sq h∧(
   ifb c (
    ∃(a0:Int) (a1:Sv) (a2:Int),hld Sq (⟨b15,0,none⟩:Addr) (Value.int .i64 a0)∧hld Sq ((⟨b15,0,none⟩:Addr).add 1) (Value.slice a1.a a1.n a1.c)∧hld Sq ((⟨b15,0,none⟩:Addr).add 2) (Value.int .i64 a2) ∧
    ∃(b0:Int) (b1:Sv) (b2:Int),hld Sq (⟨b17,0,none⟩:Addr) (Value.int .i64 b0)∧hld Sq ((⟨b17,0,none⟩:Addr).add 1) (Value.slice b1.a b1.n b1.c)∧hld Sq ((⟨b17,0,none⟩:Addr).add 2) (Value.int .i64 b2) ∧
    ∃(c0:Int) (c1:Sv) (c2:Int),cl h (⟨b15,0,none⟩:Addr)=some (Value.int .i64 c0)∧cl h ((⟨b15,0,none⟩:Addr).add 1)=some (Value.slice c1.a c1.n c1.c)∧cl h ((⟨b15,0,none⟩:Addr).add 2)=some (Value.int .i64 c2) ∧
    ∃(d0:Int) (d1:Sv) (d2:Int),cl h (⟨b17,0,none⟩:Addr)=some (Value.int .i64 d0)∧cl h ((⟨b17,0,none⟩:Addr).add 1)=some (Value.slice d1.a d1.n d1.c)∧cl h ((⟨b17,0,none⟩:Addr).add 2)=some (Value.int .i64 d2) ∧
    cal Try.prog 41 #[Value.agg #[Value.int .i64 c0,Value.slice c1.a c1.n c1.c,Value.int .i64 c2],Value.agg #[Value.int .i64 d0,Value.slice d1.a d1.n d1.c,Value.int .i64 d2],Value.bool false] h fun u h29=>asB u fun x94=>
    Sq h29 ∧
    stoA h29 (⟨b10,0,none⟩:Addr) [Value.int .i64 a0,Value.slice a1.a a1.n a1.c,Value.int .i64 a2,Value.int .i64 b0,Value.slice b1.a b1.n b1.c,Value.int .i64 b2] fun h30=>
    J f x94 h30) (
    ∃(a0:Int) (a1:Sv) (a2:Int),hld Sq (⟨b15,0,none⟩:Addr) (Value.int .i64 a0)∧hld Sq ((⟨b15,0,none⟩:Addr).add 1) (Value.slice a1.a a1.n a1.c)∧hld Sq ((⟨b15,0,none⟩:Addr).add 2) (Value.int .i64 a2) ∧
    ∃(b0:Int) (b1:Sv) (b2:Int),hld Sq (⟨b17,0,none⟩:Addr) (Value.int .i64 b0)∧hld Sq ((⟨b17,0,none⟩:Addr).add 1) (Value.slice b1.a b1.n b1.c)∧hld Sq ((⟨b17,0,none⟩:Addr).add 2) (Value.int .i64 b2) ∧
    stoA h (⟨b10,0,none⟩:Addr) [Value.int .i64 a0,Value.slice a1.a a1.n a1.c,Value.int .i64 a2,Value.int .i64 b0,Value.slice b1.a b1.n b1.c,Value.int .i64 b2] fun h31=>
    J f false h31)))∧(∀x11 x12 h32,J x11 x12 h32 →
   ∃(y0:Int) (y1:Sv) (y2:Int) (y3:Int) (y4:Sv) (y5:Int),cl h32 (⟨b10,0,none⟩:Addr)=some (Value.int .i64 y0)∧cl h32 ((⟨b10,0,none⟩:Addr).add 1)=some (Value.slice y1.a y1.n y1.c)∧cl h32 ((⟨b10,0,none⟩:Addr).add 2)=some (Value.int .i64 y2)∧cl h32 ((⟨b10,0,none⟩:Addr).add 3)=some (Value.int .i64 y3)∧cl h32 ((⟨b10,0,none⟩:Addr).add 4)=some (Value.slice y4.a y4.n y4.c)∧cl h32 ((⟨b10,0,none⟩:Addr).add 5)=some (Value.int .i64 y5) ∧
   R (.tuple #[Value.agg #[Value.int .i64 y0,Value.slice y1.a y1.n y1.c,Value.int .i64 y2,Value.int .i64 y3,Value.slice y4.a y4.n y4.c,Value.int .i64 y5],Value.int .i64 x11,Value.bool x12]) h32):=by
 refine⟨fun f' c' h'=>f'=f∧c'=true∧Fr (fun b=>b=b10) h h'∧blk h' b10 (prs al s1 t1 al s2 t2),⟨fun hh=>blk hh b15 (pvs al s1 t1)∧blk hh b17 (pvs al s2 t2),⟨k15,k17⟩,fun _=>?_,fun e=>by rw[hc] at e;cases e⟩,?_⟩
 ·refine rh3 (fun hh hs=>CsAt.blk hs.1) (rh3 (fun hh hs=>CsAt.blk hs.2) (rc3 (CsAt.blk k15) (rc3 (CsAt.blk k17) ?_)))
  refine cal_of (refPoint_spec x1 x2 hl) ?_
  rintro _ h3 ⟨f3,rfl⟩
  refine⟨_,rfl,⟨f3.blk k15 fun h=>h,f3.blk k17 fun h=>h⟩,stoPr (f3.blk k10 fun h=>h) z10 fun h4 k4 f4=>⟨rfl,by simp,(f3.mono fun _ _ h=>h.elim).trans f4,k4⟩⟩
 ·rintro _ _ h4 ⟨rfl,rfl,f4,k4⟩
  exact rc6 (CsAt.blk k4) (k h4 f4)
theorem tail_same {h:Heap} {b22 b24 b8 b10:Nat} {v v':Vv} {t t':Vl} {o o':Bool} {Q Q':Nat→Prop} {A A':List Nat→Nat→Prop} {a1 t1 a2 t2:Int} {s1 s2:Sv} {c10:Array Value} (k22:blk h b22 (vvs v)) (k24:blk h b24 (vvs v')) (k8:blk h b8 (prs a1 s1 t1 a2 s2 t2)) (k10:blk h b10 c10) (z10:c10.size=6)
  (hf:few t) (hv:VAt o Q h t A v) (hv':VAt o' Q' h t' A' v') (he:er t=er t') {c:Bool} (hc:c=true) {f:Int} {R:Value→Heap→Prop} (k:∀h',Fr (fun b=>b=b10) h h'→R (.tuple #[.agg (prs a1 s1 t1 a2 s2 t2),.int .i64 f,.bool true]) h') :
  ∃J:Int→Bool→Heap→Prop,(
   ∃Sq:Heap→Prop,Sq h∧(
   ifb c (
    ∃(c0:Int) (c1:Int) (c2:ByteArray) (c3:Sv) (c4:Int) (c5:Sv) (c6:Int),cl h (⟨b22,0,none⟩:Addr)=some (Value.int .i64 c0)∧cl h ((⟨b22,0,none⟩:Addr).add 1)=some (Value.int .u64 c1)∧cl h ((⟨b22,0,none⟩:Addr).add 2)=some (Value.string c2)∧cl h ((⟨b22,0,none⟩:Addr).add 3)=some (Value.slice c3.a c3.n c3.c)∧cl h ((⟨b22,0,none⟩:Addr).add 4)=some (Value.int .i64 c4)∧cl h ((⟨b22,0,none⟩:Addr).add 5)=some (Value.slice c5.a c5.n c5.c)∧cl h ((⟨b22,0,none⟩:Addr).add 6)=some (Value.int .i64 c6) ∧
    ∃(d0:Int) (d1:Int) (d2:ByteArray) (d3:Sv) (d4:Int) (d5:Sv) (d6:Int),cl h (⟨b24,0,none⟩:Addr)=some (Value.int .i64 d0)∧cl h ((⟨b24,0,none⟩:Addr).add 1)=some (Value.int .u64 d1)∧cl h ((⟨b24,0,none⟩:Addr).add 2)=some (Value.string d2)∧cl h ((⟨b24,0,none⟩:Addr).add 3)=some (Value.slice d3.a d3.n d3.c)∧cl h ((⟨b24,0,none⟩:Addr).add 4)=some (Value.int .i64 d4)∧cl h ((⟨b24,0,none⟩:Addr).add 5)=some (Value.slice d5.a d5.n d5.c)∧cl h ((⟨b24,0,none⟩:Addr).add 6)=some (Value.int .i64 d6) ∧
    ∃(a0:Int) (a1:Sv) (a2:Int) (a3:Int) (a4:Sv) (a5:Int),hld Sq (⟨b8,0,none⟩:Addr) (Value.int .i64 a0)∧hld Sq ((⟨b8,0,none⟩:Addr).add 1) (Value.slice a1.a a1.n a1.c)∧hld Sq ((⟨b8,0,none⟩:Addr).add 2) (Value.int .i64 a2)∧hld Sq ((⟨b8,0,none⟩:Addr).add 3) (Value.int .i64 a3)∧hld Sq ((⟨b8,0,none⟩:Addr).add 4) (Value.slice a4.a a4.n a4.c)∧hld Sq ((⟨b8,0,none⟩:Addr).add 5) (Value.int .i64 a5) ∧
    cal Try.prog 42 #[Value.agg #[Value.int .i64 c0,Value.int .u64 c1,Value.string c2,Value.slice c3.a c3.n c3.c,Value.int .i64 c4,Value.slice c5.a c5.n c5.c,Value.int .i64 c6],Value.agg #[Value.int .i64 d0,Value.int .u64 d1,Value.string d2,Value.slice d3.a d3.n d3.c,Value.int .i64 d4,Value.slice d5.a d5.n d5.c,Value.int .i64 d6],Value.bool false] h fun u h29=>asB u fun x94=>
    Sq h29 ∧
    stoA h29 (⟨b10,0,none⟩:Addr) [Value.int .i64 a0,Value.slice a1.a a1.n a1.c,Value.int .i64 a2,Value.int .i64 a3,Value.slice a4.a a4.n a4.c,Value.int .i64 a5] fun h30=>
    J f x94 h30) (
    ∃(a0:Int) (a1:Sv) (a2:Int) (a3:Int) (a4:Sv) (a5:Int),hld Sq (⟨b8,0,none⟩:Addr) (Value.int .i64 a0)∧hld Sq ((⟨b8,0,none⟩:Addr).add 1) (Value.slice a1.a a1.n a1.c)∧hld Sq ((⟨b8,0,none⟩:Addr).add 2) (Value.int .i64 a2)∧hld Sq ((⟨b8,0,none⟩:Addr).add 3) (Value.int .i64 a3)∧hld Sq ((⟨b8,0,none⟩:Addr).add 4) (Value.slice a4.a a4.n a4.c)∧hld Sq ((⟨b8,0,none⟩:Addr).add 5) (Value.int .i64 a5) ∧
    stoA h (⟨b10,0,none⟩:Addr) [Value.int .i64 a0,Value.slice a1.a a1.n a1.c,Value.int .i64 a2,Value.int .i64 a3,Value.slice a4.a a4.n a4.c,Value.int .i64 a5] fun h31=>
    J f false h31)))∧(∀x11 x12 h32,J x11 x12 h32 →
   ∃(y0:Int) (y1:Sv) (y2:Int) (y3:Int) (y4:Sv) (y5:Int),cl h32 (⟨b10,0,none⟩:Addr)=some (Value.int .i64 y0)∧cl h32 ((⟨b10,0,none⟩:Addr).add 1)=some (Value.slice y1.a y1.n y1.c)∧cl h32 ((⟨b10,0,none⟩:Addr).add 2)=some (Value.int .i64 y2)∧cl h32 ((⟨b10,0,none⟩:Addr).add 3)=some (Value.int .i64 y3)∧cl h32 ((⟨b10,0,none⟩:Addr).add 4)=some (Value.slice y4.a y4.n y4.c)∧cl h32 ((⟨b10,0,none⟩:Addr).add 5)=some (Value.int .i64 y5) ∧
   R (.tuple #[Value.agg #[Value.int .i64 y0,Value.slice y1.a y1.n y1.c,Value.int .i64 y2,Value.int .i64 y3,Value.slice y4.a y4.n y4.c,Value.int .i64 y5],Value.int .i64 x11,Value.bool x12]) h32):=by
 refine⟨fun f' c' h'=>f'=f∧c'=true∧Fr (fun b=>b=b10) h h'∧blk h' b10 (prs a1 s1 t1 a2 s2 t2),⟨fun hh=>blk hh b8 (prs a1 s1 t1 a2 s2 t2),k8,fun _=>?_,fun e=>by rw[hc] at e;cases e⟩,?_⟩
 ·refine rd7 (Vv7.blk k22) (rd7 (Vv7.blk k24) (rh6 (fun hh hs=>CsAt.blk hs) ?_))
  refine cal_of (refSame_spec t hf hv hv' he) ?_
  rintro _ h3 ⟨f3,rfl⟩
  refine⟨_,rfl,f3.blk k8 fun h=>h,stoPr (f3.blk k10 fun h=>h) z10 fun h4 k4 f4=>⟨rfl,rfl,(f3.mono fun _ _ h=>h.elim).trans f4,k4⟩⟩
 ·rintro _ _ h4 ⟨rfl,rfl,f4,k4⟩
  exact rc6 (CsAt.blk k4) (k h4 f4)
end Go.Proofs.Ytggacajnmgligaa
namespace Go.Proofs.Ytggacajnmgligaa
open Go Go.Lf
set_option linter.unusedVariables false
def exF {α:Type}:Except Int α→Int
 | .error f=>f
 | .ok _=>0
noncomputable def opF (X:Hs) (o:Opx) (al:Int) (pa:List Int) (tg:Int):Int:=
 if o.kind=1 then (match atS X o.a with|none=>1|some _=>0)
 else if o.kind=2 then exF (getX X al (pa++o.pa) tg false).2
 else if o.kind=3 then exF (takeX X al (pa++o.pa) tg).2
 else if o.kind=4 then (writeX (liveN X) X al (pa++o.pa) tg (valueX o al pa tg)).2
 else if o.kind=5∨o.kind=6 then exF (borrowX X al (pa++o.pa) tg (decide (o.kind=6))).2
 else if o.kind=7 then (freeS (liveN X) X o.a).2
 else if o.kind=8 then exF (peekS X al (pa++o.pa))
 else 0
def OneOk (h0:Heap) (lab:Nat→Lb) (Q:Nat→Prop) (h:Heap) (hp hr:Nat) (s:Sv) (M:Int) (k m:Nat) (v:Value) (h':Heap):Prop:=
 ∃lab' Q' s' S' X' al pa t1 t2 sp1 sp2,Wd h0 lab' Q' h' hp hr s' S' X'∧Mv lab Q h hr s lab' Q' h' s'∧Iv M (k+1) S' X'∧v=.tuple #[.agg (prs al sp1 t1 al sp2 t2),.int .i64 0,.bool true] ∧
  IntsC (fun b=>lab' b=.q∨Q' b) h' sp1 pa∧IntsC Q' h' sp2 pa∧pa.length≤m
structure Cx (lab:Nat→Lb) (Q:Nat→Prop) (h:Heap) (hr:Nat) (s:Sv) (o:Opx) (ow:Opv) (al:Int) (pa:List Int) (t1 t2:Int) (sp1 sp2:Sv) (b7 b8 b10 b13 b14:Nat) (q1 q2:Sv):Prop where
 k7:blk h b7 (opc ow).toArray
 l7:Loc lab Q h hr s b7
 op:OpAt Q h o ow
 k8:blk h b8 (prs al sp1 t1 al sp2 t2)
 l8:Loc lab Q h hr s b8
 k10:blk h b10 (prs 0 ⟨none,0,0⟩ 0 0 ⟨none,0,0⟩ 0)
 l10:Loc lab Q h hr s b10
 k13:blk h b13 (pvs al q1 t1)
 l13:Loc lab Q h hr s b13
 k14:blk h b14 (pvs al q2 t2)
 l14:Loc lab Q h hr s b14
 p1:IntsC (fun b=>lab b=.q∨Q b) h sp1 pa
 p2:IntsC Q h sp2 pa
 i1:IntsC Q h q1 (pa++o.pa)
 i2:IntsC Q h q2 (pa++o.pa)
section
variable {h0 h h' h1 h2:Heap} {lab lab' lab1 lab2:Nat→Lb} {Q Q' Q1 Q2 G:Nat→Prop} {hp hr:Nat} {s s' s1 s2:Sv} {S S' X X':Hs} {o:Opx} {ow:Opv} {al t1 t2:Int} {pa:List Int} {sp1 sp2 q1 q2:Sv} {b7 b8 b10 b13 b14:Nat}
theorem Loc.more {b:Nat} (x:Loc lab Q h hr s b) (hG:¬G b):Loc lab (fun b=>Q b∨G b) h hr s b:=⟨x.l,fun e=>e.elim x.q hG,x.r,x.o,x.z⟩
theorem Cx.mv (c:Cx lab Q h hr s o ow al pa t1 t2 sp1 sp2 b7 b8 b10 b13 b14 q1 q2) (w:Wd h0 lab Q h hp hr s S X) (m:Mv lab Q h hr s lab' Q' h' s'):Cx lab' Q' h' hr s' o ow al pa t1 t2 sp1 sp2 b7 b8 b10 b13 b14 q1 q2:=
 ⟨c.l7.blk c.k7 m,c.l7.mv m,c.op.mvQ w m,c.l8.blk c.k8 m,c.l8.mv m,c.l10.blk c.k10 m,c.l10.mv m,c.l13.blk c.k13 m,c.l13.mv m,c.l14.blk c.k14 m,c.l14.mv m,IntsC.mvP c.p1 w m,IntsC.mvQ c.p2 w m,IntsC.mvQ c.i1 w m,IntsC.mvQ c.i2 w m⟩
theorem Wd.step (w:Wd h0 lab Q h hp hr s S X) (g:Grow h h'):Wd h0 lab Q h' hp hr s S X∧Mv lab Q h hr s lab Q h' s:=⟨w.grow g,Mv.refl.grow g⟩
theorem Wd.nm (w:Wd h0 lab Q h hp hr s S X) {sp:Sv} {pa:List Int} (x:IntsC (fun b=>lab b=.q∨Q b) h sp pa):IntsC (fun b=>¬Mut (lab b)) h sp pa:=x.weak fun b hb _=>w.nomutP hb
theorem Wd.nmQ (w:Wd h0 lab Q h hp hr s S X) {sp:Sv} {pa:List Int} (x:IntsC Q h sp pa):IntsC (fun b=>¬Mut (lab b)) h sp pa:=x.weak fun b hb _=>w.nomutP (.inr hb)
theorem newOp {w:Opv} {K:Addr→Heap→Prop} (k:∀h',blk h' h.size (opc w).toArray→Grow h h'→h'.size=h.size+1→K ⟨h.size,0,none⟩ h'):new 61 (opc w).toArray h K:=by
 rintro p h' rfl rfl
 exact k _ (blk.new _ _ _) (Fr.push _ _ _) (by simp)
theorem newPr {a1 t1 a2 t2:Int} {s1 s2:Sv} {K:Addr→Heap→Prop} (k:∀h',blk h' h.size (prs a1 s1 t1 a2 s2 t2)→Grow h h'→h'.size=h.size+1→K ⟨h.size,0,none⟩ h'):new 58 (prs a1 s1 t1 a2 s2 t2) h K:=by
 rintro p h' rfl rfl
 exact k _ (blk.new _ _ _) (Fr.push _ _ _) (by simp)
theorem pr1 {b:Nat} {a1 t1 a2 t2:Int} {s1 s2:Sv} (k:blk h b (prs a1 s1 t1 a2 s2 t2)):CsAt h ⟨b,0,none⟩ [.int .i64 a1,.slice s1.a s1.n s1.c,.int .i64 t1]:=fun j u hu=>by
 rw[add_plain,k.cl]
 rcases j with _|_|_|j<;>first|exact hu|simp at hu
theorem pr2 {b:Nat} {a1 t1 a2 t2:Int} {s1 s2:Sv} (k:blk h b (prs a1 s1 t1 a2 s2 t2)):CsAt h ((⟨b,0,none⟩:Addr).add 3) [.int .i64 a2,.slice s2.a s2.n s2.c,.int .i64 t2]:=fun j u hu=>by
 rw[add_plain,add_plain,k.cl]
 rcases j with _|_|_|j<;>first|exact hu|simp at hu
theorem stoPp {b:Nat} {al tg:Int} {sp s':Sv} {K:Heap→Prop} (kk:blk h b (pvs al sp tg)) (k:∀h',blk h' b (pvs al s' tg)→Fr (fun i=>i=b) h h'→K h'):sto h ((⟨b,0,none⟩:Addr).add 1) (.slice s'.a s'.n s'.c) K:=by
 rw[add_plain]
 refine sto_i kk (by simp) (k _ ?_ (Fr.scb _ _ _ _))
 exact kk.sc 1 _
theorem stoPg {b:Nat} {al tg t:Int} {sp:Sv} {K:Heap→Prop} (kk:blk h b (pvs al sp tg)) (k:∀h',blk h' b (pvs al sp t)→Fr (fun i=>i=b) h h'→K h'):sto h ((⟨b,0,none⟩:Addr).add 2) (.int .i64 t) K:=by
 rw[add_plain]
 refine sto_i kk (by simp) (k _ ?_ (Fr.scb _ _ _ _))
 exact kk.sc 2 _
theorem exF_ok {α:Type} {e:Except Int α} (h:exF e=0) (he:∀f,e=.error f→f≠0):∃y,e=.ok y:=by
 cases e with
 | error f=>exact absurd h (he f rfl)
 | ok y=>exact⟨y,rfl⟩
theorem getV_err' {pa:List Int} {X:Hs} {al:Int} {f:Int} (h:getW X al pa=.error f):f≠0:=by
 unfold getW at h
 split at h
 ·simp at h;omega
 ·split at h
  ·rename_i g hg
   simp at h;subst h;exact getV_err _ _ _ hg
  ·split at h
   ·simp at h
   ·simp at h;omega
theorem getX_err {X:Hs} {al tg:Int} {pa:List Int} {w:Bool} {f:Int} (h:(getX X al pa tg w).2=.error f):f≠0:=by
 unfold getX at h
 split at h
 ·rename_i g hg
  simp at h;subst h;exact useX_err hg
 ·exact getV_err' h
theorem takeX_err {X:Hs} {al tg:Int} {pa:List Int} {f:Int} (h:(takeX X al pa tg).2=.error f):f≠0:=by
 unfold takeX at h
 split at h
 ·rename_i g hg
  simp at h;subst h;exact getX_err (by rw[hg])
 ·split at h
  ·simp at h;omega
  ·simp at h
theorem borrowX_err {X:Hs} {al tg:Int} {pa:List Int} {u:Bool} {f:Int} (h:(borrowX X al pa tg u).2=.error f):f≠0:=by
 unfold borrowX at h
 split at h
 ·rename_i g hg
  simp at h;subst h;exact getX_err (by rw[hg])
 ·split at h
  ·simp at h
  ·simp at h;omega
theorem peekS_err {X:Hs} {al:Int} {pa:List Int} {f:Int} (h:peekS X al pa=.error f):f≠0:=by
 unfold peekS at h
 split at h
 ·simp at h;omega
 ·exact getV_err _ _ _ h
theorem value_er (o:Opx) (al:Int) (pa:List Int) (t1 t2:Int):er (valueX o al pa t1)=er (valueX o al pa t2):=by
 unfold valueX
 split
 ·rfl
 ·split
  ·rw[er_mk,er_mk]
  ·rfl
theorem value_few {o:Opx} {al:Int} {pa:List Int} {t:Int} (hf:few o.t) (hp:pa.length≤1000000):few (valueX o al pa t):=by
 unfold valueX
 split
 ·exact few_mk.2 ⟨by simp,by simp,fun a ha=>by cases ha⟩
 ·split
  ·exact few_mk.2 ⟨by simp,hp,fun a ha=>by cases ha⟩
  ·exact hf
end
end Go.Proofs.Ytggacajnmgligaa
namespace Go.Proofs.Ytggacajnmgligaa
open Go Go.Lf
set_option linter.unusedVariables false
structure Ow (h0:Heap) (lab:Nat→Lb) (Q:Nat→Prop) (h:Heap) (hp hr:Nat) (s:Sv) (o:Opx) (ow:Opv) (al:Int) (pa:List Int) (t1 t2:Int) (sp1 sp2:Sv) (b7 b8 b10 b13 b14:Nat) (q1 q2:Sv) (lab':Nat→Lb) (Q':Nat→Prop) (h':Heap) (s':Sv) (S' X':Hs):Prop where
 w:Wd h0 lab' Q' h' hp hr s' S' X'
 m:Mv lab Q h hr s lab' Q' h' s'
 c:Cx lab' Q' h' hr s' o ow al pa t1 t2 sp1 sp2 b7 b8 b10 b13 b14 q1 q2
 z:h.size≤b10
 hz:h0.size≤h.size
section
variable {h0 h h' h2:Heap} {lab lab' lab2:Nat→Lb} {Q Q' Q2:Nat→Prop} {hp hr:Nat} {s s' s2:Sv} {S S' S2 X X' X2:Hs} {o:Opx} {ow:Opv} {al t1 t2:Int} {pa:List Int} {sp1 sp2 q1 q2:Sv} {b7 b8 b10 b13 b14:Nat}
theorem Ow.grow (x:Ow h0 lab Q h hp hr s o ow al pa t1 t2 sp1 sp2 b7 b8 b10 b13 b14 q1 q2 lab' Q' h' s' S' X') (g:Grow h' h2):Ow h0 lab Q h hp hr s o ow al pa t1 t2 sp1 sp2 b7 b8 b10 b13 b14 q1 q2 lab' Q' h2 s' S' X':=by
 obtain⟨w,m⟩:=x.w.step g
 exact⟨w,x.m.trans m,x.c.mv x.w m,x.z,x.hz⟩
theorem Ow.prog (x:Ow h0 lab Q h hp hr s o ow al pa t1 t2 sp1 sp2 b7 b8 b10 b13 b14 q1 q2 lab' Q' h' s' S' X') (t:Stp lab' h' lab2 h2) (y:Ses h0 lab2 h2 hp S2):Ow h0 lab Q h hp hr s o ow al pa t1 t2 sp1 sp2 b7 b8 b10 b13 b14 q1 q2 lab2 Q' h2 s' S2 X':=by
 obtain⟨w,m⟩:=x.w.prog t y
 exact⟨w,x.m.trans m,x.c.mv x.w m,x.z,x.hz⟩
theorem Ow.doc (x:Ow h0 lab Q h hp hr s o ow al pa t1 t2 sp1 sp2 b7 b8 b10 b13 b14 q1 q2 lab' Q' h' s' S' X') (f:Fr (fun b=>b=hr∨s'.own b) h' h2) (hq:∀b,Q' b→Q2 b) (hn:∀b,Q2 b→Q' b∨(h'.size≤b∧b<h2.size)) (how:∀b,s2.own b→s'.own b∨h'.size≤b) (hx:∃rs',RAt Q2 h2 hr X2 s2 rs') :
  Ow h0 lab Q h hp hr s o ow al pa t1 t2 sp1 sp2 b7 b8 b10 b13 b14 q1 q2 lab' Q2 h2 s2 S' X2:=by
 obtain⟨w,m⟩:=x.w.doc f hq hn how hx
 exact⟨w,x.m.trans m,x.c.mv x.w m,x.z,x.hz⟩
theorem Ow.docN (x:Ow h0 lab Q h hp hr s o ow al pa t1 t2 sp1 sp2 b7 b8 b10 b13 b14 q1 q2 lab' Q' h' s' S' X') (f:Fr (fun b=>b=hr∨s'.own b) h' h2) (z:RNx Q' h' hr s' Q2 h2 X2) :
  Ow h0 lab Q h hp hr s o ow al pa t1 t2 sp1 sp2 b7 b8 b10 b13 b14 q1 q2 lab' Q2 h2 s' S' X2:=x.doc f z.1 z.2.1 (fun _ h=>.inl h) z.2.2
theorem Ow.docO (x:Ow h0 lab Q h hp hr s o ow al pa t1 t2 sp1 sp2 b7 b8 b10 b13 b14 q1 q2 lab' Q' h' s' S' X') (f:Fr s'.own h' h2) (z:RNx Q' h' hr s' Q2 h2 X2) :
  Ow h0 lab Q h hp hr s o ow al pa t1 t2 sp1 sp2 b7 b8 b10 b13 b14 q1 q2 lab' Q2 h2 s' S' X2:=x.docN (f.mono fun _ _ h=>.inr h) z
theorem Ow.more (x:Ow h0 lab Q h hp hr s o ow al pa t1 t2 sp1 sp2 b7 b8 b10 b13 b14 q1 q2 lab' Q' h' s' S' X') {G:Nat→Prop} {n:Nat} (hG:∀b,G b→lab' b=.no∧b<h'.size∧n≤b) (hn:h.size≤n∧b7<n∧b8<n∧b10<n∧b13<n∧b14<n∧hr<n∧∀b,s'.own b→b<n) :
  Ow h0 lab Q h hp hr s o ow al pa t1 t2 sp1 sp2 b7 b8 b10 b13 b14 q1 q2 lab' (fun b=>Q' b∨G b) h' s' S' X':=by
 obtain⟨w,m,⟨c1,c2,c3,c4,c5,c6,c7,c8,c9,c10,c11,c12,c13,c14,c15⟩,z,hz⟩:=x
 obtain⟨n1,n2,n3,n4,n5,n6,n7,n8⟩:=hn
 have ng:∀b,b<n→¬G b:=fun b hb e=>by have:=hG b e;omega
 refine⟨w.more fun b hb=>⟨(hG b hb).1,(hG b hb).2.1,fun e=>ng b (by omega) hb,fun e=>ng b (n8 b e) hb⟩,m.more fun b hb=>by have:=hG b hb;omega,?_,z,hz⟩
 exact⟨c1,c2.more (ng _ n2),c3.weak fun b hb _=>.inl hb,c4,c5.more (ng _ n3),c6,c7.more (ng _ n4),c8,c9.more (ng _ n5),c10,c11.more (ng _ n6),c12.weak fun b hb _=>hb.imp id .inl,c13.weak fun b hb _=>.inl hb,c14.weak fun b hb _=>.inl hb,c15.weak fun b hb _=>.inl hb⟩
theorem Ow.c7 (x:Ow h0 lab Q h hp hr s o ow al pa t1 t2 sp1 sp2 b7 b8 b10 b13 b14 q1 q2 lab' Q' h' s' S' X'):CsAt h' ⟨b7,0,none⟩ (opc ow):=by simpa using CsAt.blk x.c.k7
theorem Ow.fin (x:Ow h0 lab Q h hp hr s o ow al pa t1 t2 sp1 sp2 b7 b8 b10 b13 b14 q1 q2 lab' Q' h' s' S' X') {M:Int} {k m:Nat} (iv:Iv M (k+1) S' X') {a g1 g2:Int} {u1 u2:Sv} {pb:List Int} (p1:IntsC (fun b=>lab' b=.q∨Q' b) h' u1 pb) (p2:IntsC Q' h' u2 pb) (l:pb.length≤m)
  (f:Fr (fun b=>b=b10) h' h2):OneOk h0 lab Q h hp hr s M k m (.tuple #[.agg (prs a u1 g1 a u2 g2),.int .i64 0,.bool true]) h2:=by
 have l10:=x.c.l10
 have z:=x.z
 have hz:=x.hz
 refine⟨lab',Q',s',S',X',a,pb,g1,g2,u1,u2,x.w.fr f fun b hb=>?_,x.m.loc f fun b hb=>by omega,iv,rfl,p1.fr f fun b hb e=>?_,p2.fr f fun b hb e=>?_,l⟩
 ·subst hb
  exact⟨l10.l,by omega,l10.r,l10.o,l10.q⟩
 ·subst e
  rcases hb with h|h
  ·rw[l10.l] at h;cases h
  ·exact l10.q h
 ·subst e;exact l10.q hb
theorem Ow.finP (x:Ow h0 lab Q h hp hr s o ow al pa t1 t2 sp1 sp2 b7 b8 b10 b13 b14 q1 q2 lab' Q' h' s' S' X') {M:Int} {k m:Nat} (iv:Iv M (k+1) S' X') (l:pa.length≤m)
  (f:Fr (fun b=>b=b10) h' h2):OneOk h0 lab Q h hp hr s M k m (.tuple #[.agg (prs al sp1 t1 al sp2 t2),.int .i64 0,.bool true]) h2:=x.fin iv x.c.p1 x.c.p2 l f
theorem Ow.fewX (x:Ow h0 lab Q h hp hr s o ow al pa t1 t2 sp1 sp2 b7 b8 b10 b13 b14 q1 q2 lab' Q' h' s' S' X') {b:Nat} (hb:Q' b):b<h'.size:=(x.w.q b hb).2
end
theorem few_er:∀ {t u:Vl},er t=er u→few u→few t:=by
 intro t
 induction t using Vl.ind with
 | H k n nm ts al pa tg ih=>
  intro u h hu
  obtain⟨k',n',nm',ts',al',pa',tg'⟩:=u
  obtain⟨rfl,rfl,rfl,hts,rfl,rfl⟩:=er_iff.1 h
  obtain⟨hl,hel⟩:=map_el hts
  obtain⟨q1,q2,q3⟩:=few_mk.1 hu
  refine few_mk.2 ⟨by omega,q2,fun a ha=>?_⟩
  obtain⟨i,hi,rfl⟩:=List.getElem_of_mem ha
  exact ih _ ha (hel i hi (by omega)) (q3 _ (List.getElem_mem _))
theorem pair_eta {α β:Type} {p:α×β} {b:β} (h:p.2=b):p=(p.1,b):=by rw[←h]
theorem one_spec {h0 h:Heap} {lab:Nat→Lb} {Q:Nat→Prop} {hp hr:Nat} {s:Sv} {S X:Hs} {M:Int} {k:Nat} (w:Wd h0 lab Q h hp hr s S X) (iv:Iv M k S X) (hk:k≤100) {o:Opx} {ow:Opv} (op:OpAt Q h o ow) (of:few o.t) (ol:o.pa.length≤4)
  {al t1 t2:Int} {sp1 sp2:Sv} {pa:List Int} (p1:IntsC (fun b=>lab b=.q∨Q b) h sp1 pa) (p2:IntsC Q h sp2 pa) (pl:pa.length≤1000) (hF:opF X o al pa t2=0) :
  CallsH Try.prog 21 #[ptr hp,ptr hr,.agg (opc ow).toArray,.agg (prs al sp1 t1 al sp2 t2),.bool false] h (fun v h'=>OneOk h0 lab Q h hp hr s M k (pa.length+4) v h'):=by
 have hz:=w.h0s
 apply F21
 unfold L21
 refine newOp (w:=ow) fun h1 k7 f1 z1=>newPr (a1:=al) (s1:=sp1) (t1:=t1) (a2:=al) (s2:=sp2) (t2:=t2) fun h2 k8 f2 z2=>newPr (a1:=0) (s1:=⟨none,0,0⟩) (t1:=0) (a2:=0) (s2:=⟨none,0,0⟩) (t2:=0) fun h3 k10 f3 z3=>?_
 have K7:=(f2.trans f3).blk k7 fun h=>h
 have K8:=f3.blk k8 fun h=>h
 have g3:=(f1.trans f2).trans f3
 refine⟨fun a b hh=>∃b13 b14,a=⟨b13,0,none⟩∧b=⟨b14,0,none⟩∧h3.size≤b13∧h3.size≤b14∧b13≠b14∧blk hh b13 (pvs al sp1 t1)∧blk hh b14 (pvs al sp2 t2)∧Grow h3 hh,⟨fun hh=>blk hh h1.size (prs al sp1 t1 al sp2 t2),K8,rh3 (fun hh hs=>pr1 hs) (rh3 (fun hh hs=>pr2 hs) ⟨?_,?_⟩)⟩,?_⟩
 ·refine newPt (al:=0) (sp:=⟨none,0,0⟩) (tg:=0) fun h4 k4 f4 z4=>⟨f4.blk K8 fun h=>h,newPt (al:=0) (sp:=⟨none,0,0⟩) (tg:=0) fun h5 k5 f5 z5=>?_⟩
  have g5:=f4.trans f5
  refine⟨g5.blk K8 fun h=>h,stoPt (f5.blk k4 fun h=>h) rfl fun h6 k6 f6=>?_⟩
  have g6:Grow h3 h6:=g5.trans' f6 fun i hi e=>by omega
  refine⟨g6.blk K8 fun h=>h,stoPt (f6.blk k5 (by omega)) rfl fun h7 k7' f7=>?_⟩
  exact⟨h3.size,h4.size,rfl,rfl,Nat.le_refl _,by omega,by omega,f7.blk k6 (by omega),k7',g6.trans' f7 fun i hi e=>by omega⟩
 ·refine newPt (al:=0) (sp:=⟨none,0,0⟩) (tg:=0) fun h4 k4 f4 z4=>⟨f4.blk K8 fun h=>h,newPt (al:=0) (sp:=⟨none,0,0⟩) (tg:=0) fun h5 k5 f5 z5=>?_⟩
  have g5:=f4.trans f5
  refine⟨g5.blk K8 fun h=>h,stoPt k5 rfl fun h6 k6 f6=>?_⟩
  have g6:Grow h3 h6:=g5.trans' f6 fun i hi e=>by omega
  refine⟨g6.blk K8 fun h=>h,stoPt (f6.blk (f5.blk k4 fun h=>h) (by omega)) rfl fun h7 k7' f7=>?_⟩
  exact⟨h4.size,h3.size,rfl,rfl,by omega,Nat.le_refl _,by omega,f7.blk k6 (by omega),k7',g6.trans' f7 fun i hi e=>by omega⟩
 rintro a13 a14 h12 ⟨b13,b14,rfl,rfl,e13,e14,ene,k13,k14,f12⟩
 have G12:=g3.trans f12
 have z12:=f12.size
 have z3':=g3.size
 have K7':=f12.blk K7 fun h=>h
 have P1:IntsAt h12 sp1 pa:=(p1.fr G12 fun _ _ h=>h).ints
 have OP:IntsAt h12 ow.ps o.pa:=(op.pa.fr G12 fun _ _ h=>h).ints
 refine⟨fun hh=>blk hh h.size (opc ow).toArray,K7',ldS_i (s:=sp1) (by rw[add_plain,k13.cl];rfl) ⟨ow.ps,fun hh hs=>by rw[add_plain,hs.cl];rfl,cat2 P1 OP (by omega) (by omega) (fun hh g=>g.blk K7' fun h=>h) fun q1 h15 f15 w15 i15=>stoPp (f15.blk k13 fun h=>h) fun h16 k16 f16=>?_⟩⟩
 have G16:Grow h h16:=(G12.trans f15).trans' f16 fun i hi e=>by omega
 have g16:Fr (fun b=>b=b13) h12 h16:=(f15.mono fun _ _ h=>h.elim).trans f16
 have z15:=f15.size
 have z16:=f16.size
 have k13z:=k13.lt
 have k14z:=k14.lt
 have K7'':=f16.blk (f15.blk K7' fun h=>h) (by omega)
 have P2:IntsAt h16 sp2 pa:=(p2.fr G16 fun _ _ h=>h).ints
 have OP2:IntsAt h16 ow.ps o.pa:=(op.pa.fr G16 fun _ _ h=>h).ints
 have k14':=g16.blk k14 (by omega)
 refine⟨fun hh=>blk hh h.size (opc ow).toArray,K7'',ldS_i (s:=sp2) (by rw[add_plain,k14'.cl];rfl) ⟨ow.ps,fun hh hs=>by rw[add_plain,hs.cl];rfl,cat2 P2 OP2 (by omega) (by omega) (fun hh g=>g.blk K7'' fun h=>h) fun q2 h19 f19 w19 i19=>stoPp (f19.blk k14' fun h=>h) fun h20 k20 f20=>?_⟩⟩
 have G20:Grow h h20:=(G16.trans f19).trans' f20 fun i hi e=>by omega
 have z19:=f19.size
 have z20:=f20.size
 have gx:Fr (fun b=>b=b13∨b=b14) h12 h20:=(g16.mono fun _ _ h=>.inl h).trans ((f19.mono fun _ _ h=>h.elim).trans (f20.mono fun _ _ h=>.inr h))
 have Y0:Ow h0 lab Q h hp hr s o ow al pa t1 t2 sp1 sp2 h.size h1.size h2.size b13 b14 q1 q2 lab (fun b=>(Q b∨q1.own b)∨q2.own b) h20 s S X:=by
  have n1:∀b,q1.own b→h.size≤b∧b<h15.size∧h12.size≤b:=fun b hb=>by have:=w15 b hb;omega
  have n2:∀b,q2.own b→h.size≤b∧b<h19.size∧h16.size≤b:=fun b hb=>by have:=w19 b hb;omega
  have lc:∀b,h.size≤b→b<h12.size→Loc lab (fun b=>(Q b∨q1.own b)∨q2.own b) h20 hr s b:=fun b hb hz=>((Loc.new w hb (by omega)).more fun e=>by have:=n1 b e;omega).more fun e=>by have:=n2 b e;omega
  have nl:∀b,h.size≤b→b<h20.size→lab b=.no∧b<h20.size∧b≠hr∧¬s.own b:=fun b hb hz=>by
   have l:=Loc.new (h':=h20) w hb hz
   exact⟨l.l,hz,l.r,l.o⟩
  have W:=((w.grow G20).more (G:=q1.own) fun b hb=>nl b (n1 b hb).1 (by have:=n1 b hb;omega)).more (G:=q2.own) fun b hb=>nl b (n2 b hb).1 (by have:=n2 b hb;omega)
  have M:Mv lab Q h hr s lab (fun b=>(Q b∨q1.own b)∨q2.own b) h20 s:=((Mv.refl.grow G20).more fun b hb=>(n1 b hb).1).more fun b hb=>(n2 b hb).1
  refine⟨W,M,⟨gx.blk K7' (by omega),lc _ (by omega) (by omega),op.mvQ w M,gx.blk (f12.blk K8 fun h=>h) (by omega),lc _ (by omega) (by omega),gx.blk (f12.blk k10 fun h=>h) (by omega),lc _ (by omega) (by omega),f20.blk (f19.blk k16 fun h=>h) (by omega),lc _ (by omega) (by omega),k20,lc _ (by omega) (by omega),IntsC.mvP p1 w M,IntsC.mvQ p2 w M,?_,?_⟩,by omega,hz⟩
  ·refine ((i15.fr f16 fun b hb e=>?_).fr f19 fun _ _ h=>h).fr f20 (fun b hb e=>?_) |>.weak fun b hb _=>.inl (.inr hb)
   ·have:=n1 b hb;omega
   ·have:=n1 b hb;omega
  ·exact (i19.fr f20 fun b hb e=>by have:=n2 b hb;omega).weak fun b hb _=>.inr hb
 clear f12 f15 f16 f19 f20 gx k13 k14 k14' k16 k20 i15 i19 w15 w19 K7 K8 K7' K7'' P1 P2 OP OP2 G12 G16 G20 g3 g16 k7 k8 k10 f1 f2 f3 ene
 have hfX:=iv.fewX (by omega)
 have hfS:=iv.few (by omega)
 have hll:=iv.xi.ll
 have ht0:=iv.xi.t0
 have ht1:=iv.xi.t1
 have hsm:=iv.sm
 have pl':(pa++o.pa).length≤1000000:=by simp;omega
 have ek:=Y0.c.op.k
 have ea:=Y0.c.op.a
 generalize (fun b=>(Q b∨q1.own b)∨q2.own b)=Q0 at Y0
 refine ldI_i (x:=ow.kind) Y0.c7.at0 ?_
 refine ifb_iff (q:=o.kind=0) (by rw[←ek];simp) (fun e0=>?_) (fun n0=>?_)
 ·
  refine rc12 Y0.c7 (rc3 (pr1 Y0.c.k8) (cal_of (lawValue_spec (Q:=fun b=>lab b=.q∨Q0 b) (Y0.c.op.weak fun b hb _=>.inr hb) (fun b hb=>Y0.w.ltP hb) Y0.c.p1) ?_))
  rintro _ h21 ⟨f21,u,rfl,hu⟩
  have Y1:=Y0.grow f21
  refine⟨_,_,_,u.ps,_,u.pa,_,rfl,cal_of (alloc_ses Y1.w.ses hfS (hu.weak (fun b hb _=>Y1.w.nomutP hb) (fun h=>h) fun _ b hb _=>Y1.w.nomutP hb) (value_few of (by omega))) ?_⟩
  rintro _ h22 ⟨lab',St,hm⟩
  have hcc:S.live≥S.most↔X.most≤(liveN X:Int):=by rw[iv.sm.live,iv.sm.most,iv.xi.lv]
  by_cases hc:S.live≥S.most
  ·rw[if_pos hc] at hm
   obtain⟨hses,rfl⟩:=hm
   have Y2:=Y1.prog St hses
   refine⟨0,⟨none,0,0⟩,0,false,rfl,minePt fun h24 k24 f24=>?_⟩
   have Y3:=Y2.grow f24
   refine rc12 Y3.c7 (rc3 (pr2 Y3.c.k8) (cal_of (lawValue_spec Y3.c.op (fun b hb=>(Y3.w.q b hb).2) Y3.c.p2) ?_))
   rintro _ h25 ⟨f25,u',rfl,hu'⟩
   have Y4:=Y3.grow f25
   obtain⟨rs,x4⟩:=Y4.w.rat
   refine⟨_,_,_,u'.ps,_,u'.pa,_,rfl,cal_of (refAlloc_spec x4 (fun b hb=>(Y4.w.q b hb).2) iv.xi.w (by omega) ht0 (by omega) hu') ?_⟩
   rintro _ h26 hm
   rw[if_pos (hcc.1 hc)] at hm
   obtain⟨f26,hx,rfl⟩:=hm
   have Y5:=Y4.grow f26
   refine⟨0,⟨none,0,0⟩,0,false,rfl,minePt fun h28 k28 f28=>?_⟩
   have Y6:=Y5.grow f28
   refine tail_pt (pa:=[]) (((f25.trans f26).trans f28).blk k24 fun h=>h) k28 Y6.c.k10 rfl (IntsC.nil (fun _=>True) _).ints (IntsC.nil (fun _=>True) _).ints (by simp) (by decide) fun h' f'=>?_
   exact Y6.fin (pb:=[]) iv.up (IntsC.nil _ _) (IntsC.nil _ _) (by simp) f'
  ·rw[if_neg hc,hsm.len] at hm
   obtain⟨hses,rfl⟩:=hm
   have Y2:=Y1.prog St hses
   refine⟨_,⟨none,0,0⟩,_,true,rfl,minePt fun h24 k24 f24=>?_⟩
   have Y3:=Y2.grow f24
   refine rc12 Y3.c7 (rc3 (pr2 Y3.c.k8) (cal_of (lawValue_spec Y3.c.op (fun b hb=>(Y3.w.q b hb).2) Y3.c.p2) ?_))
   rintro _ h25 ⟨f25,u',rfl,hu'⟩
   have Y4:=Y3.grow f25
   obtain⟨rs,x4⟩:=Y4.w.rat
   refine⟨_,_,_,u'.ps,_,u'.pa,_,rfl,cal_of (refAlloc_spec x4 (fun b hb=>(Y4.w.q b hb).2) iv.xi.w (by omega) ht0 (by omega) hu') ?_⟩
   rintro _ h26 hm
   rw[if_neg fun e=>hc (hcc.2 e)] at hm
   obtain⟨Q5,s5,⟨F5,a5,b5,c5,d5⟩,rfl⟩:=hm
   have Y5:=Y4.doc F5 a5 b5 c5 d5
   have K24:=F5.blk (f25.blk k24 fun h=>h) fun e=>by
    rcases e with e|e
    ·have:=Y2.w.hrs;omega
    ·have:=Y2.w.owns e;omega
   refine⟨_,⟨none,0,0⟩,_,true,rfl,minePt fun h28 k28 f28=>?_⟩
   have Y6:=Y5.grow f28
   refine tail_pt (pa:=[]) (f28.blk K24 fun h=>h) k28 Y6.c.k10 rfl (IntsC.nil (fun _=>True) _).ints (IntsC.nil (fun _=>True) _).ints (by simp) (by decide) fun h' f'=>?_
   exact Y6.fin (pb:=[]) ⟨alloc_sm hsm (value_er _ _ _ _ _),iv.si.alloc,iv.xi.alloc (value_few of (by omega))⟩ (IntsC.nil _ _) (IntsC.nil _ _) (by simp) f'
 unfold opF at hF
 refine ifb_iff (q:=o.kind=1) (by rw[←ek];simp) (fun e1=>?_) (fun n1=>?_)
 ·
  rw[if_pos e1] at hF
  rcases hsm.at_ o.a with⟨_,e⟩|⟨a,b,ea',eb,hv,h0',hi1,hi2⟩
  ·rw[e] at hF;simp at hF
  refine ldI_i (x:=o.a) (by rw[←ea];exact Y0.c7 1 _ rfl) (cal_of (base_ses Y0.w.ses iv.si.w o.a) ?_)
  rw[ea']
  rintro _ h33 ⟨f33,rfl⟩
  refine⟨o.a,⟨none,0,0⟩,0,0,rfl,minePt fun h35 k35 f35=>?_⟩
  have Y1:=Y0.grow (f33.trans f35)
  obtain⟨rs,x1⟩:=Y1.w.rat
  obtain⟨j,ej,hj,erow,hlive⟩:=atS_some eb
  obtain⟨p,ep,h2',c⟩:=x1.row hj
  have hsc:cl h35 ⟨hr,0,none⟩=some (.slice s.a s.n s.c):=by rw[x1.hd.cl];rfl
  have xn:=x1.n
  have A1:cl h35 ((⟨h.size,0,none⟩:Addr).add 1)=some (.int .i64 o.a):=by rw[←ea];exact Y1.c7 1 _ rfl
  refine⟨fun c=>c=false,ldI_i A1 (ifb_iff (q:=o.a<0) (by simp) (fun e=>by omega) fun _=>⟨_,rfl,ldS_i hsc (ldI_i A1 (ifb_iff (q:=(s.n:Int)≤o.a) (by simp) (fun e=>by omega) fun _=>⟨_,rfl,ldS_i hsc (ldI_i A1 ⟨p,ep,h0',by omega,rs[j].live,?_,?_⟩)⟩))⟩),?_⟩
  ·rw[ej,Int.toNat_natCast];exact c.at0
  ·show (!rs[j].live)=false
   rw[(x1.el j hj h2').1,erow,hlive];rfl
  rintro _ rfl
  refine⟨fun e=>(by cases e),fun _=>ldI_i A1 (minePt (al:=o.a) (sp:=⟨none,0,0⟩) (tg:=0) fun h41 k41 f41=>?_)⟩
  have Y2:=Y1.grow f41
  obtain⟨rs2,x2⟩:=Y2.w.rat
  obtain⟨p2',ep2,h2'',c2⟩:=x2.row hj
  have hsc2:cl h41 ⟨hr,0,none⟩=some (.slice s.a s.n s.c):=by rw[x2.hd.cl];rfl
  have A2:cl h41 ((⟨h.size,0,none⟩:Addr).add 1)=some (.int .i64 o.a):=by rw[←ea];exact Y2.c7 1 _ rfl
  have hst:=(iv.xi.row _ (List.getElem_mem hj)).2.2.2 (by rw[erow];exact hlive)
  have hst0:0<X.l[j].st.length:=List.length_pos_iff.2 hst
  have sk:=(x2.el j hj h2'').2.2
  obtain⟨p3,ep3,qq3,hi3,u3,c3',cc3⟩:=sk.rows.at_ 0 hst0
  have skn:=sk.rows.len
  refine⟨fun hh=>∃tg,blk hh h35.size (pvs o.a ⟨none,0,0⟩ tg)∧Fr (fun b=>b=h35.size) h41 hh,⟨_,rfl,ldB_i (x:=true) (by rw[add_plain,x2.hd.cl];rfl) ⟨fun _=>⟨_,rfl,ldS_i hsc2 (ldI_i A2 ⟨p2',ep2,h0',by omega,ldS_i (s:=rs2[j].t) (by rw[ej,Int.toNat_natCast];exact c2 8 _ rfl) ⟨p3,ep3,by omega,by omega,ldI_i (by simpa [add_zero] using c3'.at0) (stoPg k41 fun h42 k42 f42=>⟨_,k42,f42⟩)⟩⟩)⟩,fun e=>by cases e⟩⟩,?_⟩
  rintro h43 ⟨tg,k43,f43⟩
  have G43:Grow h35 h43:=f41.trans' f43 fun i hi e=>by omega
  have Y3:=Y1.grow G43
  refine tail_pt (pa:=[]) (G43.blk k35 fun h=>h) k43 Y3.c.k10 rfl (IntsC.nil (fun _=>True) _).ints (IntsC.nil (fun _=>True) _).ints (by simp) (by decide) fun h' f'=>?_
  exact Y3.fin (pb:=[]) iv.up (IntsC.nil _ _) (IntsC.nil _ _) (by simp) f'
 rw[if_neg n1] at hF
 refine ifb_iff (q:=o.kind=2) (by rw[←ek];simp) (fun e2=>?_) (fun n2=>?_)
 ·
  rw[if_pos e2] at hF
  obtain⟨z,hz'⟩:=exF_ok hF fun f hf=>getX_err hf
  obtain⟨m1,-,-,y,ey,her,-⟩:=get_sm (tg':=t1) hsm iv.si.w (pair_eta hz')
  obtain⟨xi',fz⟩:=iv.xi.get (pair_eta hz')
  refine rdPt Y0.c.k13 (cal_of (read_ses Y0.w.ses hfS (Y0.w.nmQ Y0.c.i1) pl') ?_)
  rintro v h48 ⟨St,hs,hm⟩
  rw[ey] at hs hm
  obtain⟨u,rfl,hu⟩:=hm
  refine⟨_,_,_,u.ps,_,u.pa,_,_,rfl,mineV fun h50 k50 f50=>?_⟩
  have Y1:=Y0.prog St hs
  have Y2:=Y1.grow f50
  obtain⟨rs,x2⟩:=Y2.w.rat
  refine rdPt Y2.c.k14 (cal_of (refRead_spec x2 hfX (fun b hb=>(Y2.w.q b hb).2) Y2.c.i2 pl') ?_)
  rintro v h51 ⟨f51,Q',nx,hm⟩
  rw[hz'] at hm
  obtain⟨u',rfl,hu'⟩:=hm
  refine⟨_,_,_,u'.ps,_,u'.pa,_,_,rfl,mineV fun h53 k53 f53=>?_⟩
  have Y4:=(Y2.docO f51 nx).grow f53
  have K50:=f53.blk (f51.blk k50 fun e=>by have:=Y1.w.owns e;omega) fun h=>h
  have nt:∀b,Till lab h20.size b→¬s.own b:=fun b hb e=>by
   rcases hb with hb|hb
   ·rw[(Y2.w.own b e).1] at hb;cases hb
   ·have:=Y0.w.owns e;omega
  have hu2:=VAt.grow ((VAt.grow hu f50).fr f51 nt fun _ b hb=>nt b hb) f53
  refine tail_same K50 k53 Y4.c.k8 Y4.c.k10 rfl (few_er her fz) hu2 (VAt.grow hu' f53) her (by decide) fun h' f'=>?_
  exact Y4.finP ⟨m1,iv.si.up,xi'.up⟩ (by omega) f'
 rw[if_neg n2] at hF
 refine ifb_iff (q:=o.kind=3) (by rw[←ek];simp) (fun e3=>?_) (fun n3=>?_)
 ·
  rw[if_pos e3] at hF
  obtain⟨z,hz'⟩:=exF_ok hF fun f hf=>takeX_err hf
  obtain⟨S1,y,ey,her,m1,-,-⟩:=take_sm (tg':=t1) hsm iv.si.w (pair_eta hz')
  obtain⟨xi',fz⟩:=iv.xi.take (pair_eta hz')
  have si':=iv.si.take (al:=al) (tg:=t1) (pa:=pa++o.pa)
  rw[ey] at si'
  refine rdPt Y0.c.k13 (cal_of (take_ses Y0.w.ses hfS (Y0.w.nmQ Y0.c.i1) pl') ?_)
  rintro v h48 ⟨lab',St,hs,hm⟩
  rw[ey] at hs hm
  obtain⟨u,rfl,hu⟩:=hm
  refine⟨_,_,_,u.ps,_,u.pa,_,_,rfl,mineV fun h50 k50 f50=>?_⟩
  have Y1:=Y0.prog St hs
  have Y2:=Y1.grow f50
  obtain⟨rs,x2⟩:=Y2.w.rat
  refine rdPt Y2.c.k14 (cal_of (refTake_spec x2 hfX (fun b hb=>(Y2.w.q b hb).2) Y2.c.i2 pl') ?_)
  rintro v h51 ⟨f51,Q',nx,hm⟩
  rw[hz'] at hm
  obtain⟨u',rfl,hu'⟩:=hm
  refine⟨_,_,_,u'.ps,_,u'.pa,_,_,rfl,mineV fun h53 k53 f53=>?_⟩
  have Y4:=(Y2.docO f51 nx).grow f53
  have K50:=f53.blk (f51.blk k50 fun e=>by have:=Y1.w.owns e;omega) fun h=>h
  have nt:∀b,lab' b=.q→¬s.own b:=fun b hb e=>by
   rw[(Y2.w.own b e).1] at hb;cases hb
  have hu2:=VAt.grow ((VAt.grow hu f50).fr f51 nt fun _ b hb=>nt b hb) f53
  refine tail_same K50 k53 Y4.c.k8 Y4.c.k10 rfl (few_er her fz) hu2 (VAt.grow hu' f53) her (by decide) fun h' f'=>?_
  exact Y4.finP ⟨m1,si'.up,xi'.up⟩ (by omega) f'
 rw[if_neg n3] at hF
 refine ifb_iff (q:=o.kind=4) (by rw[←ek];simp) (fun e4=>?_) (fun n4=>?_)
 ·
  rw[if_pos e4] at hF
  obtain⟨w1,w2⟩:=write_sm (n:=liveN X) (S:=S) (tg':=t1) hsm iv.si.w (value_er o al pa t1 t2) hF
  have xi':=iv.xi.write (n:=liveN X) (al:=al) (tg:=t2) (pa:=pa++o.pa) (value_few (al:=al) (pa:=pa) (t:=t2) of (by omega))
  have si':=iv.si.write (n:=liveN X) (al:=al) (tg:=t1) (pa:=pa++o.pa) (t:=valueX o al pa t1)
  refine⟨fun hh=>blk hh h.size (opc ow).toArray∧blk hh h1.size (prs al sp1 t1 al sp2 t2)∧blk hh b13 (pvs al q1 t1)∧blk hh b14 (pvs al q2 t2),⟨Y0.c.k7,Y0.c.k8,Y0.c.k13,Y0.c.k14⟩,rc12 Y0.c7 (rc3 (pr1 Y0.c.k8) (rh3 (fun hh hs=>CsAt.blk hs.2.2.1) (rh3 (fun hh hs=>CsAt.blk hs.2.2.2) (rh12 (fun hh hs=>(by simpa using CsAt.blk hs.1:CsAt hh ⟨h.size,0,none⟩ (opc ow))) (rh3 (fun hh hs=>pr2 hs.2.1) ?_)))))⟩
  refine cal_of (lawValue_spec (Q:=fun b=>lab b=.q∨Q0 b) (Y0.c.op.weak fun b hb _=>.inr hb) (fun b hb=>Y0.w.ltP hb) Y0.c.p1) ?_
  rintro _ h68 ⟨f68,u,rfl,hu⟩
  have Y1:=Y0.grow f68
  refine⟨_,_,_,u.ps,_,u.pa,_,rfl,⟨Y1.c.k7,Y1.c.k8,Y1.c.k13,Y1.c.k14⟩,cal_of (write_ses Y1.w.ses hfS (Y1.w.nmQ Y1.c.i1) pl' (hu.weak (fun b hb _=>Y1.w.nomutP hb) (fun h=>h) fun _ b hb _=>Y1.w.nomutP hb) (value_few of (by omega)) (n:=liveN X) fun S1 a hu1 ha1=>?_) ?_⟩
  ·have e1:S1=S:=by
    unfold useS at hu1
    split at hu1
    ·cases hu1
    ·rw[if_pos iv.si.w] at hu1
     simp at hu1;exact hu1.symm
   subst e1
   obtain⟨j,ej,hj,erow,hlive⟩:=atS_some ha1
   have e2:liveN { S1 with l:=S1.l.set al.toNat { a with v:=putV a.v (natsOf (pa++o.pa)) (valueX o al pa t1) } }=liveN S1:=by
    refine liveN_v (j:=j) hj (a:={ a with v:=putV a.v (natsOf (pa++o.pa)) (valueX o al pa t1) }) (by rw[erow]) ?_
    rw[ej,Int.toNat_natCast]
   have e3:=hsm.liveN
   obtain⟨o1,o2⟩:=iv.okL (by omega)
   exact⟨by omega,by rw[OkL,e2];exact⟨o1,o2⟩⟩
  rintro _ h69 ⟨lab',St,hs,rfl⟩
  have Y2:=Y1.prog St hs
  refine⟨_,rfl,⟨Y2.c.k7,Y2.c.k8,Y2.c.k13,Y2.c.k14⟩,?_⟩
  refine cal_of (lawValue_spec Y2.c.op (fun b hb=>(Y2.w.q b hb).2) Y2.c.p2) ?_
  rintro _ h70 ⟨f70,u',rfl,hu'⟩
  have Y3:=Y2.grow f70
  obtain⟨rs,x3⟩:=Y3.w.rat
  refine⟨_,_,_,u'.ps,_,u'.pa,_,rfl,⟨Y3.c.k7,Y3.c.k8,Y3.c.k13,Y3.c.k14⟩,cal_of (refWrite_spec x3 hfX (fun b hb=>(Y3.w.q b hb).2) Y3.c.i2 pl' hu' (value_few of (by omega)) (n:=liveN X) (Nat.le_refl _)) ?_⟩
  rintro _ h71 ⟨f71,rfl,Q',nx⟩
  have Y4:=Y3.docO f71 nx
  refine⟨_,rfl,rc6 (CsAt.blk Y4.c.k8) (stoPr Y4.c.k10 rfl fun h72 k72 f72=>rc6 (CsAt.blk k72) ?_)⟩
  rw[w1,hF]
  exact Y4.finP ⟨w2,si'.up,xi'.up⟩ (by omega) f72
 rw[if_neg n4] at hF
 refine⟨fun c=>c=decide (o.kind=5∨o.kind=6),?_,?_⟩
 ·refine ifb_iff (q:=o.kind=5) (by rw[←ek];simp) (fun e5=>?_) (fun n5=>?_)
  ·rw[ek,e5];rfl
  ·show (ow.kind == 6)=decide (o.kind=5∨o.kind=6)
   rw[ek,Bool.eq_iff_iff];simp[n5]
 rintro _ rfl
 refine ifb_dec (fun e56=>?_) (fun n56=>?_)
 ·
  rw[if_pos e56] at hF
  obtain⟨t',ht'⟩:=exF_ok hF fun f hf=>borrowX_err hf
  obtain⟨eb,m1,-⟩:=borrow_sm (tg':=t1) hsm iv.si.w (pair_eta ht')
  have xi':=iv.xi.borrow pl' (pair_eta ht')
  have e6:(ow.kind == 6)=decide (o.kind=6):=by rw[ek,Bool.eq_iff_iff];simp
  refine rdPt Y0.c.k13 (ldI_i (x:=ow.kind) Y0.c7.at0 ?_)
  rw[e6]
  refine cal_of (borrow_ses Y0.w.ses hfS (Y0.w.nmQ Y0.c.i1) pl' (decide (o.kind=6))) ?_
  rintro v h73 ⟨lab',St,hs,hm⟩
  rw[eb] at hs hm
  obtain⟨so,rfl,hso⟩:=hm
  refine⟨_,so,_,_,rfl,minePt fun h75 k75 f75=>?_⟩
  have z20:=Y0.c.k7.lt
  have y1:=Y0.prog St hs
  have Y1:=y1.more (G:=fun b=>h20.size≤b∧b<h73.size∧lab' b=.no) (n:=h20.size) (fun b hb=>⟨hb.2.2,hb.2.1,hb.1⟩) ⟨Y0.m.fr.size,Y0.c.k7.lt,Y0.c.k8.lt,Y0.c.k10.lt,Y0.c.k13.lt,Y0.c.k14.lt,Y0.w.hrs,fun b hb=>Y0.w.owns hb⟩
  have hso1:IntsC (fun b=>lab' b=.q∨(Q0 b∨(h20.size≤b∧b<h73.size∧lab' b=.no))) h73 so (pa++o.pa):=hso.weak fun b hb hs=>by
   rcases hb with hb|hb
   ·exact .inl hb
   ·exact .inr (.inr ⟨hb.1,hs,hb.2⟩)
  have Y2:=Y1.grow f75
  obtain⟨rs,x2⟩:=Y2.w.rat
  refine rdPt Y2.c.k14 (ldI_i (x:=ow.kind) Y2.c7.at0 ?_)
  rw[e6]
  refine cal_of (refBorrow_spec x2 hfX (fun b hb=>(Y2.w.q b hb).2) ht0 (by omega) Y2.c.i2 pl' (decide (o.kind=6))) ?_
  rintro v h76 ⟨f76,Q',nx,hm⟩
  rw[ht'] at hm
  subst hm
  refine⟨_,q2,_,_,rfl,minePt fun h78 k78 f78=>?_⟩
  have Y3:=Y2.docN f76 nx
  have Y4:=Y3.grow f78
  have K75:=f78.blk (f76.blk k75 fun e=>by
   rcases e with e|e
   ·have:=Y1.w.hrs;omega
   ·have:=Y1.w.owns e;omega) fun h=>h
  obtain⟨w3,m3⟩:=Y2.w.docN f76 nx
  have so3:=(IntsC.mvP (hso1.fr f75 fun _ _ h=>h) Y2.w m3).fr f78 fun _ _ h=>h
  refine tail_pt K75 k78 Y4.c.k10 rfl so3.ints Y4.c.i2.ints pl' (by decide) fun h' f'=>?_
  exact Y4.fin ⟨m1,iv.si.up,xi'⟩ so3 Y4.c.i2 (by simp;omega) f'
 rw[if_neg n56] at hF
 refine ifb_iff (q:=o.kind=7) (by rw[←ek];simp) (fun e7=>?_) (fun n7=>?_)
 ·
  rw[if_pos e7] at hF
  obtain⟨m1,c1⟩:=free_sm (liveN X) S X o.a hsm
  have A1:∀hh,blk hh h.size (opc ow).toArray→cl hh ((⟨h.size,0,none⟩:Addr).add 1)=some (.int .i64 o.a):=fun hh hs=>by
   rw[←ea];exact (by simpa using CsAt.blk hs:CsAt hh ⟨h.size,0,none⟩ (opc ow)) 1 _ rfl
  refine⟨fun hh=>blk hh h.size (opc ow).toArray,Y0.c.k7,ldI_i (A1 _ Y0.c.k7) ⟨o.a,fun hh hs=>A1 hh hs,?_⟩⟩
  refine cal_of (free_ok (liveN X) _ _ _ _ _ o.a Y0.w.ses (by have:=hsm.liveN;omega) (iv.okL (by omega))) ?_
  rintro _ h83 ⟨lab',St,hs,rfl,-,-⟩
  have Y1:=Y0.prog St hs
  obtain⟨rs,x1⟩:=Y1.w.rat
  refine⟨_,rfl,Y1.c.k7,cal_of (rfree_ok (liveN X) _ _ _ _ _ _ o.a x1 (Nat.le_refl _) (fun a ha=>(hfX.2 a ha).1)) ?_⟩
  rintro _ h84 ⟨rfl,rd⟩
  have Y2:=Y1.docO rd.fr (Q2:=Q0) ⟨fun _ h=>h,fun _ h=>.inl h,rd.at_⟩
  refine⟨_,rfl,rc6 (CsAt.blk Y2.c.k8) (stoPr Y2.c.k10 rfl fun h72 k72 f72=>rc6 (CsAt.blk k72) ?_)⟩
  rw[c1,hF]
  exact Y2.finP ⟨m1,(iv.si.free _ _).up,(iv.xi.free _ _).up⟩ (by omega) f72
 rw[if_neg n7] at hF
 refine ifb_iff (q:=o.kind=8) (by rw[←ek];simp) (fun e8=>?_) (fun n8=>?_)
 ·
  rw[if_pos e8] at hF
  obtain⟨z,hz'⟩:=exF_ok hF fun f hf=>peekS_err hf
  obtain⟨y,ey,her⟩:=peek_sm hsm hz'
  refine rdPt Y0.c.k13 (cal_of (peek_ses Y0.w.ses (Y0.w.nmQ Y0.c.i1) pl') ?_)
  rintro v h86 ⟨f86,hm⟩
  rw[ey] at hm
  obtain⟨u,rfl,hu⟩:=hm
  refine⟨_,_,_,u.ps,_,u.pa,_,_,rfl,mineV fun h88 k88 f88=>?_⟩
  have Y2:=Y0.grow (f86.trans f88)
  obtain⟨rs,x2⟩:=Y2.w.rat
  refine rdPt Y2.c.k14 (cal_of (refPeek_spec x2 (fun b hb=>(Y2.w.q b hb).2) Y2.c.i2) ?_)
  rintro v h89 ⟨f89,hm⟩
  rw[hz'] at hm
  obtain⟨u',rfl,hu'⟩:=hm
  refine⟨_,_,_,u'.ps,_,u'.pa,_,_,rfl,mineV fun h91 k91 f91=>?_⟩
  have Y4:=Y2.grow (f89.trans f91)
  have fz:few z:=by
   unfold peekS at hz'
   split at hz'
   ·cases hz'
   ·rename_i a ha
    exact getV_few _ _ _ hz' (iv.xi.fewAt ha)
  refine tail_same ((f89.trans f91).blk k88 fun h=>h) k91 Y4.c.k8 Y4.c.k10 rfl (few_er her fz) (VAt.grow hu (f88.trans (f89.trans f91))) (VAt.grow hu' f91) her (by decide) fun h' f'=>?_
  exact Y4.finP iv.up (by omega) f'
 ·
  refine rc6 (CsAt.blk Y0.c.k8) (stoPr Y0.c.k10 rfl fun h72 k72 f72=>rc6 (CsAt.blk k72) ?_)
  exact Y0.finP iv.up (by omega) f72
end Go.Proofs.Ytggacajnmgligaa
namespace Go.Proofs.Ytggacajnmgligaa
open Go Go.Lf
set_option linter.unusedVariables false
theorem fails_spec {Q:Nat→Prop} {h:Heap} {hr:Nat} {X:Hs} {s:Sv} {rs:List Rw} {M:Int} {k:Nat} (x:RAt Q h hr X s rs) (xi:XI M k X) (hk:k≤100) (hQ:∀b,Q b→b<h.size) {o:Opx} {ow:Opv} (op:OpAt Q h o ow) (of:few o.t) (ol:o.pa.length≤4)
  {al t2:Int} {sp2:Sv} {pa:List Int} (p2:IntsC Q h sp2 pa) (pl:pa.length≤1000) :
  CallsH Try.prog 20 #[ptr hr,.agg (opc ow).toArray,.agg (pvs al sp2 t2)] h (fun v h'=>Fr (fun b=>b=hr∨s.own b) h h'∧v=.bool (decide (opF X o al pa t2≠0))):=by
 have hrs:=x.hd.lt
 have ows:∀b,s.own b→b<h.size:=fun b hb=>(x.own.ge hb).2
 apply F20
 unfold L20
 refine newOp (w:=ow) fun h1 k7 f1 z1=>newPt (al:=al) (sp:=sp2) (tg:=t2) fun h2 k5 f2 z2=>rdPt k5 (minePt (al:=al) (sp:=sp2) (tg:=t2) fun h4 k4 f4=>?_)
 have g2:=f1.trans f2
 have g4:=g2.trans f4
 have K7:=(f2.trans f4).blk k7 fun h=>h
 have K5:=f4.blk k5 fun h=>h
 have P2:IntsAt h4 sp2 pa:=(p2.fr g4 fun _ _ h=>h).ints
 have OP:IntsAt h4 ow.ps o.pa:=(op.pa.fr g4 fun _ _ h=>h).ints
 refine⟨fun hh=>blk hh h.size (opc ow).toArray,K7,ldS_i (s:=sp2) (by rw[add_plain,K5.cl];rfl) ⟨ow.ps,fun hh hs=>by rw[add_plain,hs.cl];rfl,cat2 P2 OP (by omega) (by omega) (fun hh g=>g.blk K7 fun h=>h) fun q h7 f7 w7 i7=>stoPp (f7.blk k4 fun h=>h) fun h8 k8 f8=>?_⟩⟩
 have z4:=f4.size
 have z4':=k4.lt
 have z7:=f7.size
 have z8:=f8.size
 have G8:Grow h h8:=(g4.trans f7).trans' f8 fun i hi e=>by omega
 have kk7:blk h8 h.size (opc ow).toArray:=f8.blk (f7.blk K7 fun h=>h) (by omega)
 have kk5:=f8.blk (f7.blk K5 fun h=>h) (by omega)
 have x8:RAt (fun b=>Q b∨q.own b) h8 hr X s rs:=(x.grow G8).weak (fun b hb=>.inl hb) fun b hb=>by
  rcases hb with hb|hb
  ·exact x.q b hb
  ·have:=w7 b hb
   exact⟨by omega,fun e=>by have:=ows b e;omega⟩
 have hQ8:∀b,(fun b=>Q b∨q.own b) b→b<h8.size:=fun b hb=>by
  rcases hb with hb|hb
  ·have:=hQ b hb;omega
  ·have:=w7 b hb;omega
 have i8:IntsC (fun b=>Q b∨q.own b) h8 q (pa++o.pa):=(i7.fr f8 fun b hb e=>by have:=w7 b hb;omega).weak fun b hb _=>.inr hb
 have op8:OpAt (fun b=>Q b∨q.own b) h8 o ow:=(op.fr G8 fun _ _ h=>h).weak fun b hb _=>.inl hb
 have p8:IntsC (fun b=>Q b∨q.own b) h8 sp2 pa:=(p2.fr G8 fun _ _ h=>h).weak fun b hb _=>.inl hb
 clear K7 K5 P2 OP k7 k5 k4 i7 w7 f1 f2 f4 f7 f8 g2 g4 op p2 x
 generalize (fun b=>Q b∨q.own b)=Q0 at *
 have hfX:FewX X:=⟨by have:=xi.ll;omega,fun a ha=>by obtain⟨r1,r2,r3,r4⟩:=xi.row a ha;exact⟨r1,by omega,r3⟩⟩
 have ht0:=xi.t0
 have ht1:=xi.t1
 have pl':(pa++o.pa).length≤1000000:=by simp;omega
 have ek:=op8.k
 have ea:=op8.a
 have c7:CsAt h8 ⟨h.size,0,none⟩ (opc ow):=by simpa using CsAt.blk kk7
 have A1:cl h8 ((⟨h.size,0,none⟩:Addr).add 1)=some (.int .i64 o.a):=by rw[←ea];exact c7 1 _ rfl
 have up:∀ {h9:Heap},Fr (fun b=>b=hr∨s.own b) h8 h9→Fr (fun b=>b=hr∨s.own b) h h9:=fun f=>(G8.mono fun _ _ h=>h.elim).trans f
 have toO:∀ {a b:Heap},Fr s.own a b→Fr (fun b=>b=hr∨s.own b) a b:=fun g=>g.mono fun _ _ h=>.inr h
 have toG:∀ {a b:Heap},Grow a b→Fr (fun b=>b=hr∨s.own b) a b:=fun g=>g.mono fun _ _ h=>h.elim
 refine⟨fun f hh=>f=opF X o al pa t2∧Fr (fun b=>b=hr∨s.own b) h hh,ldI_i (x:=ow.kind) c7.at0 ?_,?_⟩
 rotate_left
 ·rintro _ h16 ⟨rfl,F⟩
  refine⟨F,?_⟩
  congr 1
  rw[Bool.eq_iff_iff];simp
 unfold opF
 refine ifb_iff (q:=o.kind=1) (by rw[←ek];simp) (fun e1=>?_) (fun n1=>?_)
 ·have hsc:cl h8 ⟨hr,0,none⟩=some (.slice s.a s.n s.c):=by rw[x8.hd.cl];rfl
  have hn:=x8.n
  refine⟨fun c=>c=(atS X o.a).isNone,ldI_i A1 (ifb_iff (q:=o.a<0) (by simp) (fun e=>?_) fun e0=>⟨_,rfl,ldS_i hsc (ldI_i A1 (ifb_iff (q:=(s.n:Int)≤o.a) (by simp) (fun e=>?_) fun e9=>⟨_,rfl,ldS_i hsc (ldI_i A1 ?_)⟩))⟩),?_⟩
  ·unfold atS;rw[if_neg (by omega)];rfl
  ·unfold atS;rw[if_pos (by omega),List.getElem?_eq_none (by omega)];rfl
  ·have hj:o.a.toNat<X.l.length:=by omega
   obtain⟨p,ep,h2',c⟩:=x8.row hj
   refine⟨p,ep,by omega,by omega,rs[o.a.toNat].live,c.at0,?_⟩
   show (!rs[o.a.toNat].live)=(atS X o.a).isNone
   rw[(x8.el _ hj h2').1]
   unfold atS
   rw[if_pos (by omega),List.getElem?_eq_getElem hj]
   cases hl:X.l[o.a.toNat].live<;>simp[hl]
  rintro _ rfl
  rw[if_pos e1]
  refine⟨fun e=>⟨toG G8,?_⟩,fun e=>⟨?_,toG G8⟩⟩
  ·have:atS X o.a=none:=by simpa using e
   rw[this];rfl
  ·cases h:atS X o.a with
   | none=>rw[h] at e;cases e
   | some a=>rfl
 rw[if_neg n1]
 refine ifb_iff (q:=o.kind=2) (by rw[←ek];simp) (fun e2=>?_) (fun n2=>?_)
 ·rw[if_pos e2]
  refine rdPt k8 (cal_of (refRead_spec x8 hfX hQ8 i8 pl') ?_)
  rintro v h9 ⟨f9,Q',-,hm⟩
  cases hg:(getX X al (pa++o.pa) t2 false).2 with
  | error f=>rw[hg] at hm;obtain⟨-,rfl⟩:=hm;exact⟨_,_,_,⟨none,0,0⟩,_,⟨none,0,0⟩,_,_,rfl,rfl,up (toO f9)⟩
  | ok y=>rw[hg] at hm;obtain⟨u,rfl,-⟩:=hm;exact⟨_,_,_,u.ps,_,u.pa,_,_,rfl,rfl,up (toO f9)⟩
 rw[if_neg n2]
 refine ifb_iff (q:=o.kind=3) (by rw[←ek];simp) (fun e3=>?_) (fun n3=>?_)
 ·rw[if_pos e3]
  refine rdPt k8 (cal_of (refTake_spec x8 hfX hQ8 i8 pl') ?_)
  rintro v h9 ⟨f9,Q',-,hm⟩
  cases hg:(takeX X al (pa++o.pa) t2).2 with
  | error f=>rw[hg] at hm;obtain⟨-,rfl⟩:=hm;exact⟨_,_,_,⟨none,0,0⟩,_,⟨none,0,0⟩,_,_,rfl,rfl,up (toO f9)⟩
  | ok y=>rw[hg] at hm;obtain⟨u,rfl,-⟩:=hm;exact⟨_,_,_,u.ps,_,u.pa,_,_,rfl,rfl,up (toO f9)⟩
 rw[if_neg n3]
 refine ifb_iff (q:=o.kind=4) (by rw[←ek];simp) (fun e4=>?_) (fun n4=>?_)
 ·rw[if_pos e4]
  refine⟨fun hh=>blk hh h2.size (pvs al q t2),k8,rc12 c7 (rdPt kk5 (rh3 (fun hh hs=>CsAt.blk hs) (cal_of (lawValue_spec op8 hQ8 p8) ?_)))⟩
  rintro _ h11 ⟨f11,u,rfl,hu⟩
  refine⟨_,_,_,u.ps,_,u.pa,_,rfl,f11.blk k8 fun h=>h,cal_of (refWrite_spec (x8.grow f11) hfX (fun b hb=>Nat.lt_of_lt_of_le (hQ8 b hb) f11.size) (i8.fr f11 fun _ _ h=>h) pl' hu (value_few of (by omega)) (n:=liveN X) (Nat.le_refl _)) ?_⟩
  rintro _ h12 ⟨f12,rfl,-⟩
  exact⟨_,rfl,rfl,up ((toG f11).trans (toO f12))⟩
 rw[if_neg n4]
 refine⟨fun c=>c=decide (o.kind=5∨o.kind=6),?_,?_⟩
 ·refine ifb_iff (q:=o.kind=5) (by rw[←ek];simp) (fun e5=>?_) (fun n5=>?_)
  ·rw[ek,e5];rfl
  ·show (ow.kind == 6)=decide (o.kind=5∨o.kind=6)
   rw[ek,Bool.eq_iff_iff];simp[n5]
 rintro _ rfl
 refine ifb_dec (fun e56=>?_) (fun n56=>?_)
 ·rw[if_pos e56]
  have e6:(ow.kind == 6)=decide (o.kind=6):=by rw[ek,Bool.eq_iff_iff];simp
  refine rdPt k8 (ldI_i (x:=ow.kind) c7.at0 ?_)
  rw[e6]
  refine cal_of (refBorrow_spec x8 hfX hQ8 ht0 (by omega) i8 pl' (decide (o.kind=6))) ?_
  rintro v h9 ⟨f9,Q',-,hm⟩
  cases hg:(borrowX X al (pa++o.pa) t2 (decide (o.kind=6))).2 with
  | error f=>rw[hg] at hm;obtain⟨-,rfl⟩:=hm;exact⟨_,⟨none,0,0⟩,_,_,rfl,rfl,up f9⟩
  | ok y=>rw[hg] at hm;subst hm;exact⟨_,q,_,_,rfl,rfl,up f9⟩
 rw[if_neg n56]
 refine ifb_iff (q:=o.kind=7) (by rw[←ek];simp) (fun e7=>?_) (fun n7=>?_)
 ·rw[if_pos e7]
  refine ldI_i A1 (cal_of (rfree_ok (liveN X) _ _ _ _ _ _ o.a x8 (Nat.le_refl _) (fun a ha=>(hfX.2 a ha).1)) ?_)
  rintro _ h9 ⟨rfl,rd⟩
  exact⟨_,rfl,rfl,up (toO rd.fr)⟩
 rw[if_neg n7]
 refine ifb_iff (q:=o.kind=8) (by rw[←ek];simp) (fun e8=>?_) (fun n8=>?_)
 ·rw[if_pos e8]
  refine rdPt k8 (cal_of (refPeek_spec x8 hQ8 i8) ?_)
  rintro v h9 ⟨f9,hm⟩
  cases hg:peekS X al (pa++o.pa) with
  | error f=>rw[hg] at hm;obtain⟨-,rfl⟩:=hm;exact⟨_,_,_,⟨none,0,0⟩,_,⟨none,0,0⟩,_,_,rfl,rfl,up (toG f9)⟩
  | ok y=>rw[hg] at hm;obtain⟨u,rfl,-⟩:=hm;exact⟨_,_,_,u.ps,_,u.pa,_,_,rfl,rfl,up (toG f9)⟩
 ·rw[if_neg n8]
  exact⟨rfl,toG G8⟩
end Go.Proofs.Ytggacajnmgligaa
namespace Go.Proofs.Ytggacajnmgligaa
open Go Go.Lf
set_option linter.unusedVariables false
structure Pp where
 al:Int
 s1:Sv
 t1:Int
 s2:Sv
 t2:Int
 pa:List Int
abbrev ppc (p:Pp):List Value:=(prs p.al p.s1 p.t1 p.al p.s2 p.t2).toList
theorem ppc_len (p:Pp):(ppc p).length=6:=rfl
structure PpAt (lab:Nat→Lb) (Q:Nat→Prop) (h:Heap) (m:Nat) (p:Pp):Prop where
 p1:IntsC (fun b=>lab b=.q∨Q b) h p.s1 p.pa
 p2:IntsC Q h p.s2 p.pa
 l:p.pa.length≤m
theorem PpAt.fr {lab:Nat→Lb} {Q T:Nat→Prop} {h h':Heap} {m:Nat} {p:Pp} (x:PpAt lab Q h m p) (f:Fr T h h') (hT:∀b,(lab b=.q∨Q b)→¬T b):PpAt lab Q h' m p:=⟨x.p1.fr f hT,x.p2.fr f fun b hb=>hT b (.inr hb),x.l⟩
theorem PpAt.mv {h0 h h':Heap} {lab lab':Nat→Lb} {Q Q':Nat→Prop} {hp hr:Nat} {s s':Sv} {S X:Hs} {m m2:Nat} {p:Pp} (x:PpAt lab Q h m p) (w:Wd h0 lab Q h hp hr s S X) (v:Mv lab Q h hr s lab' Q' h' s') (hm:m≤m2):PpAt lab' Q' h' m2 p:=⟨IntsC.mvP x.p1 w v,IntsC.mvQ x.p2 w v,Nat.le_trans x.l hm⟩
theorem Loc.notP {lab:Nat→Lb} {Q:Nat→Prop} {h:Heap} {hr:Nat} {s:Sv} {b:Nat} (x:Loc lab Q h hr s b):¬(lab b=.q∨Q b):=by
 rintro (e|e)
 ·rw[x.l] at e;cases e
 ·exact x.q e
theorem idx_ok (x:Int) {n:Nat} (h0:0<n) (h1:n≤1000):IntKind.u64.wrap (n:Int)=n∧∃r:Nat,r<n∧IntKind.i64.wrap ((IntKind.u64.wrap x).tmod (IntKind.u64.wrap (n:Int)))=r:=by
 have e1:IntKind.u64.wrap (n:Int)=n:=by rw[IntKind.wrap_u64];omega
 have e2:0≤IntKind.u64.wrap x:=by rw[IntKind.wrap_u64];omega
 have e3:=Int.emod_nonneg (IntKind.u64.wrap x) (show (n:Int)≠0 by omega)
 have e4:=Int.emod_lt_of_pos (IntKind.u64.wrap x) (show (0:Int)<n by omega)
 refine⟨e1,((IntKind.u64.wrap x).tmod n).toNat,?_,?_⟩
 ·rw[Int.tmod_eq_emod_of_nonneg e2];omega
 ·rw[e1,Int.tmod_eq_emod_of_nonneg e2]
  rw[wrap64_id (by omega) (by omega)]
  omega
theorem own_none {b:Nat}:¬(⟨none,0,0⟩:Sv).own b:=by
 rintro ⟨a,ea,_⟩;cases ea
theorem copyR {h:Heap} {Sq:Heap→Prop} {s:Sv} {rs:List Rw} (o:Own h 0 9 s (rs.flatMap rwc)) (hl:rs.length≤1000000) (hSq:∀h',Grow h h'→Sq h') {K:Sv→Heap→Prop}
  (k:∀s' h',Grow h h'→Own h' h.size 9 s' (rs.flatMap rwc)→K s' h') :
  newS 89 #[] 0 h fun s1 h1=>Sq h1∧appS 89 (Value.agg #[Value.bool false,Value.int .i64 0,Value.int .u64 0,Value.string (⟨#[]⟩:ByteArray),Value.slice none 0 0,Value.int .i64 0,Value.slice none 0 0,Value.int .i64 0,Value.slice none 0 0]).cells 9 128 h1 s1 s fun s2 h2=>K s2 h2:=by
 rintro s1 h1 rfl rfl
 have f1:Grow h (h.push (.cells #[] 89)):=Fr.push _ _ _
 have o1:Own (h.push (.cells #[] 89)) h.size 9 ⟨some ⟨h.size,0,none⟩,0,0⟩ []:=own_empty (Nat.le_refl _)
 have hn:=own_len rwc_len (by omega) o
 refine⟨hSq _ f1,appS_own (news:=rs.flatMap rwc) rfl o1 o.len (o.frame f1 fun _ _ h=>h).row (one_flat one_rw rs) f1.size (by simp only[];omega) (by simp only[];omega) fun s2 h2 n2 o2 f2 w2=>?_⟩
 have g2:Grow h h2:=f1.trans' f2 fun i hi e=>by have:=(o1.ge e).1;omega
 rw[List.nil_append] at o2
 exact k s2 h2 g2 o2
theorem minePr {h:Heap} {a1 t1 a2 t2:Int} {s1 s2:Sv} {K:Addr→Heap→Prop} (k:∀h',blk h' h.size (prs a1 s1 t1 a2 s2 t2)→Grow h h'→K ⟨h.size,0,none⟩ h'):new 58 (prs 0 ⟨none,0,0⟩ 0 0 ⟨none,0,0⟩ 0) h fun p h1=>stoA h1 p (prs a1 s1 t1 a2 s2 t2).toList fun h2=>K p h2:=
 newPr fun h1 k1 f1 z1=>stoPr k1 rfl fun h2 k2 f2=>k h2 k2 (f1.trans' f2 fun i hi e=>by omega)
theorem RAt.copy {Q:Nat→Prop} {h h':Heap} {hr b:Nat} {X:Hs} {s s':Sv} {rs:List Rw} (x:RAt Q h hr X s rs) (g:Grow h h') (hQ:∀b,Q b→b<h.size) (o:Own h' h.size 9 s' (rs.flatMap rwc)) (hb:h.size≤b) (hn:¬s'.own b) (k:blk h' b #[.slice s'.a s'.n s'.c,.int .i64 X.tags,.int .i64 X.most,.bool true]):RAt Q h' b X s' rs:=
 ⟨k,own_weak o (Nat.zero_le _),hn,x.len,(x.grow g).el,fun c hc=>⟨by have:=hQ c hc;omega,fun e=>by have:=hQ c hc;have:=(o.ge e).1;omega⟩⟩
structure LI (hI h0:Heap) (M:Int) (hp hr:Nat) (ops:List Opx) (all:Sv) (j:Nat) (h:Heap) (lab:Nat→Lb) (Q:Nat→Prop) (s:Sv) (S X:Hs) (ps:List Pp):Prop where
 w:Wd h0 lab Q h hp hr s S X
 iv:Iv M j S X
 jl:j≤ops.length
 own:Own h 0 6 all (ps.flatMap ppc)
 pl:ps.length=j+1
 loc:∀b,all.own b→Loc lab Q h hr s b∧h0.size≤b
 pp:∀p∈ps,PpAt lab Q h (4*j) p
 g:Grow hI h
 qi:∀b,b<hI.size→Q b
theorem plain_walk {hI:Heap} {most0:Int} {l1:Sv} {ops:List Opx} {Q0:Nat→Prop} (hq0:∀b,Q0 b→b<hI.size) (x0:OpsAt Q0 hI l1 ops):CallsH Try.prog 6 #[.int .i64 most0,.slice l1.a l1.n l1.c] hI (fun v h'=>Grow hI h'∧v=.bool true):=by
 apply F6
 unfold L6
 generalize IntKind.i64.wrap (((IntKind.u64.wrap most0):Int).tmod 12)=M
 refine cal_of (watched_spec hI) ?_
 rintro _ h1 ⟨g1,rfl⟩
 refine⟨_,rfl,fun c hh=>Grow hI hh∧(c=false→FewO ops),⟨fun e=>(by cases e),fun _=>?_⟩,?_⟩
 ·refine cal_of (lawFew_spec (x0.fr g1 fun _ _ h=>h)) ?_
  rintro _ h3 ⟨g3,b,rfl,hb⟩
  exact⟨_,rfl,g1.trans g3,fun e=>hb (by simpa using e)⟩
 rintro c h2 ⟨g2,hc⟩
 refine⟨fun _=>?_,fun e=>?_⟩
 ·refine cal_of (watched_spec h2) ?_
  rintro _ h4 ⟨g4,rfl⟩
  exact⟨_,rfl,g2.trans g4,rfl⟩
 obtain⟨hf1,hf2⟩:=hc e
 refine cal_of (new_ses M false) ?_
 rintro _ h5 ⟨lab,rfl,ses⟩
 refine⟨_,rfl,?_⟩
 rintro p30 h6 rfl rfl
 have k6:=blk.new h5 #[.slice none 0 0,.int .i64 0,.int .i64 M,.bool true] 56
 have f6:Grow h5 (h5.push (.cells #[.slice none 0 0,.int .i64 0,.int .i64 M,.bool true] 56)):=Fr.push _ _ _
 have z6:(h5.push (.cells #[.slice none 0 0,.int .i64 0,.int .i64 M,.bool true] 56)).size=h5.size+1:=by simp
 generalize h5.push (.cells #[.slice none 0 0,.int .i64 0,.int .i64 M,.bool true] 56)=h6 at *
 rintro s32 h7 rfl rfl
 have k7:=blk.new h6 (prs 0 ⟨none,0,0⟩ 0 0 ⟨none,0,0⟩ 0) 58
 have o7:Own (h6.push (.cells (prs 0 ⟨none,0,0⟩ 0 0 ⟨none,0,0⟩ 0) 58)) 0 6 ⟨some ⟨h6.size,0,none⟩,1,1⟩ (prs 0 ⟨none,0,0⟩ 0 0 ⟨none,0,0⟩ 0).toList:=own_new1 (Nat.zero_le _) rfl
 have f7:Grow h6 (h6.push (.cells (prs 0 ⟨none,0,0⟩ 0 0 ⟨none,0,0⟩ 0) 58)):=Fr.push _ _ _
 have z7:(h6.push (.cells (prs 0 ⟨none,0,0⟩ 0 0 ⟨none,0,0⟩ 0) 58)).size=h6.size+1:=by simp
 generalize h6.push (.cells (prs 0 ⟨none,0,0⟩ 0 0 ⟨none,0,0⟩ 0) 58)=h7 at *
 have z2:=g2.size
 have hfr:Grow h2 h5∧(∀b,b<h2.size→lab b=.no):=by
  obtain⟨_,_,_,g,l⟩:=ses
  exact⟨g,l⟩
 have z5:=hfr.1.size
 have hpl:h2.size<h5.size:=by
  obtain⟨_,_,x,_⟩:=ses
  exact x.hd.lt
 have GI:Grow hI h7:=((g2.trans hfr.1).trans f6).trans f7
 refine⟨fun all i hh=>∃(j:Nat) (lab:Nat→Lb) (Q:Nat→Prop) (s:Sv) (S X:Hs) (ps:List Pp),i=j∧LI hI h2 M h2.size h5.size ops all j hh lab Q s S X ps,fun _ i _=>ops.length - i.toNat,⟨0,lab,fun b=>b<hI.size,⟨none,0,0⟩,⟨[],0,0,M,false⟩,⟨[],0,0,M,true⟩,[⟨0,⟨none,0,0⟩,0,⟨none,0,0⟩,0,[]⟩],rfl,?_⟩,?_⟩
 ·refine⟨⟨(ses.grow f6).grow f7,⟨[],f7.blk k6 fun h=>h,Own.nil _ _ _,own_none,rfl,fun i hi=>absurd hi (Nat.not_lt_zero _),fun b hb=>⟨by omega,own_none⟩⟩,fun b hb=>⟨hfr.2 b (by omega),by omega⟩,⟨ses.no (Nat.le_refl _),by omega⟩,fun b e=>absurd e own_none⟩,⟨⟨rfl,fun i hi=>absurd hi (Nat.not_lt_zero _),rfl,rfl⟩,⟨rfl,by simp,by simp,fun a ha=>by cases ha⟩,⟨rfl,rfl,by simp,by simp,by simp,fun a ha=>(by cases ha),rfl⟩⟩,Nat.zero_le _,o7,rfl,fun b hb=>?_,fun p hp=>?_,GI,fun b hb=>hb⟩
  ·have hb:=own_at hb
   subst hb
   exact⟨⟨ses.no (by omega),by omega,by omega,own_none,by omega⟩,by omega⟩
  ·simp at hp;subst hp
   exact⟨IntsC.nil _ _,IntsC.nil _ _,by simp⟩
 rintro all _ h8 ⟨j,lab,Q,s,S,X,ps,rfl,L⟩
 obtain⟨w,iv,jl,own,pl,loc,pp,g,qi⟩:=L
 have ln:=x0.rows.len
 have an:=own_len ppc_len (by omega) own
 refine ifb_iff (q:=j<ops.length) (by rw[ln];simp) (fun hlt=>?_) (fun hge=>⟨g,rfl⟩)
 have x8:=x0.fr g fun _ _ h=>h
 obtain⟨p,ep,hqp,hi,ow,c,op0⟩:=x8.rows.at_ j hlt
 obtain⟨ol,of⟩:=hf2 _ (List.getElem_mem hlt)
 have op:OpAt Q h8 ops[j] ow:=op0.weak fun b hb _=>qi b (hq0 b hb)
 obtain⟨wn,r,hr',er'⟩:=idx_ok ow.p (n:=all.n) (by omega) (by omega)
 refine⟨p,ep,by omega,by rw[ln];omega,?_⟩
 rw[Int.toNat_natCast]
 refine ldI_i (x:=ow.p) (c 2 _ rfl) ⟨by rw[wn];omega,?_⟩
 rw[er']
 obtain⟨pa',epa,hr2,ca⟩:=(own_rows ppc_len (by omega) own).at_ r (by omega)
 refine⟨pa',epa,by omega,by omega,?_⟩
 rw[Int.toNat_natCast]
 refine rc6 ca (minePr fun h10 k10 f10=>?_)
 have hpp:=pp _ (List.getElem_mem hr2)
 generalize ps[r]=q at *
 obtain⟨rs,xr⟩:=w.rat
 have xr10:=xr.grow f10
 have hrl:=xr.len
 have hXl:=iv.xi.ll
 refine⟨fun hh=>blk hh h5.size #[.slice s.a s.n s.c,.int .i64 X.tags,.int .i64 X.most,.bool true],xr10.hd,ldS_i (s:=s) (by rw[xr10.hd.cl];rfl) ⟨X.tags,fun hh hs=>by rw[add_plain,hs.cl];rfl,copyR xr10.own (by omega) (fun hh g=>g.blk xr10.hd fun h=>h) fun s58 h12 g12 o12=>⟨g12.blk xr10.hd fun h=>h,?_⟩⟩⟩
 rintro p65 h13 rfl rfl
 have k13:=blk.new h12 #[.slice s58.a s58.n s58.c,.int .i64 X.tags,.int .i64 M,.bool true] 56
 have f13:Grow h12 (h12.push (.cells #[.slice s58.a s58.n s58.c,.int .i64 X.tags,.int .i64 M,.bool true] 56)):=Fr.push _ _ _
 have z13:(h12.push (.cells #[.slice s58.a s58.n s58.c,.int .i64 X.tags,.int .i64 M,.bool true] 56)).size=h12.size+1:=by simp
 generalize h12.push (.cells #[.slice s58.a s58.n s58.c,.int .i64 X.tags,.int .i64 M,.bool true] 56)=h13 at *
 have z10:=f10.size
 have z10':=k10.lt
 have z12:=g12.size
 have ow12:∀b,s58.own b→h10.size≤b∧b<h12.size:=fun b hb=>o12.ge hb
 have xc:=xr10.copy (b:=h12.size) (g12.trans f13) (fun b hb=>by have:=(w.q b hb).2;omega) (o12.frame f13 fun _ _ h=>h) z12 (fun e=>by have:=ow12 _ e;omega) (by rw[iv.xi.mo];exact k13)
 have G13:Grow h8 h13:=(f10.trans g12).trans f13
 have z8:=f10.size
 refine⟨p,ep,by omega,by rw[ln];omega,?_⟩
 have K10:=(g12.trans f13).blk k10 fun h=>h
 have hpl4:=hpp.l
 refine rc12 (c.grow G13) (rc3 (pr2 K10) (cal_of (fails_spec xc iv.xi (by omega) (fun b hb=>by have:=(w.q b hb).2;omega) (op.fr G13 fun _ _ h=>h) of ol (hpp.p2.fr G13 fun _ _ h=>h) (by omega)) ?_))
 rintro _ h14 ⟨f14,rfl⟩
 have G14:Grow h8 h14:=G13.trans' f14 fun i hi e=>by
  rcases e with e|e
  ·omega
  ·have:=ow12 _ e;omega
 refine⟨_,rfl,fun e=>⟨g.trans G14,rfl⟩,fun e=>?_⟩
 have hF:opF X ops[j] q.al q.pa q.t2=0:=by simpa using e
 have K14:=f14.blk K10 fun e=>by
  rcases e with e|e
  ·omega
  ·have:=ow12 _ e;omega
 have c14:=c.grow G14
 obtain⟨w14,m14⟩:=w.step G14
 have op14:=op.mvQ w m14
 have pp14:=hpp.mv w m14 (Nat.le_refl _)
 have z14:=G14.size
 clear k13 f13 xc o12 ow12 K10 f14 xr10 xr k10 f10 g12 c op op0
 refine⟨fun q11 f12 ok13 hh=>∃b11,q11=⟨b11,0,none⟩∧f12=0∧ok13=true∧∃lab' Q' s' S' X',∃q':Pp,Wd h2 lab' Q' hh h2.size h5.size s' S' X'∧Mv lab Q h8 h5.size s lab' Q' hh s'∧Iv M (j+1) S' X'∧blk hh b11 (prs q'.al q'.s1 q'.t1 q'.al q'.s2 q'.t2)∧PpAt lab' Q' hh (4*(j+1)) q',
  ⟨fun hh=>CsAt hh (p.add (j*12)) (opc ow)∧blk hh h8.size (prs q.al q.s1 q.t1 q.al q.s2 q.t2),⟨c14,K14⟩,⟨p,ep,by omega,by rw[ln];omega,?_⟩⟩,?_⟩
 ·refine rh12 (fun hh hs=>hs.1) (rh6 (fun hh hs=>CsAt.blk hs.2) ⟨?_,?_⟩)
  ·refine cal_of (one_spec w14 iv (by omega) op14 of ol pp14.p1 pp14.p2 (by omega) hF) ?_
   rintro _ h15 ⟨lab',Q',s',S',X',al,pa,t1,t2,sp1,sp2,w',m',iv',rfl,a1,a2,a3⟩
   exact⟨_,sp1,_,_,sp2,_,_,_,rfl,minePr fun h17 k17 f17=>⟨h15.size,rfl,rfl,rfl,lab',Q',s',S',X',⟨al,sp1,t1,sp2,t2,pa⟩,w'.grow f17,(m14.trans m').grow f17,iv',k17,⟨a1.fr f17 fun _ _ h=>h,a2.fr f17 fun _ _ h=>h,by show pa.length≤4*(j+1);omega⟩⟩⟩
  ·refine newPr (a1:=0) (s1:=⟨none,0,0⟩) (t1:=0) (a2:=0) (s2:=⟨none,0,0⟩) (t2:=0) fun h18 k18 f18 z18=>⟨⟨c14.grow f18,f18.blk K14 fun h=>h⟩,cal_of (one_spec (w14.grow f18) iv (by omega) (op14.fr f18 fun _ _ h=>h) of ol (pp14.p1.fr f18 fun _ _ h=>h) (pp14.p2.fr f18 fun _ _ h=>h) (by omega) hF) ?_⟩
   rintro _ h19 ⟨lab',Q',s',S',X',al,pa,t1,t2,sp1,sp2,w',m',iv',rfl,a1,a2,a3⟩
   have l18:Loc lab Q h18 h5.size s h14.size:=Loc.new w14 (Nat.le_refl _) (by omega)
   have l19:=l18.mv m'
   have np:∀b,(lab' b=.q∨Q' b)→¬b=h14.size:=fun b hb e=>by subst e;exact l19.notP hb
   have zw:=w.h0s
   refine⟨_,sp1,_,_,sp2,_,_,_,rfl,stoPr (l18.blk k18 m') rfl fun h20 k20 f20=>⟨h14.size,rfl,rfl,rfl,lab',Q',s',S',X',⟨al,sp1,t1,sp2,t2,pa⟩,w'.fr f20 fun b hb=>?_,((m14.grow f18).trans m').loc f20 fun b hb=>by omega,iv',k20,⟨a1.fr f20 np,a2.fr f20 fun b hb=>np b (.inr hb),by show pa.length≤4*(j+1);omega⟩⟩⟩
   subst hb
   exact⟨l19.l,by omega,l19.r,l19.o,l19.q⟩
 rintro q11 f12 ok13 h21 ⟨b11,rfl,rfl,rfl,lab',Q',s',S',X',q',w',m',iv',k11,ppq⟩
 refine⟨fun c=>c=false,⟨fun e=>by simp at e,fun _=>⟨fun c=>c=false,⟨fun e=>by simp at e,fun _=>rfl⟩,fun _ h=>h⟩⟩,?_⟩
 rintro _ rfl
 have own21:=own.frame m'.fr fun b hb=>(loc b hb).1.not
 refine⟨fun e=>(by cases e),fun _=>rc6 (CsAt.blk k11) (app1 (vs:=prs q'.al q'.s1 q'.t1 q'.al q'.s2 q'.t2) rfl own21 rfl (one_pr _ _ _ _ _ _) (Nat.zero_le _) (by omega) (by omega) fun s9 h23 n9 o9 f23 wo=>?_)⟩
 rw[wrap_succ hlt (by omega)]
 have lm:=fun b (hb:all.own b)=>(loc b hb).1.mv m'
 have W23:=w'.fr f23 fun b hb=>⟨(lm b hb).l,(loc b hb).2,(lm b hb).r,(lm b hb).o,(lm b hb).q⟩
 have nP:∀b,(lab' b=.q∨Q' b)→¬all.own b:=fun b hb e=>(lm b e).notP hb
 have z21:=w'.h0s
 refine⟨⟨j+1,lab',Q',s',S',X',ps++[q'],rfl,W23,iv',hlt,by simpa using o9,by simp[pl],fun b hb=>?_,fun p hp=>?_,?_,fun b hb=>m'.qq b (qi b hb)⟩,by dsimp only;omega⟩
 ·have hz:=(o9.ge hb).2
  rcases wo b hb with h|h
  ·exact⟨⟨(lm b h).l,(lm b h).q,(lm b h).r,(lm b h).o,hz⟩,(loc b h).2⟩
  ·exact⟨Loc.new w' h hz,by omega⟩
 ·rcases List.mem_append.1 hp with h|h
  ·exact ((pp p h).mv w m' (by omega)).fr f23 nP
  ·simp at h;subst h;exact ppq.fr f23 nP
 ·obtain⟨_,_,_,g9,_⟩:=W23.ses
  exact g2.trans g9
end Go.Proofs.Ytggacajnmgligaa
namespace Go.Proofs.Ytggacajnmgligaa.row
open Go Go.Lf Go.ChangeShapes Go.WideShapes Go.ChangeAt Go.RowKit Go.Proofs.Ytggacajnmgligaa
set_option linter.unusedVariables false
set_option maxRecDepth 20000
theorem cO:Try.prog.cellsOf 61=12:=by kernel_rfl
theorem opR {h:Heap} {fuel:Nat} {cs:List Value} (hr:rd Try.prog h fuel 61 cs):∃(w:Opv) (o:Opx),cs=opc w∧OpAt (fun b=>b<h.size) h o w:=by
 have hl:=rd_len Try.underlying61 hr
 rw[cO] at hl
 obtain⟨f0,r0⟩:=rd_field Try.underlying61 hr 0 rfl cI
 obtain⟨f1,r1⟩:=rd_field Try.underlying61 hr 1 rfl cI
 obtain⟨f2,r2⟩:=rd_field Try.underlying61 hr 2 rfl cI
 obtain⟨f3,r3⟩:=rd_field Try.underlying61 hr 3 rfl cIs
 obtain⟨f4,r4⟩:=rd_field Try.underlying61 hr 4 rfl cV
 obtain⟨f5,r5⟩:=rd_field Try.underlying61 hr 5 rfl cI
 match cs,hl with
 | [u0,u1,u2,u3,u4,u5,u6,u7,u8,u9,u10,u11],_=>
  obtain⟨k,e0,_⟩:=rd_int Try.underlying3 r0
  obtain⟨a,e1,_⟩:=rd_int Try.underlying3 r1
  obtain⟨p,e2,_⟩:=rd_int Try.underlying3 r2
  obtain⟨s,e3⟩:=rd_slice Try.underlying26 r3
  obtain⟨v,t,e4,ht⟩:=vl_rd _ _ r4
  obtain⟨put,e5,_⟩:=rd_int Try.underlying3 r5
  simp at e0 e1 e2 e3 e4 e5
  obtain⟨e40,e41,e42,e43,e44,e45,e46⟩:=e4
  subst e0 e1 e2 e3 e40 e41 e42 e43 e44 e45 e46 e5
  obtain⟨xs,hx⟩:=rd_ints Try.underlying26 Try.underlying3 cI r3
  exact⟨⟨k,a,p,s,v,put⟩,⟨k,a,p,xs,t,put⟩,rfl,⟨rfl,rfl,rfl,⟨IntsQ.of hx fun b _ hb=>hb,rd_cap Try.underlying26 r3⟩,ht,rfl⟩⟩
theorem opsR {h:Heap} {fuel:Nat} {cs:List Value} (hr:rd Try.prog h fuel 51 cs):∃(s:Sv) (l:List Opx),cs=[.slice s.a s.n s.c]∧OpsAt (fun b=>b<h.size) h s l:=by
 obtain⟨s,rfl⟩:=rd_slice Try.underlying51 hr
 obtain⟨-,hall⟩:=rd_elems Try.underlying51 hr
 have key:∀i,i<s.n→∃y:Opx,∃p v,s.a=some p∧p.block<h.size∧CsAt h (p.add (i*12)) (opc v)∧OpAt (fun b=>b<h.size) h y v:=by
  intro i hi
  obtain⟨a,ea,cs',hlen,hcl,fuel',hr'⟩:=hall i hi
  rw[cO] at hlen hcl
  obtain⟨v,y,e,hy⟩:=opR hr'
  subst e
  have c:CsAt h (a.add (i*12)) (opc v):=fun j u hu=>by
   have hj:j<12:=(List.getElem?_eq_some_iff.1 hu).1
   rw[hcl j hj];exact hu
  have h0:=c.at0
  exact⟨y,a,v,ea,by rw[←add_block a (i*12)];exact cl_lt h0,c,hy⟩
 have:Inhabited Opx:=⟨⟨0,0,0,[],zVl,0⟩⟩
 obtain⟨f,hf⟩:=Go.Deep.choose_lt (α:=Opx) key
 refine⟨s,(List.range s.n).map f,rfl,⟨by simp,fun i hi=>?_⟩⟩
 have hi':i<s.n:=by simpa using hi
 obtain⟨p,v,e1,e2,e3,e4⟩:=hf i hi'
 exact⟨p,e1,by rw[add_block];exact e2,by simpa using hi',v,e3,by simpa [hi'] using e4⟩
theorem plain_law (most0:Int) (l1:Sv) (ops:List Opx) (h:Heap) (x:OpsAt (fun b=>b<h.size) h l1 ops):CallsH Try.prog 6 #[.int .i64 most0,.slice l1.a l1.n l1.c] h (fun v h'=>v=.bool true∧Grow h h'):=
 (plain_walk (fun _ h=>h) x).mono fun v h' hh=>⟨hh.2,hh.1⟩
end Go.Proofs.Ytggacajnmgligaa.row
namespace Go.Proofs.Ytggacajnmgligaa.heapPlain
open Go Go.Lf Go.ChangeShapes Go.WideShapes Go.ChangeAt Go.RowKit Go.Proofs.Ytggacajnmgligaa.row
set_option maxRecDepth 100000 in
theorem lifted (os:Os) (started:os.Started) (H:Type) (enc:TypeId×Value→H) :
  ReturnsInHanded {} Try.checked os 6 .any (Rows.heapPlainSpec.pre6 enc Try.prog Try.f6 Rows.heapPlainRow.domain false) (Rows.heapPlainSpec.post enc Try.prog Try.f6 false true false false):=by
 refine returnsInHanded_of_change (C:=Try.checked) own started (by kernel_rfl) Try.func6
  (ChangeSpec.witness6 (enc:=enc) (C:=Try.checked) false ⟨#[],#[.int .i64 0,.slice none 0 0],[]⟩ 8 (by kernel_rfl) (by kernel_rfl) (by kernel_rfl) (by kernel_rfl)) ?_
 intro W base args ds gs before hval0 hW hcnd _
 have hval:∀(j:Nat) t v,Try.f6.params[j]?=some t→args[j]?=some v→Value.okWide Try.prog W .any base t v:=hval0
 have hW':=hW
 obtain⟨p,q,hA0,hV,rfl,hfz,hnd⟩:=hW
 have hA:DataW.TrodAll enc Try.prog W 0 (fun _=>true) true Try.f6.params.toList args.toList ds p:=hA0
 rw[Try.params6] at hA hval
 obtain⟨v0,vs0,d0,ds0,p0,q0,hargs,rfl,rfl,h0,r0⟩:=trodAll_cons hA
 obtain⟨v1,vs1,d1,ds1,p1,q1,rfl,rfl,rfl,h1,r1⟩:=trodAll_cons r0
 obtain⟨rfl,rfl,rfl⟩:=trodAll_nil r1
 obtain rfl:args=#[v0,v1]:=by cases args;simp_all
 obtain⟨rfl,rfl⟩:=trodVars_none hV
 have hlt:∀x∈p0++(p1++[])++[],x.block<W.heap.size:=fun x hx=>hW'.lt x hx
 obtain⟨x0,hx0⟩:=okWide_int Try.underlying3 (hval 0 3 v0 rfl rfl)
 obtain⟨a1,n1,c1,hx1⟩:=okWide_slice Try.underlying51 (hval 1 51 v1 rfl rfl)
 have hq1:=h1
 obtain⟨fuel1,hf1⟩:=hq1
 have hr1:=trod_rd _ _ _ _ hf1
 rw[hx1] at hr1
 obtain⟨⟨sa1,sn1,sc1⟩,ops_1,hs1,hp1_0⟩:=opsR hr1
 replace hs1:[Value.slice a1 n1 c1]=[Value.slice sa1 sn1 sc1]:=hs1
 simp at hs1
 obtain⟨rfl,rfl,rfl⟩:=hs1
 clear hr1 hf1
 subst hx0;subst hx1
 have hwalk:=plain_law x0 ⟨a1,n1,c1⟩ ops_1 W.heap hp1_0 W rfl
 refine hwalk.mono fun e W' ⟨v,he,⟨hv,hg⟩,hr⟩=>?_
 subst he;subst hv
 have hb:Below W.heap.size W W':=⟨hr.os,hr.tape,hr.output,hg.size,fun k hk=>hg.same k hk (fun h=>h)⟩
 refine⟨_,rfl,⟨[d0,d1],[],_,[],p0++(p1++[]),[],hW',?_,?_,?_,hb.frame _,fun h=>by cases h⟩⟩
 ·exact trodAll_cons_mk (shut_bool Try.underlying4 _) trodAll_mk0
 ·exact (trodAll_cons_mk (Below.trod laidOut (by kernel_rfl) (of_decide_eq_true (by kernel_rfl)) h0 hb (fun x hx=>hlt x (by simp[hx]))) (trodAll_cons_mk (Below.trod laidOut (by kernel_rfl) (of_decide_eq_true (by kernel_rfl)) h1 hb (fun x hx=>hlt x (by simp[hx]))) trodAll_mk0))
 ·exact rfl
theorem over:Rows.heapPlainRow.holds Try.pinned (OpenSpec.ofChange Rows.heapPlainSpec):=
 OpenClaim.holds_of_wide 6 Try.f6 rfl rfl rfl rfl rfl rfl rfl ⟨rfl,rfl,rfl,rfl,rfl⟩ rfl rfl rfl rfl rfl (by kernel_rfl) Try.func6 (by kernel_rfl)
  (of_decide_eq_true (by kernel_rfl)) (by unfold Func.isWrapper;first|(rw[if_pos (by decide +kernel)];kernel_rfl)|(rw[if_neg (by decide +kernel)];exact⟨rfl,rfl⟩))
  (fun os started H enc _=>lifted os started H enc)
theorem proved:Rows.HeapPlainSaid:=over
#print axioms proved
end Go.Proofs.Ytggacajnmgligaa.heapPlain

/- HighNoMore: where the program says that one function does not do for another one, and the types do, there are sets of regions, with all that is known, for which none for the one's own lifetimes will do: proved for every input, with no conditions. -/
import Derived.Test.YteofligmdngdgaaNM5
import Derived.Test.YteofligmdngdgaaRows
import Derived.SizedLaws
namespace Go.Proofs.Yteofligmdngdgaa
open Go Go.Lf
set_option linter.unusedVariables false
section
variable {h:Heap}
set_option maxHeartbeats 1000000 in
theorem nomore_walk {C:Cs} {v:Cv} (x:CsAt (fun b=>b<h.size) h C v) (sz:CsSz C):CallsH Try.prog 5 #[.agg (csv v)] h (fun y h'=>y=.bool true∧Grow h h'):=by
 apply F5
 unfold L5
 refine new11 (v:=v) fun h1 b1 f1 z1=>?_
 have N1:=Cs11.blk b1
 refine⟨_,_,_,_,_,_,_,_,_,_,_,N1.free,N1.known,N1.src,N1.needs,N1.shapes,N1.a,N1.b,N1.ab,N1.bb,N1.ao,N1.bo,?_⟩
 have x1:CsAt (fun b=>b<h1.size) h1 C v:=by
  have y:=x.grow f1
  have u:∀b,b<h.size→b<h1.size→b<h1.size:=fun _ _ h=>h
  exact⟨y.free,y.known.weak u,y.src,y.needs.weak u,y.shapes.weak u,y.a.weak u,y.b.weak u,y.ab,y.bb,y.ao.weak u,y.bo.weak u⟩
 refine cal_of (made_spec x1 sz) ?_
 rintro _ h2 ⟨f2,wv,va,vb,ok,rfl,hok⟩
 refine⟨_,_,_,_,_,_,_,_,_,_,_,_,_,_,_,_,_,_,_,_,_,_,_,rfl,?_⟩
 rintro p3 h3 rfl rfl
 have b3:=blk.new h2 (wdv zwd) 33
 have f3:Grow h2 (h2.push (.cells (wdv zwd) 33)):=Fr.push _ _ _
 have z3:(h2.push (.cells (wdv zwd) 33)).size=h2.size+1:=by simp
 change new 37 (scv zsc) (h2.push (.cells (wdv zwd) 33)) _
 generalize h2.push (.cells (wdv zwd) 33)=h3 at b3 f3 z3 ⊢
 refine new9 (v:=zsc) fun h4 b4 f4 z4=>new9 (v:=zsc) fun h5 b5 f5 z5=>?_
 have f35:=f4.trans f5
 refine three (w:=wv) (a:=va) (b:=vb) (by omega) (f35.blk b3 fun h=>h) (f5.blk b4 fun h=>h) b5 rfl rfl rfl fun h8 f8 q3 q4 q5=>?_
 have g28:Grow h2 h8:=(f3.trans f35).trans' f8 fun i hi e=>by omega
 refine cal_of (tested_spec h8) ?_
 rintro _ h9 ⟨f9,rfl⟩
 refine⟨_,rfl,?_⟩
 have g29:=g28.trans f9
 have g9:=f1.trans (f2.trans g29)
 refine⟨fun e=>?_,fun e=>?_⟩
 ·refine cal_of (tested_spec h9) ?_
  rintro _ h10 ⟨f10,rfl⟩
  exact⟨_,rfl,rfl,g9.trans f10⟩
 obtain⟨okC,hw,hA,hB⟩:=hok (by simpa using e)
 obtain⟨fr,efr0⟩:=Int.eq_ofNat_of_zero_le (fr_in C).1
 obtain⟨a,ea⟩:=Int.eq_ofNat_of_zero_le (a_in C).1
 obtain⟨b,eb⟩:=Int.eq_ofNat_of_zero_le (b_in C).1
 have g:=good_made okC sz efr0 ea eb
 have hf:=g.hf
 have ha:=g.ha
 have hb:=g.hb
 have c3:=f9.blk q3 fun h=>h
 have c4:=f9.blk q4 fun h=>h
 have c5:=f9.blk q5 fun h=>h
 have hw:=wd_up hw g29
 have hA:=sch_up hA g29
 have hB:=sch_up hB g29
 generalize wOf C=W at *
 generalize saOf C=A at *
 generalize sbOf C=B at *
 clear b1 N1 b3 b4 b5 q3 q4 q5 hok x1 e
 have efr:wv.free=(fr:Int):=by rw[hw.free,g.free]
 have eva:va.b=(a:Int):=by rw[hA.b,g.ea]
 have evb:vb.b=(b:Int):=by rw[hB.b,g.eb]
 have hw1:IntKind.i64.wrap (wv.free+vb.b)=((fr+b:Nat):Int):=by rw[efr,evb,wrap64_id (by omega) (by omega)];rfl
 have hw2:IntKind.i64.wrap (((fr+b:Nat):Int)+va.b)=((fr+b+a:Nat):Int):=by rw[eva,wrap64_id (by omega) (by omega)];rfl
 have uw:∀ {hh:Heap},Grow h9 hh→Wd4 hh ⟨h2.size,0,none⟩ wv:=fun f=>Wd4.blk (f.blk c3 fun h=>h)
 have ua:∀ {hh:Heap},Grow h9 hh→Sc9 hh ⟨h3.size,0,none⟩ va:=fun f=>Sc9.blk (f.blk c4 fun h=>h)
 have ub:∀ {hh:Heap},Grow h9 hh→Sc9 hh ⟨h4.size,0,none⟩ vb:=fun f=>Sc9.blk (f.blk c5 fun h=>h)
 have g99:Grow h9 h9:=Fr.refl _ _
 have M4:=ua g99
 refine⟨fun hh=>Grow h9 hh,g99,_,_,_,_,_,_,_,_,_,M4.b,M4.o,M4.pp,M4.k,M4.nm,M4.mu,M4.r,M4.rs,M4.az,_,(uw g99).free,_,(ub g99).b,?_⟩
 refine⟨_,_,_,_,fun hh f=>(uw f).free,fun hh f=>(uw f).k,fun hh f=>(uw f).w,fun hh f=>(uw f).n,?_⟩
 refine⟨_,_,_,_,_,_,_,_,_,fun hh f=>(ub f).b,fun hh f=>(ub f).o,fun hh f=>(ub f).pp,fun hh f=>(ub f).k,fun hh f=>(ub f).nm,fun hh f=>(ub f).mu,fun hh f=>(ub f).r,fun hh f=>(ub f).rs,fun hh f=>(ub f).az,?_⟩
 refine cal_of (movedR_spec (v:=va) (free:=wv.free) (by_:=vb.b) hA g.sa) ?_
 rintro _ h11 ⟨f11,va',rfl,xa'⟩
 rw[efr,evb] at xa'
 refine⟨_,_,_,_,_,_,_,_,_,rfl,f11,?_⟩
 refine cal_of (askedR_spec (wv:=wv) (va:=va') (vb:=vb) g.ho g.hW (wd_up hw f11) xa' (sch_up hB f11) (mvS_sm g.sa) g.sb g.al) ?_
 rintro _ h12 ⟨f12,s43,rfl,o43⟩
 refine⟨s43,true,rfl,?_⟩
 have g12:=f11.trans f12
 refine⟨_,(uw g12).free,_,(ub g12).b,?_⟩
 dsimp only
 rw[hw1]
 have s12z:=f12.size
 have hal:=askL_len g.ho (ofW W.ws) (mvS_sm (free:=fr) (by_:=b) g.sa) g.sb
 have hal:(askedL W A B fr b).length≤5001000020:=hal
 have hask:InR (askedL W A B fr b) ((fr+b+a:Nat):Int):=g.ask
 refine⟨fun y hh=>Grow h12 hh∧(y=false→¬TestP W A B fr b),⟨fun e=>(by cases e),fun _=>?_⟩,?_⟩
 ·have M3:=uw g12
  have M4:=ua g12
  have M5:=ub g12
  refine⟨_,_,_,_,M3.free,M3.k,M3.w,M3.n,_,_,_,_,_,_,_,_,_,M4.b,M4.o,M4.pp,M4.k,M4.nm,M4.mu,M4.r,M4.rs,M4.az,_,_,_,_,_,_,_,_,_,M5.b,M5.o,M5.pp,M5.k,M5.nm,M5.mu,M5.r,M5.rs,M5.az,?_⟩
  refine cal_of (test_spec (wv:=wv) (va:=va) (vb:=vb) g (wd_up hw g12) (sch_up hA g12) (sch_up hB g12)) ?_
  rintro _ h14 ⟨f14,r,rfl,hr⟩
  exact⟨_,rfl,f14,fun e2 t=>by rw[hr.2 t] at e2;cases e2⟩
 rintro x58 h13 ⟨f13,hno⟩
 have g13:=g12.trans f13
 refine⟨fun e=>⟨rfl,g9.trans g13⟩,fun e=>?_⟩
 have hno:=hno e
 refine⟨fun hh=>Grow h13 hh,Fr.refl _ _,_,(uw g13).k,?_⟩
 refine⟨_,_,_,_,fun hh f=>(uw (g13.trans f)).free,fun hh f=>(uw (g13.trans f)).k,fun hh f=>(uw (g13.trans f)).w,fun hh f=>(uw (g13.trans f)).n,?_⟩
 refine⟨_,_,_,_,_,_,_,_,_,fun hh f=>(ub (g13.trans f)).b,fun hh f=>(ub (g13.trans f)).o,fun hh f=>(ub (g13.trans f)).pp,fun hh f=>(ub (g13.trans f)).k,fun hh f=>(ub (g13.trans f)).nm,fun hh f=>(ub (g13.trans f)).mu,fun hh f=>(ub (g13.trans f)).r,fun hh f=>(ub (g13.trans f)).rs,fun hh f=>(ub (g13.trans f)).az,?_⟩
 rintro s59 h15 rfl rfl
 have f15:Grow h13 (h13.push (.cells #[] 56)):=Fr.push _ _ _
 refine⟨f15,?_⟩
 have o15:=own_empty' 2 h13 h13.size 56 (Nat.le_refl _)
 generalize h13.push (.cells #[] 56)=h15 at f15 o15 ⊢
 have hkn:=hw.known.len
 have hkl:=g.kl
 refine appS_full rfl o15 rfl (news:=prs W.known) (by rw[prs_len,hkn]) (prs_row (hw.known.fr (g13.trans f15) fun _ _ h=>h)) (one_prs _) f15.size (by dsimp only;omega) (by dsimp only;omega) ?_
 intro s62 h16 hn62 o62 f16
 have F16:=f15.trans f16
 refine⟨F16,?_⟩
 rw[List.nil_append] at o62
 have g16:=g13.trans F16
 refine cal_of (says_spec (wv:=wv) (v:=vb) g.ho (sch_up hB g16) (wd_up hw g16) g.sb) ?_
 rintro _ h17 ⟨f17,s65,rfl,o65⟩
 refine⟨s65,rfl,?_⟩
 have hfl:=factsL_len (of:=fun nm=>lkN nm W.ns) g.ho g.sb
 have hn62':s62.n=W.known.length:=by have:=o62.len;rw[prs_len] at this;omega
 have hn65:s65.n=(factsL (fun nm=>lkN nm W.ns) B).length:=by have:=o65.len;rw[prs_len] at this;omega
 have s16z:=F16.size
 have s17z:=f17.size
 refine appS_own rfl (o62.frame f17 fun _ _ h=>h) (news:=prs (factsL (fun nm=>lkN nm W.ns) B)) (by rw[prs_len,hn65]) o65.row (one_prs _) (by omega) (by omega) (by omega) ?_
 intro s66 h18 _ o66 f18 _
 have F18:Grow h13 h18:=(F16.trans f17).trans' f18 fun i hi e=>by have:=(o62.ge e).1;omega
 rw[←prs_app] at o66
 change Own h18 h13.size 2 s66 (prs (knownL W B)) at o66
 rintro p70 h19 rfl rfl
 have k19:=blk.new h18 #[Value.int .i64 ((fr+b:Nat):Int),Value.slice s66.a s66.n s66.c] 54
 have f19:Grow h18 (h18.push (.cells #[Value.int .i64 ((fr+b:Nat):Int),Value.slice s66.a s66.n s66.c] 54)):=Fr.push _ _ _
 have hnob:¬s66.own h18.size:=fun e=>by have:=(o66.ge e).2;omega
 have RF:RefOk h18.size h13.size s66 (fr+b) (okP (fr+b) (knownL W B)) (h18.push (.cells #[Value.int .i64 ((fr+b:Nat):Int),Value.slice s66.a s66.n s66.c] 54)):=⟨k19,by rw[InR.ok g.knownIn];exact o66.frame f19 fun _ _ h=>h,hnob⟩
 generalize h18.push (.cells #[Value.int .i64 ((fr+b:Nat):Int),Value.slice s66.a s66.n s66.c] 54)=h19 at f19 RF ⊢
 clear k19
 have F19:=F18.trans f19
 have g19:=g13.trans F19
 have o66:=o66.frame f19 fun _ _ h=>h
 have o43:=((o43.frame f13 fun _ _ h=>h).frame F19 fun _ _ h=>h)
 change Own h19 h11.size 2 s43 (prs (askedL W A B fr b)) at o43
 have hkl2:=g.knownLen
 have hKin:=g.knownIn
 have hT:TestP W A B fr b=TestG (fr+b) (mOf (fr+b) (knownL W B)) (askedL W A B fr b):=rfl
 rw[hT] at hno
 generalize askedL W A B fr b=L at *
 generalize knownL W B=K at *
 generalize hN:fr+b=n at *
 have hn5:n≤5:=by omega
 generalize hM:n+a=most at *
 have s1219:h12.size≤h19.size:=by have:=f13.size;have:=F19.size;omega
 refine⟨fun s y hh=>∃j:Nat,y=j∧j≤n+1∧Grow h19 hh∧Own hh h19.size 1 s (u64s (baseL n K j)),fun _ y _=>n+1 - y.toNat,⟨0,rfl,Nat.zero_le _,Fr.refl _ _,Own.nil _ _ _⟩,?_⟩
 rintro s12 _ h20 ⟨j,rfl,hj,f20,o20⟩
 have hsn:s12.n=j:=by have:=(own_us o20).len;simpa [baseL] using this
 have s20:=f20.size
 refine ifb_iff (q:=j≤n) (by simp) (fun hl=>?_) (fun hl=>?_)
 ·refine cal_of (refUnder_spec (RF.frame f20 (fun h=>h) fun _ _ h=>h) (by omega) (by omega) j hl) ?_
  rintro _ h21 ⟨t,rfl,ot,f21⟩
  refine⟨t,rfl,?_⟩
  have ui:=own_ints ot
  have us:sel (mOf n K j) (n+1)=(((List.range (n+1)).filter (mOf n K j)).map fun i:Nat=>(i:Int)):=rfl
  have hset:setN n K j=orL ((List.range (n+1)).filter (mOf n K j)):=rfl
  have hus:∀y∈(List.range (n+1)).filter (mOf n K j),y<6:=fun y hy=>by have:=List.mem_range.1 (List.mem_filter.1 hy).1;omega
  have hul:((List.range (n+1)).filter (mOf n K j)).length≤n+1:=by have:=List.length_filter_le (mOf n K j) (List.range (n+1));simpa using this
  rw[us] at ui
  generalize (List.range (n+1)).filter (mOf n K j)=ul at *
  have htn:t.n=ul.length:=by have:=ui.len;simpa using this
  refine⟨fun s i=>∃k:Nat,i=k∧k≤ul.length∧s=((orL (ul.take k):Nat):Int),fun _ i=>ul.length - i.toNat,⟨0,rfl,Nat.zero_le _,rfl⟩,?_⟩
  rintro _ _ ⟨k,rfl,hk,rfl⟩
  refine ifb_iff (q:=k<ul.length) (by simp[htn]) (fun hkl=>?_) (fun hkl=>?_)
  ·obtain⟨p,ep,cp⟩:=ui.at_ k (by simpa using hkl)
   refine⟨p,ep,by omega,by rw[htn];omega,(ul[k]:Nat),by rw[Int.toNat_natCast];simpa using cp,by omega,?_⟩
   have h6:=hus _ (List.getElem_mem hkl)
   have e1:=one64 ⟨ul[k],h6⟩
   simp only at e1
   rw[e1]
   have hlt:=orL_lt (ul.take k) fun y hy=>hus y (List.mem_of_mem_take hy)
   have hp:2 ^ ul[k]<64:=by
    have:=Nat.pow_lt_pow_right (a:=2) (by omega) h6
    omega
   have e2:=or64 ⟨_,hlt⟩ ⟨_,hp⟩
   simp only at e2
   rw[e2,wrap_succ (n:=9) (by omega) (by omega)]
   refine⟨⟨k+1,rfl,hkl,?_⟩,by simp;omega⟩
   rw[List.take_succ_eq_append_getElem hkl,orL_snoc]
  ·obtain rfl:k=ul.length:=by omega
   rw[List.take_length,←hset]
   refine app1 rfl (o20.frame f21 fun _ _ h=>h) rfl (by simp[Value.oneCell']) (by have:=f21.size;omega) (by omega) (by omega) fun s' h23 e23 o23 f23 _=>?_
   rw[wrap_succ (n:=9) (by omega) (by omega)]
   refine⟨⟨j+1,rfl,by omega,(f20.trans f21).trans' f23 fun i hi e=>by have:=(o20.ge e).1;omega,?_⟩,by simp;omega⟩
   rw[baseL_succ]
   simpa [u64s] using o23
 obtain rfl:j=n+1:=by omega
 have hbase:=base_L hn5 K
 have hbl:(baseL n K (n+1)).length=n+1:=by simp[baseL]
 refine cal_of (outlive_spec (o66.frame f20 fun _ _ h=>h) (own_us o20) (by omega)) ?_
 rintro _ h24 ⟨rfl,rfl⟩
 refine⟨_,rfl,?_⟩
 rw[base_facts hn5 hKin (by omega) hbase]
 refine⟨fun e=>by simp at e,fun _=>?_⟩
 refine⟨fun s i hh=>∃k:Nat,i=k∧k≤a∧Grow h19 hh∧∃bs:List Int,bs.length=n+1+k∧Base n K bs∧Own hh h19.size 1 s (u64s bs),fun _ i _=>a - i.toNat,⟨0,rfl,Nat.zero_le _,f20,_,by rw[hbl],hbase,o20⟩,?_⟩
 rintro s1 _ h25 ⟨k,rfl,hk,f25,bs,hbsl,hbs,o25⟩
 have hs1n:s1.n=bs.length:=(own_us o25).len
 have s25:=f25.size
 refine⟨_,(ua (g19.trans f25)).b,?_⟩
 dsimp only
 rw[eva]
 refine ifb_iff (q:=k<a) (by simp) (fun hka=>?_) (fun hka=>?_)
 ·refine app1 rfl o25 rfl (by simp[Value.oneCell']) s25 (by omega) (by omega) fun s' h27 e27 o27 f27 _=>?_
  rw[wrap_succ (n:=9) (by omega) (by omega)]
  refine⟨⟨k+1,rfl,hka,f25.trans' f27 fun i hi e=>by have:=(o25.ge e).1;omega,bs++[0],by simp;omega,base_app (by omega) hbs (by omega),?_⟩,by simp;omega⟩
  simpa [u64s] using o27
 obtain rfl:k=a:=by omega
 have hbsm:bs.length=most+1:=by omega
 let RI:Heap→Prop:=fun hh=>Grow h19 hh∧∃bs:List Int,bs.length=most+1∧Base n K bs∧Own hh h19.size 1 s1 (u64s bs)
 refine⟨fun i hh=>∃k:Nat,i=k∧k≤most+1∧RI hh,fun i _=>most+1 - i.toNat,⟨0,rfl,Nat.zero_le _,f25,bs,hbsm,hbs,o25⟩,?_⟩
 rintro _ h28 ⟨r,rfl,hr,f28,bs,hbsm,hbs,o28⟩
 refine⟨_,(ua (g19.trans f28)).b,?_⟩
 dsimp only
 rw[hw2]
 refine ifb_iff (q:=r≤most) (by simp) (fun hrm=>?_) (fun hrm=>?_)
 rotate_left
 ·refine cal_of (outlive_spec (o43.frame f28 fun _ _ h=>h) (own_us o28) (by omega)) ?_
  rintro _ h32 ⟨rfl,rfl⟩
  refine⟨_,rfl,?_,g9.trans (g19.trans f28)⟩
  have:(L.all fun p=>relB bs p.1 p.2)=false:=by
   rw[Bool.eq_false_iff]
   exact fun h=>hno (base_test hn5 hask hbsm (by omega) hbs h)
  rw[this]
  rfl
 refine⟨fun i hh=>∃k:Nat,i=k∧k≤L.length∧RI hh,fun i _=>L.length - i.toNat,⟨0,rfl,Nat.zero_le _,f28,bs,hbsm,hbs,o28⟩,?_⟩
 rintro _ h29 ⟨k,rfl,hk,f29,bs,hbsm,hbs,o29⟩
 have hs1n:s1.n=bs.length:=(own_us o29).len
 have hLn:s43.n=L.length:=by have:=o43.len;rw[prs_len] at this;omega
 refine ifb_iff (q:=k<L.length) (by simp[hLn]) (fun hkl=>?_) (fun hkl=>?_)
 rotate_left
 ·rw[wrap_succ (n:=100) (by omega) (by omega)]
  exact⟨⟨r+1,rfl,by omega,f29,bs,hbsm,hbs,o29⟩,by simp;omega⟩
 have o43':=o43.frame f29 fun _ _ h=>h
 have hrow:=o43'.row
 obtain⟨q43,ea43⟩:∃q,s43.a=some q:=by
  rcases o43'.mem with⟨_,e,_⟩|⟨_,_,e,_⟩
  ·omega
  ·exact⟨_,e⟩
 rw[ea43] at hrow
 obtain⟨p1,p2⟩:=prs_get L k hkl
 have q1:=hrow _ _ p1
 have q2:=hrow _ _ p2
 have hp:=hask _ (List.getElem_mem hkl)
 obtain⟨xx,hxx⟩:=Int.eq_ofNat_of_zero_le hp.1.1
 obtain⟨yy,hyy⟩:=Int.eq_ofNat_of_zero_le hp.2.1
 rw[hxx] at q1 hp
 rw[hyy] at q2 hp
 have ixL:∀K:Addr→Prop,K q43→ixS s43 (k:Int) K:=fun K hK=>⟨q43,ea43,by omega,by rw[hLn];omega,hK⟩
 have q1':cl h29 (q43.add ((k:Int).toNat*2))=some (.int .i64 (xx:Int)):=by rw[Int.toNat_natCast];exact q1
 have q2':cl h29 ((q43.add ((k:Int).toNat*2)).add 1)=some (.int .i64 (yy:Int)):=by rw[Int.toNat_natCast,add_add];exact q2
 have U:=own_us o29
 have next:∀h31,RI h31→(∃k':Nat,IntKind.i64.wrap ((k:Int)+1)=k'∧k'≤L.length∧RI h31)∧(L.length - (IntKind.i64.wrap ((k:Int)+1)).toNat)<(L.length - ((k:Int)).toNat):=fun h31 hR=>by
  rw[wrap_succ hkl (by omega)]
  exact⟨⟨k+1,rfl,hkl,hR⟩,by simp;omega⟩
 refine⟨RI,ixL _ ⟨_,q1',?_⟩,fun h31 hR=>next h31 hR⟩
 refine ifb_iff (q:=n<xx) (by simp) (fun hnx=>?_) (fun _=>⟨f29,bs,hbsm,hbs,o29⟩)
 obtain⟨ps,es,cx⟩:=U.at_ xx (by omega)
 obtain⟨ps',es',cy⟩:=U.at_ yy (by omega)
 obtain rfl:ps=ps':=by rw[es] at es';exact Option.some.inj es'
 refine ixL _ ⟨_,q1',ixL _ ⟨_,q1',?_⟩⟩
 refine⟨ps,es,by omega,by rw[hs1n];omega,bs[xx],by rw[Int.toNat_natCast];exact cx,?_⟩
 refine ixL _ ⟨_,q2',?_⟩
 refine⟨ps,es,by omega,by rw[hs1n];omega,bs[yy],by rw[Int.toNat_natCast];exact cy,?_⟩
 refine⟨ps,es,by omega,by rw[hs1n];omega,?_⟩
 rw[Int.toNat_natCast]
 have w1:=hbs.1 _ (List.getElem_mem (show xx<bs.length by omega))
 have w2:=hbs.1 _ (List.getElem_mem (show yy<bs.length by omega))
 have hor:0≤bitsI .or .u64 bs[xx] bs[yy]∧bitsI .or .u64 bs[xx] bs[yy]<64:=by
  obtain⟨c,hc⟩:=Int.eq_ofNat_of_zero_le w1.1
  obtain⟨d,hd⟩:=Int.eq_ofNat_of_zero_le w2.1
  rw[hc] at w1 ⊢
  rw[hd] at w2 ⊢
  have e1:=or64 ⟨c,by omega⟩ ⟨d,by omega⟩
  simp only at e1
  rw[e1]
  have:=Nat.or_lt_two_pow (n:=6) (x:=c) (y:=d) (by omega) (by omega)
  omega
 refine own_sto o29 (by rw[hs1n];omega) rfl es fun h30 o30 f30=>?_
 refine⟨f29.trans' f30 fun i hi e=>by have:=(o29.ge e).1;omega,bs.take xx++[bitsI .or .u64 bs[xx] bs[yy]]++bs.drop (xx+1),by simp;omega,base_set hnx (by omega) hbs hor,?_⟩
 simpa [u64s,List.map_take,List.map_drop] using o30
end
end Go.Proofs.Yteofligmdngdgaa
namespace Go.Proofs.Yteofligmdngdgaa.row
open Go Go.Lf Go.ChangeShapes Go.WideShapes Go.ChangeAt Go.RowKit
theorem own:ownKnob Try.prog.godebug=none:=by kernel_rfl
theorem laidOut:laidOutB Try.prog=true:=by kernel_rfl
theorem cT:Try.prog.cellsOf 35=6:=by kernel_rfl
theorem cIs:Try.prog.cellsOf 25=1:=by kernel_rfl
theorem cTs:Try.prog.cellsOf 24=1:=by kernel_rfl
theorem cI:Try.prog.cellsOf 3=1:=by kernel_rfl
theorem cB:Try.prog.cellsOf 4=1:=by kernel_rfl
theorem cS:Try.prog.cellsOf 9=1:=by kernel_rfl
theorem cPs:Try.prog.cellsOf 22=1:=by kernel_rfl
theorem cP:Try.prog.cellsOf 56=2:=by kernel_rfl
theorem ty25l {h:Heap} {fuel:Nat} {cs:List Value} (hr:rd Try.prog h fuel 35 cs):∃(v:Tv) (y:Ty),cs=(tvs v).toList∧TyAt (fun b=>b<h.size) h y v:=
 ty_rd Try.underlying35 cT ⟨_,rfl,rfl,rfl⟩ ⟨_,rfl,rfl,rfl⟩ ⟨_,rfl,rfl,rfl⟩ ⟨_,rfl,rfl,rfl⟩ ⟨_,rfl,rfl,rfl⟩ ⟨_,rfl,rfl,rfl⟩ Try.underlying3 Try.underlying9 Try.underlying4 Try.underlying25 Try.underlying24 cI cS cB cIs cTs fuel cs hr
theorem inI_wf {x:Int} (hw:(Lit.int .i64 x).wf=true):inI x:=by
 simp only[Lit.wf,Bool.and_eq_true,decide_eq_true_eq] at hw
 have h1:IntKind.i64.min=-9223372036854775808:=rfl
 have h2:IntKind.i64.max=9223372036854775807:=rfl
 unfold inI
 omega
set_option maxRecDepth 100000 in
theorem pairsR {h:Heap} {fuel:Nat} {cs:List Value} (hr:rd Try.prog h fuel 22 cs):∃(s:Sv) (l:List (Int×Int)),cs=[.slice s.a s.n s.c]∧PrQ (fun b=>b<h.size) h s l∧∀p∈l,inI p.1∧inI p.2:=by
 obtain⟨s,rfl⟩:=rd_slice Try.underlying22 hr
 obtain⟨-,hall⟩:=rd_elems Try.underlying22 hr
 have key:∀i,i<s.n→∃o:Int×Int,∃p,s.a=some p∧p.block<h.size∧cl h (p.add (i*2))=some (.int .i64 o.1)∧cl h ((p.add (i*2)).add 1)=some (.int .i64 o.2)∧inI o.1∧inI o.2:=by
  intro i hi
  obtain⟨a,ea,cs',hlen,hcl,fuel',hr'⟩:=hall i hi
  rw[cP] at hlen hcl
  cases fuel' with
  | zero=>exact hr'.elim
  | succ f=>
   unfold rd at hr'
   rw[Try.underlying56] at hr'
   obtain⟨-,h2⟩:=hr'
   have r0:=h2 0 (by omega)
   have r1:=h2 1 (by omega)
   rw[cI] at r0 r1
   obtain⟨x0,e0,w0⟩:=rd_int Try.underlying3 r0
   obtain⟨x1,e1,w1⟩:=rd_int Try.underlying3 r1
   match cs',hlen with
   | [u0,u1],_=>
    simp at e0 e1
    subst e0 e1
    have h0:=hcl 0 (by omega)
    have h1:=hcl 1 (by omega)
    rw[add_zero] at h0
    exact⟨(x0,x1),a,ea,by rw[←add_block a (i*2)];exact cl_lt h0,h0,h1,inI_wf w0,inI_wf w1⟩
 obtain⟨f,hf⟩:=Go.Deep.choose_lt (α:=Int×Int) key
 refine⟨s,(List.range s.n).map f,rfl,⟨by simp,fun i hi=>?_⟩,fun p hp=>?_⟩
 ·have hi':i<s.n:=by simpa using hi
  obtain⟨p,e1,e2,e3,e4,-⟩:=hf i hi'
  exact⟨p,e1,e2,by simpa [hi'] using e3,by simpa [hi'] using e4⟩
 ·obtain⟨i,hi,rfl⟩:=List.mem_map.1 hp
  obtain⟨p,-,-,-,-,e5⟩:=hf i (by simpa using hi)
  exact e5
theorem intsR {h:Heap} {fuel:Nat} {cs:List Value} (hr:rd Try.prog h fuel 25 cs):∃(s:Sv) (l:List Int),cs=[.slice s.a s.n s.c]∧IntsAt h s l:=by
 obtain⟨s,rfl⟩:=rd_slice Try.underlying25 hr
 obtain⟨xs,hx⟩:=rd_ints Try.underlying25 Try.underlying3 cI hr
 exact⟨s,xs,rfl,hx⟩
theorem typesR {h:Heap} {fuel:Nat} {cs:List Value} (hr:rd Try.prog h fuel 24 cs):∃(s:Sv) (bs:List Ty),cs=[.slice s.a s.n s.c]∧TyAt (fun b=>b<h.size) h (tN bs) (tNv s):=by
 obtain⟨s,rfl⟩:=rd_slice Try.underlying24 hr
 obtain⟨-,hall⟩:=rd_elems Try.underlying24 hr
 have key:∀i,i<s.n→∃y:Ty,∃p u,s.a=some p∧p.block<h.size∧Tv6 h (p.add (i*6)) u∧TyAt (fun b=>b<h.size) h y u:=by
  intro i hi
  obtain⟨a,ea,cs',hlen,hcl,fuel',hr'⟩:=hall i hi
  rw[cT] at hlen hcl
  obtain⟨v,y,e,hy⟩:=ty25l hr'
  subst e
  have h0:=hcl 0 (by omega)
  have h1:=hcl 1 (by omega)
  have h2:=hcl 2 (by omega)
  have h3:=hcl 3 (by omega)
  have h4:=hcl 4 (by omega)
  have h5:=hcl 5 (by omega)
  rw[add_zero] at h0
  exact⟨y,a,v,ea,by rw[←add_block a (i*6)];exact cl_lt h0,⟨h0,h1,h2,h3,h4,h5⟩,hy⟩
 have:Inhabited Ty:=⟨tN []⟩
 obtain⟨f,hf⟩:=Go.Deep.choose_lt (α:=Ty) key
 refine⟨s,(List.range s.n).map f,rfl,?_⟩
 refine tyAt_iff.2 ⟨rfl,rfl,rfl,rfl,IntsC.nil _ _,by simp,?_⟩
 intro i hi
 have hi':i<s.n:=by simpa using hi
 obtain⟨p,u,e1,e2,e3,e4⟩:=hf i hi'
 exact⟨p,u,e1,e2,e3,by simpa [hi'] using e4⟩
section
variable {H:Type} {enc:TypeId×Value→H} {w:World} {fuel:Nat} {cs:List Value} {d:DataW H} {p:List MemPlace}
theorem b8:Try.prog.bytesOf 3=8:=by kernel_rfl
theorem slice_len (h:DataW.trod enc Try.prog w 0 (fun _=>true) true fuel 25 cs=some (d,p)) (hw:∀n∈d.weights Try.prog 25,n≤reachBytes):∀s:Sv,cs=[.slice s.a s.n s.c]→s.n≤17592186044416:=by
 intro s hs
 rcases DataW.trod_slice Try.underlying25 h with⟨e,_⟩|⟨a,len,cap,elems,rest,n,_,e,hx,_,_,_,hl,_⟩
 ·rw[hs] at e
  simp at e
  omega
 ·rw[hs] at e
  simp at e
  simp only[Prod.mk.injEq] at hx
  have:=hw ((elems.length+rest.length)*8) (by rw[hx.1];simp[DataW.weights,Try.underlying25,b8])
  have hr:=reachBytes_lt
  omega
theorem b16:Try.prog.bytesOf 56=16:=by kernel_rfl
theorem slice_lenP (h:DataW.trod enc Try.prog w 0 (fun _=>true) true fuel 22 cs=some (d,p)) (hw:∀n∈d.weights Try.prog 22,n≤reachBytes):∀s:Sv,cs=[.slice s.a s.n s.c]→s.n≤17592186044416:=by
 intro s hs
 rcases DataW.trod_slice Try.underlying22 h with⟨e,_⟩|⟨a,len,cap,elems,rest,n,_,e,hx,_,_,_,hl,_⟩
 ·rw[hs] at e
  simp at e
  omega
 ·rw[hs] at e
  simp at e
  simp only[Prod.mk.injEq] at hx
  have:=hw ((elems.length+rest.length)*16) (by rw[hx.1];simp[DataW.weights,Try.underlying22,b16])
  have hr:=reachBytes_lt
  omega
theorem struct_part {t:TypeId} {fs:Array Field} (ht:Try.prog.underlying t=some (.struct fs)) (h:DataW.trod enc Try.prog w 0 (fun _=>true) true fuel t cs=some (d,p)) (hw:∀n∈d.weights Try.prog t,n≤reachBytes) (i:Nat) {f:Field} (hf:fs[i]?=some f) {c:Nat} (hc:Try.prog.cellsOf f.type=c) :
  ∃fuel' d' p',DataW.trod enc Try.prog w 0 (fun _=>true) true fuel' f.type ((cs.drop f.offset).take c)=some (d',p')∧∀n∈d'.weights Try.prog f.type,n≤reachBytes:=by
 obtain⟨xs,n,_,hx,_,hl,hall⟩:=DataW.trod_struct ht h
 simp only[Prod.mk.injEq] at hx
 have hi:i<xs.length:=by rw[hl];exact (Array.getElem?_eq_some_iff.1 hf).1
 have h1:=hall i f hf
 rw[List.getElem?_eq_getElem hi,hc] at h1
 refine⟨n,xs[i].1,xs[i].2,h1,fun m hm=>hw m ?_⟩
 rw[hx.1]
 have e:(DataW.agg (xs.map (·.1)):DataW H).weights Try.prog t=DataW.weightsEach Try.prog (fs.toList.map (·.type)) (xs.map (·.1)):=by
  simp[DataW.weights,ht]
 rw[e]
 refine DataW.weights_mem_each (j:=i) (t:=f.type) (d:=xs[i].1) ?_ ?_ m hm
 ·rw[List.getElem?_map,Array.getElem?_toList,hf];rfl
 ·rw[List.getElem?_map,List.getElem?_eq_getElem hi];rfl
theorem case_len {c:Cv} (h:DataW.trod enc Try.prog w 0 (fun _=>true) true fuel 27 (csv c).toList=some (d,p)) (hw:∀n∈d.weights Try.prog 27,n≤reachBytes) :
  c.known.n≤17592186044416∧c.ao.n≤17592186044416∧c.bo.n≤17592186044416∧c.a.n≤17592186044416∧c.b.n≤17592186044416:=by
 obtain⟨_,_,_,h1,w1⟩:=struct_part Try.underlying27 h hw 1 rfl cPs
 obtain⟨_,_,_,h5,w5⟩:=struct_part Try.underlying27 h hw 5 rfl cIs
 obtain⟨_,_,_,h6,w6⟩:=struct_part Try.underlying27 h hw 6 rfl cIs
 obtain⟨_,_,_,h9,w9⟩:=struct_part Try.underlying27 h hw 9 rfl cPs
 obtain⟨_,_,_,h10,w10⟩:=struct_part Try.underlying27 h hw 10 rfl cPs
 exact⟨slice_lenP h1 w1 c.known rfl,slice_lenP h9 w9 c.ao rfl,slice_lenP h10 w10 c.bo rfl,slice_len h5 w5 c.a rfl,slice_len h6 w6 c.b rfl⟩
end
theorem cU:Try.prog.cellsOf 23=1:=by kernel_rfl
theorem cCs:Try.prog.cellsOf 27=11:=by kernel_rfl
theorem caseR {h:Heap} {fuel:Nat} {cs:Array Value} (hr:rd Try.prog h fuel 27 (Value.agg cs).cells.toList) :
  ∃(v:Cv) (C:Cs),cs=csv v∧CsAt (fun b=>b<h.size) h C v∧(∀p∈C.needs,inI p.1∧inI p.2)∧0≤C.src:=by
 have hl:=rd_len Try.underlying27 hr
 rw[cCs] at hl
 obtain⟨_,r0⟩:=rd_field Try.underlying27 hr 0 rfl cI
 obtain⟨_,r1⟩:=rd_field Try.underlying27 hr 1 rfl cPs
 obtain⟨_,r2⟩:=rd_field Try.underlying27 hr 2 rfl cU
 obtain⟨_,r3⟩:=rd_field Try.underlying27 hr 3 rfl cPs
 obtain⟨_,r4⟩:=rd_field Try.underlying27 hr 4 rfl cTs
 obtain⟨_,r5⟩:=rd_field Try.underlying27 hr 5 rfl cIs
 obtain⟨_,r6⟩:=rd_field Try.underlying27 hr 6 rfl cIs
 obtain⟨_,r7⟩:=rd_field Try.underlying27 hr 7 rfl cI
 obtain⟨_,r8⟩:=rd_field Try.underlying27 hr 8 rfl cI
 obtain⟨_,r9⟩:=rd_field Try.underlying27 hr 9 rfl cPs
 obtain⟨_,r10⟩:=rd_field Try.underlying27 hr 10 rfl cPs
 obtain⟨x0,e0,_⟩:=rd_int Try.underlying3 r0
 obtain⟨s1,l1,e1,h1,_⟩:=pairsR r1
 obtain⟨x2,e2,w2⟩:=rd_int Try.underlying23 r2
 obtain⟨s3,l3,e3,h3,i3⟩:=pairsR r3
 obtain⟨s4,l4,e4,h4⟩:=typesR r4
 obtain⟨s5,l5,e5,h5⟩:=intsR r5
 obtain⟨s6,l6,e6,h6⟩:=intsR r6
 obtain⟨x7,e7,_⟩:=rd_int Try.underlying3 r7
 obtain⟨x8,e8,_⟩:=rd_int Try.underlying3 r8
 obtain⟨s9,l9,e9,h9,_⟩:=pairsR r9
 obtain⟨s10,l10,e10,h10,_⟩:=pairsR r10
 obtain⟨cs⟩:=cs
 simp only[Value.cells] at hl e0 e1 e2 e3 e4 e5 e6 e7 e8 e9 e10
 match cs,hl with
 | [u0,u1,u2,u3,u4,u5,u6,u7,u8,u9,u10],_=>
  simp at e0 e1 e2 e3 e4 e5 e6 e7 e8 e9 e10
  subst e0 e1 e2 e3 e4 e5 e6 e7 e8 e9 e10
  refine⟨⟨x0,s1,x2,s3,s4,s5,s6,x7,x8,s9,s10⟩,⟨x0,l1,x2,l3,l4,l5,l6,x7,x8,l9,l10⟩,rfl,⟨rfl,h1,rfl,h3,h4,IntsQ.of h5 fun b _ hb=>hb,IntsQ.of h6 fun b _ hb=>hb,rfl,rfl,h9,h10⟩,i3,?_⟩
  simp only[Lit.wf,Bool.and_eq_true,decide_eq_true_eq] at w2
  have h1:IntKind.u64.min=0:=rfl
  show 0≤x2
  omega
theorem case_sz {h:Heap} {v:Cv} {C:Cs} (x:CsAt (fun b=>b<h.size) h C v) (hn:∀p∈C.needs,inI p.1∧inI p.2) (h0:0≤C.src) (hl:v.known.n≤17592186044416∧v.ao.n≤17592186044416∧v.bo.n≤17592186044416∧v.a.n≤17592186044416∧v.b.n≤17592186044416):CsSz C:=by
 have:=x.known.len
 have:=x.ao.len
 have:=x.bo.len
 have:=x.a.len
 have:=x.b.len
 exact⟨by omega,by omega,by omega,by omega,by omega,hn,h0⟩
end Go.Proofs.Yteofligmdngdgaa.row
namespace Go.Proofs.Yteofligmdngdgaa.highNoMore
open Go Go.Lf Go.ChangeShapes Go.WideShapes Go.ChangeAt Go.RowKit Go.Proofs.Yteofligmdngdgaa Go.Proofs.Yteofligmdngdgaa.row
set_option maxRecDepth 100000 in
theorem lifted (os:Os) (started:os.Started) (H:Type) (enc:TypeId×Value→H) :
  ReturnsInHanded {} Try.checked os 5 .any (Rows.highNoMoreSpec.pre6 enc Try.prog Try.f5 Rows.highNoMoreRow.domain false) (Rows.highNoMoreSpec.post enc Try.prog Try.f5 false true false false):=by
 refine returnsInHanded_of_change_sized (C:=Try.checked) own started (by kernel_rfl) Try.func5
  (ChangeSpec.witness6 (enc:=enc) (C:=Try.checked) false ⟨#[],#[Value.agg #[Value.int .i64 0,Value.slice (⟨none,0,0⟩:Sv).a (⟨none,0,0⟩:Sv).n (⟨none,0,0⟩:Sv).c,Value.int .u64 0,Value.slice (⟨none,0,0⟩:Sv).a (⟨none,0,0⟩:Sv).n (⟨none,0,0⟩:Sv).c,Value.slice (⟨none,0,0⟩:Sv).a (⟨none,0,0⟩:Sv).n (⟨none,0,0⟩:Sv).c,Value.slice (⟨none,0,0⟩:Sv).a (⟨none,0,0⟩:Sv).n (⟨none,0,0⟩:Sv).c,Value.slice (⟨none,0,0⟩:Sv).a (⟨none,0,0⟩:Sv).n (⟨none,0,0⟩:Sv).c,Value.int .i64 0,Value.int .i64 0,Value.slice (⟨none,0,0⟩:Sv).a (⟨none,0,0⟩:Sv).n (⟨none,0,0⟩:Sv).c,Value.slice (⟨none,0,0⟩:Sv).a (⟨none,0,0⟩:Sv).n (⟨none,0,0⟩:Sv).c]],[]⟩ 8 (by kernel_rfl) (by kernel_rfl) (by kernel_rfl) (by kernel_rfl)) ?_
 intro W base args ds gs before hval0 hW hcnd hsz _
 have hval:∀(j:Nat) t v,Try.f5.params[j]?=some t→args[j]?=some v→Value.okWide Try.prog W .any base t v:=hval0
 have hW':=hW
 obtain⟨p,q,hA0,hV,rfl,hfz,hnd⟩:=hW
 have hA:DataW.TrodAll enc Try.prog W 0 (fun _=>true) true Try.f5.params.toList args.toList ds p:=hA0
 rw[Try.params5] at hA hval
 obtain⟨v0,vs0,d0,ds0,p0,q0,hargs,rfl,rfl,h0,r0⟩:=trodAll_cons hA
 obtain⟨rfl,rfl,rfl⟩:=trodAll_nil r0
 obtain rfl:args=#[v0]:=by cases args;simp_all
 obtain⟨rfl,rfl⟩:=trodVars_none hV
 have hlt:∀x∈p0++[]++[],x.block<W.heap.size:=fun x hx=>hW'.lt x hx
 obtain⟨cs0,hcs0,hsz0⟩:=okWide_str Try.underlying27 (hval 0 27 v0 rfl rfl)
 have hq0:=h0
 obtain⟨fuel0,hf0⟩:=hq0
 have hr0:=trod_rd _ _ _ _ hf0
 rw[hcs0] at hr0
 obtain⟨v,C,hx0,hat,hin,hsrc⟩:=caseR hr0
 clear hr0
 subst hx0;subst hcs0
 have hws:∀n∈d0.weights Try.prog 27,n≤reachBytes:=fun n hn=>by
  have:=List.all_eq_true.1 hsz n (DataW.weights_mem_each (j:=0) (t:=27) (d:=d0) rfl rfl n hn)
  simpa using this
 have hlens:=case_len hf0 hws
 have hwalk:=nomore_walk hat (case_sz hat hin hsrc hlens) W rfl
 refine hwalk.mono fun e W' ⟨v,he,⟨hv,hg⟩,hr⟩=>?_
 subst he;subst hv
 have hb:Below W.heap.size W W':=⟨hr.os,hr.tape,hr.output,hg.size,fun k hk=>hg.same k hk (fun h=>h)⟩
 refine⟨_,rfl,⟨[d0],[],_,[],p0++[],[],hW',?_,?_,?_,hb.frame _,fun h=>by cases h⟩⟩
 ·exact trodAll_cons_mk (shut_bool Try.underlying4 _) trodAll_mk0
 ·exact (trodAll_cons_mk (Below.trod laidOut (by kernel_rfl) (of_decide_eq_true (by kernel_rfl)) h0 hb (fun x hx=>hlt x (by simp[hx]))) trodAll_mk0)
 ·exact rfl
theorem over:Rows.highNoMoreRow.holds Try.pinned (OpenSpec.ofChange Rows.highNoMoreSpec):=
 OpenClaim.holds_of_wide 5 Try.f5 rfl rfl rfl rfl rfl rfl rfl ⟨rfl,rfl,rfl,rfl,rfl⟩ rfl rfl rfl rfl rfl (by kernel_rfl) Try.func5 (by kernel_rfl)
  (of_decide_eq_true (by kernel_rfl)) (by unfold Func.isWrapper;first|(rw[if_pos (by decide +kernel)];kernel_rfl)|(rw[if_neg (by decide +kernel)];exact⟨rfl,rfl⟩))
  (fun os started H enc _=>lifted os started H enc)
theorem proved:Rows.HighNoMoreSaid:=over
#print axioms proved
end Go.Proofs.Yteofligmdngdgaa.highNoMore

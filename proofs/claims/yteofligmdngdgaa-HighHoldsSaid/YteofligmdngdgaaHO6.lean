/- HighHolds: for the arguments that the row allows, where Test says yes there are sets for the own lifetimes. The code it reaches, read as propositions, and what it computes. -/
import Derived.Test.YteofligmdngdgaaHO5
import Derived.Test.YteofligmdngdgaaRows
import Derived.SizedLaws
namespace Go.Proofs.Yteofligmdngdgaa.row
open Go Go.Lf Go.ChangeShapes Go.WideShapes Go.ChangeAt Go.RowKit
theorem own:ownKnob Try.prog.godebug=none:=by kernel_rfl
theorem laidOut:laidOutB Try.prog=true:=by kernel_rfl
theorem cT:Try.prog.cellsOf 35=6:=by kernel_rfl
theorem cIs:Try.prog.cellsOf 25=1:=by kernel_rfl
theorem cTs:Try.prog.cellsOf 24=1:=by kernel_rfl
theorem cI:Try.prog.cellsOf 3=1:=by kernel_rfl
theorem cB:Try.prog.cellsOf 4=1:=by kernel_rfl
theorem cS:Try.prog.cellsOf 9=1:=by kernel_rfl
theorem cPs:Try.prog.cellsOf 22=1:=by kernel_rfl
theorem cP:Try.prog.cellsOf 56=2:=by kernel_rfl
theorem ty25l {h:Heap} {fuel:Nat} {cs:List Value} (hr:rd Try.prog h fuel 35 cs):∃(v:Tv) (y:Ty),cs=(tvs v).toList∧TyAt (fun b=>b<h.size) h y v:=
 ty_rd Try.underlying35 cT ⟨_,rfl,rfl,rfl⟩ ⟨_,rfl,rfl,rfl⟩ ⟨_,rfl,rfl,rfl⟩ ⟨_,rfl,rfl,rfl⟩ ⟨_,rfl,rfl,rfl⟩ ⟨_,rfl,rfl,rfl⟩ Try.underlying3 Try.underlying9 Try.underlying4 Try.underlying25 Try.underlying24 cI cS cB cIs cTs fuel cs hr
theorem inI_wf {x:Int} (hw:(Lit.int .i64 x).wf=true):inI x:=by
 simp only[Lit.wf,Bool.and_eq_true,decide_eq_true_eq] at hw
 have h1:IntKind.i64.min=-9223372036854775808:=rfl
 have h2:IntKind.i64.max=9223372036854775807:=rfl
 unfold inI
 omega
set_option maxRecDepth 100000 in
theorem pairsR {h:Heap} {fuel:Nat} {cs:List Value} (hr:rd Try.prog h fuel 22 cs):∃(s:Sv) (l:List (Int×Int)),cs=[.slice s.a s.n s.c]∧PrQ (fun b=>b<h.size) h s l∧∀p∈l,inI p.1∧inI p.2:=by
 obtain⟨s,rfl⟩:=rd_slice Try.underlying22 hr
 obtain⟨-,hall⟩:=rd_elems Try.underlying22 hr
 have key:∀i,i<s.n→∃o:Int×Int,∃p,s.a=some p∧p.block<h.size∧cl h (p.add (i*2))=some (.int .i64 o.1)∧cl h ((p.add (i*2)).add 1)=some (.int .i64 o.2)∧inI o.1∧inI o.2:=by
  intro i hi
  obtain⟨a,ea,cs',hlen,hcl,fuel',hr'⟩:=hall i hi
  rw[cP] at hlen hcl
  cases fuel' with
  | zero=>exact hr'.elim
  | succ f=>
   unfold rd at hr'
   rw[Try.underlying56] at hr'
   obtain⟨-,h2⟩:=hr'
   have r0:=h2 0 (by omega)
   have r1:=h2 1 (by omega)
   rw[cI] at r0 r1
   obtain⟨x0,e0,w0⟩:=rd_int Try.underlying3 r0
   obtain⟨x1,e1,w1⟩:=rd_int Try.underlying3 r1
   match cs',hlen with
   | [u0,u1],_=>
    simp at e0 e1
    subst e0 e1
    have h0:=hcl 0 (by omega)
    have h1:=hcl 1 (by omega)
    rw[add_zero] at h0
    exact⟨(x0,x1),a,ea,by rw[←add_block a (i*2)];exact cl_lt h0,h0,h1,inI_wf w0,inI_wf w1⟩
 obtain⟨f,hf⟩:=Go.Deep.choose_lt (α:=Int×Int) key
 refine⟨s,(List.range s.n).map f,rfl,⟨by simp,fun i hi=>?_⟩,fun p hp=>?_⟩
 ·have hi':i<s.n:=by simpa using hi
  obtain⟨p,e1,e2,e3,e4,-⟩:=hf i hi'
  exact⟨p,e1,e2,by simpa [hi'] using e3,by simpa [hi'] using e4⟩
 ·obtain⟨i,hi,rfl⟩:=List.mem_map.1 hp
  obtain⟨p,-,-,-,-,e5⟩:=hf i (by simpa using hi)
  exact e5
theorem intsR {h:Heap} {fuel:Nat} {cs:List Value} (hr:rd Try.prog h fuel 25 cs):∃(s:Sv) (l:List Int),cs=[.slice s.a s.n s.c]∧IntsAt h s l:=by
 obtain⟨s,rfl⟩:=rd_slice Try.underlying25 hr
 obtain⟨xs,hx⟩:=rd_ints Try.underlying25 Try.underlying3 cI hr
 exact⟨s,xs,rfl,hx⟩
theorem typesR {h:Heap} {fuel:Nat} {cs:List Value} (hr:rd Try.prog h fuel 24 cs):∃(s:Sv) (bs:List Ty),cs=[.slice s.a s.n s.c]∧TyAt (fun b=>b<h.size) h (tN bs) (tNv s):=by
 obtain⟨s,rfl⟩:=rd_slice Try.underlying24 hr
 obtain⟨-,hall⟩:=rd_elems Try.underlying24 hr
 have key:∀i,i<s.n→∃y:Ty,∃p u,s.a=some p∧p.block<h.size∧Tv6 h (p.add (i*6)) u∧TyAt (fun b=>b<h.size) h y u:=by
  intro i hi
  obtain⟨a,ea,cs',hlen,hcl,fuel',hr'⟩:=hall i hi
  rw[cT] at hlen hcl
  obtain⟨v,y,e,hy⟩:=ty25l hr'
  subst e
  have h0:=hcl 0 (by omega)
  have h1:=hcl 1 (by omega)
  have h2:=hcl 2 (by omega)
  have h3:=hcl 3 (by omega)
  have h4:=hcl 4 (by omega)
  have h5:=hcl 5 (by omega)
  rw[add_zero] at h0
  exact⟨y,a,v,ea,by rw[←add_block a (i*6)];exact cl_lt h0,⟨h0,h1,h2,h3,h4,h5⟩,hy⟩
 have:Inhabited Ty:=⟨tN []⟩
 obtain⟨f,hf⟩:=Go.Deep.choose_lt (α:=Ty) key
 refine⟨s,(List.range s.n).map f,rfl,?_⟩
 refine tyAt_iff.2 ⟨rfl,rfl,rfl,rfl,IntsC.nil _ _,by simp,?_⟩
 intro i hi
 have hi':i<s.n:=by simpa using hi
 obtain⟨p,u,e1,e2,e3,e4⟩:=hf i hi'
 exact⟨p,u,e1,e2,e3,by simpa [hi'] using e4⟩
section
variable {H:Type} {enc:TypeId×Value→H} {w:World} {fuel:Nat} {cs:List Value} {d:DataW H} {p:List MemPlace}
theorem b8:Try.prog.bytesOf 3=8:=by kernel_rfl
theorem slice_len (h:DataW.trod enc Try.prog w 0 (fun _=>true) true fuel 25 cs=some (d,p)) (hw:∀n∈d.weights Try.prog 25,n≤reachBytes):∀s:Sv,cs=[.slice s.a s.n s.c]→s.n≤17592186044416:=by
 intro s hs
 rcases DataW.trod_slice Try.underlying25 h with⟨e,_⟩|⟨a,len,cap,elems,rest,n,_,e,hx,_,_,_,hl,_⟩
 ·rw[hs] at e
  simp at e
  omega
 ·rw[hs] at e
  simp at e
  simp only[Prod.mk.injEq] at hx
  have:=hw ((elems.length+rest.length)*8) (by rw[hx.1];simp[DataW.weights,Try.underlying25,b8])
  have hr:=reachBytes_lt
  omega
theorem b16:Try.prog.bytesOf 56=16:=by kernel_rfl
theorem slice_lenP (h:DataW.trod enc Try.prog w 0 (fun _=>true) true fuel 22 cs=some (d,p)) (hw:∀n∈d.weights Try.prog 22,n≤reachBytes):∀s:Sv,cs=[.slice s.a s.n s.c]→s.n≤17592186044416:=by
 intro s hs
 rcases DataW.trod_slice Try.underlying22 h with⟨e,_⟩|⟨a,len,cap,elems,rest,n,_,e,hx,_,_,_,hl,_⟩
 ·rw[hs] at e
  simp at e
  omega
 ·rw[hs] at e
  simp at e
  simp only[Prod.mk.injEq] at hx
  have:=hw ((elems.length+rest.length)*16) (by rw[hx.1];simp[DataW.weights,Try.underlying22,b16])
  have hr:=reachBytes_lt
  omega
theorem struct_part {t:TypeId} {fs:Array Field} (ht:Try.prog.underlying t=some (.struct fs)) (h:DataW.trod enc Try.prog w 0 (fun _=>true) true fuel t cs=some (d,p)) (hw:∀n∈d.weights Try.prog t,n≤reachBytes) (i:Nat) {f:Field} (hf:fs[i]?=some f) {c:Nat} (hc:Try.prog.cellsOf f.type=c) :
  ∃fuel' d' p',DataW.trod enc Try.prog w 0 (fun _=>true) true fuel' f.type ((cs.drop f.offset).take c)=some (d',p')∧∀n∈d'.weights Try.prog f.type,n≤reachBytes:=by
 obtain⟨xs,n,_,hx,_,hl,hall⟩:=DataW.trod_struct ht h
 simp only[Prod.mk.injEq] at hx
 have hi:i<xs.length:=by rw[hl];exact (Array.getElem?_eq_some_iff.1 hf).1
 have h1:=hall i f hf
 rw[List.getElem?_eq_getElem hi,hc] at h1
 refine⟨n,xs[i].1,xs[i].2,h1,fun m hm=>hw m ?_⟩
 rw[hx.1]
 have e:(DataW.agg (xs.map (·.1)):DataW H).weights Try.prog t=DataW.weightsEach Try.prog (fs.toList.map (·.type)) (xs.map (·.1)):=by
  simp[DataW.weights,ht]
 rw[e]
 refine DataW.weights_mem_each (j:=i) (t:=f.type) (d:=xs[i].1) ?_ ?_ m hm
 ·rw[List.getElem?_map,Array.getElem?_toList,hf];rfl
 ·rw[List.getElem?_map,List.getElem?_eq_getElem hi];rfl
theorem case_len {c:Cv} (h:DataW.trod enc Try.prog w 0 (fun _=>true) true fuel 27 (csv c).toList=some (d,p)) (hw:∀n∈d.weights Try.prog 27,n≤reachBytes) :
  c.known.n≤17592186044416∧c.ao.n≤17592186044416∧c.bo.n≤17592186044416∧c.a.n≤17592186044416∧c.b.n≤17592186044416:=by
 obtain⟨_,_,_,h1,w1⟩:=struct_part Try.underlying27 h hw 1 rfl cPs
 obtain⟨_,_,_,h5,w5⟩:=struct_part Try.underlying27 h hw 5 rfl cIs
 obtain⟨_,_,_,h6,w6⟩:=struct_part Try.underlying27 h hw 6 rfl cIs
 obtain⟨_,_,_,h9,w9⟩:=struct_part Try.underlying27 h hw 9 rfl cPs
 obtain⟨_,_,_,h10,w10⟩:=struct_part Try.underlying27 h hw 10 rfl cPs
 exact⟨slice_lenP h1 w1 c.known rfl,slice_lenP h9 w9 c.ao rfl,slice_lenP h10 w10 c.bo rfl,slice_len h5 w5 c.a rfl,slice_len h6 w6 c.b rfl⟩
end
theorem cU:Try.prog.cellsOf 23=1:=by kernel_rfl
theorem cCs:Try.prog.cellsOf 27=11:=by kernel_rfl
theorem caseR {h:Heap} {fuel:Nat} {cs:Array Value} (hr:rd Try.prog h fuel 27 (Value.agg cs).cells.toList) :
  ∃(v:Cv) (C:Cs),cs=csv v∧CsAt (fun b=>b<h.size) h C v∧(∀p∈C.needs,inI p.1∧inI p.2)∧0≤C.src:=by
 have hl:=rd_len Try.underlying27 hr
 rw[cCs] at hl
 obtain⟨_,r0⟩:=rd_field Try.underlying27 hr 0 rfl cI
 obtain⟨_,r1⟩:=rd_field Try.underlying27 hr 1 rfl cPs
 obtain⟨_,r2⟩:=rd_field Try.underlying27 hr 2 rfl cU
 obtain⟨_,r3⟩:=rd_field Try.underlying27 hr 3 rfl cPs
 obtain⟨_,r4⟩:=rd_field Try.underlying27 hr 4 rfl cTs
 obtain⟨_,r5⟩:=rd_field Try.underlying27 hr 5 rfl cIs
 obtain⟨_,r6⟩:=rd_field Try.underlying27 hr 6 rfl cIs
 obtain⟨_,r7⟩:=rd_field Try.underlying27 hr 7 rfl cI
 obtain⟨_,r8⟩:=rd_field Try.underlying27 hr 8 rfl cI
 obtain⟨_,r9⟩:=rd_field Try.underlying27 hr 9 rfl cPs
 obtain⟨_,r10⟩:=rd_field Try.underlying27 hr 10 rfl cPs
 obtain⟨x0,e0,_⟩:=rd_int Try.underlying3 r0
 obtain⟨s1,l1,e1,h1,_⟩:=pairsR r1
 obtain⟨x2,e2,w2⟩:=rd_int Try.underlying23 r2
 obtain⟨s3,l3,e3,h3,i3⟩:=pairsR r3
 obtain⟨s4,l4,e4,h4⟩:=typesR r4
 obtain⟨s5,l5,e5,h5⟩:=intsR r5
 obtain⟨s6,l6,e6,h6⟩:=intsR r6
 obtain⟨x7,e7,_⟩:=rd_int Try.underlying3 r7
 obtain⟨x8,e8,_⟩:=rd_int Try.underlying3 r8
 obtain⟨s9,l9,e9,h9,_⟩:=pairsR r9
 obtain⟨s10,l10,e10,h10,_⟩:=pairsR r10
 obtain⟨cs⟩:=cs
 simp only[Value.cells] at hl e0 e1 e2 e3 e4 e5 e6 e7 e8 e9 e10
 match cs,hl with
 | [u0,u1,u2,u3,u4,u5,u6,u7,u8,u9,u10],_=>
  simp at e0 e1 e2 e3 e4 e5 e6 e7 e8 e9 e10
  subst e0 e1 e2 e3 e4 e5 e6 e7 e8 e9 e10
  refine⟨⟨x0,s1,x2,s3,s4,s5,s6,x7,x8,s9,s10⟩,⟨x0,l1,x2,l3,l4,l5,l6,x7,x8,l9,l10⟩,rfl,⟨rfl,h1,rfl,h3,h4,IntsQ.of h5 fun b _ hb=>hb,IntsQ.of h6 fun b _ hb=>hb,rfl,rfl,h9,h10⟩,i3,?_⟩
  simp only[Lit.wf,Bool.and_eq_true,decide_eq_true_eq] at w2
  have h1:IntKind.u64.min=0:=rfl
  show 0≤x2
  omega
theorem case_sz {h:Heap} {v:Cv} {C:Cs} (x:CsAt (fun b=>b<h.size) h C v) (hn:∀p∈C.needs,inI p.1∧inI p.2) (h0:0≤C.src) (hl:v.known.n≤17592186044416∧v.ao.n≤17592186044416∧v.bo.n≤17592186044416∧v.a.n≤17592186044416∧v.b.n≤17592186044416):CsSz C:=by
 have:=x.known.len
 have:=x.ao.len
 have:=x.bo.len
 have:=x.a.len
 have:=x.b.len
 exact⟨by omega,by omega,by omega,by omega,by omega,hn,h0⟩
end Go.Proofs.Yteofligmdngdgaa.row
namespace Go.Proofs.Yteofligmdngdgaa.row
open Go Go.Lf Go.ChangeShapes Go.WideShapes Go.ChangeAt Go.RowKit
theorem c8U:Try.prog.cellsOf 43=8:=by kernel_rfl
theorem u64_wf {x:Int} (hw:(Lit.int .u64 x).wf=true):0≤x:=by
 simp only[Lit.wf,Bool.and_eq_true,decide_eq_true_eq] at hw
 have h1:IntKind.u64.min=0:=rfl
 omega
theorem arr8R {h:Heap} {fuel:Nat} {cs:Array Value} (hr:rd Try.prog h fuel 43 (Value.agg cs).cells.toList) :
  ∃b0 b1 b2 b3 b4 b5 b6 b7:Int,cs=#[.int .u64 b0,.int .u64 b1,.int .u64 b2,.int .u64 b3,.int .u64 b4,.int .u64 b5,.int .u64 b6,.int .u64 b7]∧∀b∈[b0,b1,b2,b3,b4,b5,b6,b7],0≤b:=by
 have hl:=rd_alen Try.underlying43 hr
 rw[c8U] at hl
 have key:∀i,i<8→∃x:Int,0≤x∧((Value.agg cs).cells.toList.drop (i*1)).take 1=[.int .u64 x]:=by
  intro i hi
  obtain⟨_,r⟩:=rd_at Try.underlying43 hr i hi cU
  obtain⟨x,e,w⟩:=rd_int Try.underlying23 r
  exact⟨x,u64_wf w,e⟩
 obtain⟨b0,n0,e0⟩:=key 0 (by omega)
 obtain⟨b1,n1,e1⟩:=key 1 (by omega)
 obtain⟨b2,n2,e2⟩:=key 2 (by omega)
 obtain⟨b3,n3,e3⟩:=key 3 (by omega)
 obtain⟨b4,n4,e4⟩:=key 4 (by omega)
 obtain⟨b5,n5,e5⟩:=key 5 (by omega)
 obtain⟨b6,n6,e6⟩:=key 6 (by omega)
 obtain⟨b7,n7,e7⟩:=key 7 (by omega)
 change cs.toList.length=8 at hl
 change (cs.toList.drop _).take 1=_ at e0 e1 e2 e3 e4 e5 e6 e7
 refine⟨b0,b1,b2,b3,b4,b5,b6,b7,?_,by simp;omega⟩
 rcases cs with⟨l⟩
 match l,hl with
 | [u0,u1,u2,u3,u4,u5,u6,u7],_=>
  simp at e0 e1 e2 e3 e4 e5 e6 e7
  subst e0 e1 e2 e3 e4 e5 e6 e7
  rfl
end Go.Proofs.Yteofligmdngdgaa.row
namespace Go.Proofs.Yteofligmdngdgaa.highHolds
open Go Go.Lf Go.ChangeShapes Go.WideShapes Go.ChangeAt Go.RowKit Go.Proofs.Yteofligmdngdgaa Go.Proofs.Yteofligmdngdgaa.row
set_option maxRecDepth 100000 in
theorem lifted (os:Os) (started:os.Started) (H:Type) (enc:TypeId×Value→H) :
  ReturnsInHanded {} Try.checked os 4 .any (Rows.highHoldsSpec.pre6 enc Try.prog Try.f4 Rows.highHoldsRow.domain false) (Rows.highHoldsSpec.post enc Try.prog Try.f4 false true false false):=by
 refine returnsInHanded_of_change_sized (C:=Try.checked) own started (by kernel_rfl) Try.func4
  (ChangeSpec.witness6 (enc:=enc) (C:=Try.checked) false ⟨#[],#[Value.agg #[Value.int .i64 0,Value.slice (⟨none,0,0⟩:Sv).a (⟨none,0,0⟩:Sv).n (⟨none,0,0⟩:Sv).c,Value.int .u64 0,Value.slice (⟨none,0,0⟩:Sv).a (⟨none,0,0⟩:Sv).n (⟨none,0,0⟩:Sv).c,Value.slice (⟨none,0,0⟩:Sv).a (⟨none,0,0⟩:Sv).n (⟨none,0,0⟩:Sv).c,Value.slice (⟨none,0,0⟩:Sv).a (⟨none,0,0⟩:Sv).n (⟨none,0,0⟩:Sv).c,Value.slice (⟨none,0,0⟩:Sv).a (⟨none,0,0⟩:Sv).n (⟨none,0,0⟩:Sv).c,Value.int .i64 0,Value.int .i64 0,Value.slice (⟨none,0,0⟩:Sv).a (⟨none,0,0⟩:Sv).n (⟨none,0,0⟩:Sv).c,Value.slice (⟨none,0,0⟩:Sv).a (⟨none,0,0⟩:Sv).n (⟨none,0,0⟩:Sv).c],Value.agg #[Value.int .u64 0,Value.int .u64 0,Value.int .u64 0,Value.int .u64 0,Value.int .u64 0,Value.int .u64 0,Value.int .u64 0,Value.int .u64 0]],[]⟩ 8 (by kernel_rfl) (by kernel_rfl) (by kernel_rfl) (by kernel_rfl)) ?_
 intro W base args ds gs before hval0 hW hcnd hsz _
 have hval:∀(j:Nat) t v,Try.f4.params[j]?=some t→args[j]?=some v→Value.okWide Try.prog W .any base t v:=hval0
 have hW':=hW
 obtain⟨p,q,hA0,hV,rfl,hfz,hnd⟩:=hW
 have hA:DataW.TrodAll enc Try.prog W 0 (fun _=>true) true Try.f4.params.toList args.toList ds p:=hA0
 rw[Try.params4] at hA hval
 obtain⟨v0,vs0,d0,ds0,p0,q0,hargs,rfl,rfl,h0,r0⟩:=trodAll_cons hA
 obtain⟨v1,vs1,d1,ds1,p1,q1,rfl,rfl,rfl,h1,r1⟩:=trodAll_cons r0
 obtain⟨rfl,rfl,rfl⟩:=trodAll_nil r1
 obtain rfl:args=#[v0,v1]:=by cases args;simp_all
 obtain⟨rfl,rfl⟩:=trodVars_none hV
 have hlt:∀x∈p0++(p1++[])++[],x.block<W.heap.size:=fun x hx=>hW'.lt x hx
 obtain⟨cs0,hcs0,hsz0⟩:=okWide_str Try.underlying27 (hval 0 27 v0 rfl rfl)
 have hq0:=h0
 obtain⟨fuel0,hf0⟩:=hq0
 have hr0:=trod_rd _ _ _ _ hf0
 rw[hcs0] at hr0
 obtain⟨v,C,hx0,hat,hin,hsrc⟩:=caseR hr0
 clear hr0
 subst hx0;subst hcs0
 have hws:∀n∈d0.weights Try.prog 27,n≤reachBytes:=fun n hn=>by
  have:=List.all_eq_true.1 hsz n (DataW.weights_mem_each (j:=0) (t:=27) (d:=d0) rfl rfl n hn)
  simpa using this
 have hlens:=case_len hf0 hws
 obtain⟨cs1,hcs1,hsz1⟩:=okWide_arr Try.underlying43 (hval 1 43 v1 rfl rfl)
 have hq1:=h1
 obtain⟨fuel1,hf1⟩:=hq1
 have hr1:=trod_rd _ _ _ _ hf1
 rw[hcs1] at hr1
 obtain⟨b0,b1,b2,b3,b4,b5,b6,b7,hx1,hu1⟩:=arr8R hr1
 clear hr1
 subst hx1;subst hcs1
 have hwalk:=holds_walk hat (case_sz hat hin hsrc hlens) b0 b1 b2 b3 b4 b5 b6 b7 hu1 W rfl
 refine hwalk.mono fun e W' ⟨v,he,⟨hv,hg⟩,hr⟩=>?_
 subst he;subst hv
 have hb:Below W.heap.size W W':=⟨hr.os,hr.tape,hr.output,hg.size,fun k hk=>hg.same k hk (fun h=>h)⟩
 refine⟨_,rfl,⟨[d0,d1],[],_,[],p0++(p1++[]),[],hW',?_,?_,?_,hb.frame _,fun h=>by cases h⟩⟩
 ·exact trodAll_cons_mk (shut_bool Try.underlying4 _) trodAll_mk0
 ·exact (trodAll_cons_mk (Below.trod laidOut (by kernel_rfl) (of_decide_eq_true (by kernel_rfl)) h0 hb (fun x hx=>hlt x (by simp[hx]))) (trodAll_cons_mk (Below.trod laidOut (by kernel_rfl) (of_decide_eq_true (by kernel_rfl)) h1 hb (fun x hx=>hlt x (by simp[hx]))) trodAll_mk0))
 ·exact rfl
theorem over:Rows.highHoldsRow.holds Try.pinned (OpenSpec.ofChange Rows.highHoldsSpec):=
 OpenClaim.holds_of_wide 4 Try.f4 rfl rfl rfl rfl rfl rfl rfl ⟨rfl,rfl,rfl,rfl,rfl⟩ rfl rfl rfl rfl rfl (by kernel_rfl) Try.func4 (by kernel_rfl)
  (of_decide_eq_true (by kernel_rfl)) (by unfold Func.isWrapper;first|(rw[if_pos (by decide +kernel)];kernel_rfl)|(rw[if_neg (by decide +kernel)];exact⟨rfl,rfl⟩))
  (fun os started H enc _=>lifted os started H enc)
theorem proved:Rows.HighHoldsSaid:=over
#print axioms proved
end Go.Proofs.Yteofligmdngdgaa.highHolds

/- HighNoMore: where the program says that one function does not do for another one, and the types do, there are sets of regions, with all that is known, for which none for the one's own lifetimes will do: proved for every input, with no conditions. -/
import Derived.Test.YteofligmdngdgaaNM4
namespace Go.Proofs.Yteofligmdngdgaa
open Go Go.Lf
set_option linter.unusedVariables false
section
variable {Q:Nat→Prop} {h:Heap}
theorem pairs_spec {w:Option Nat} {ws:List (ByteArray×List Int)} (a b:Ty) (n:Nat) (hn:n≤8) (hsm:small n a=true) (v v':Tv) (h:Heap) (hv:TyAt (fun b=>b<h.size) h a v) (hv':TyAt (fun b=>b<h.size) h b v') (hw:WaysAt (fun b=>b<h.size) h w ws) :
  CallsH Try.prog 46 #[.map w,.agg (tvs v),.agg (tvs v')] h (fun x h'=>Grow h h'∧((same a b=true∧∃s:Sv,x=.tuple #[.slice s.a s.n s.c,.bool true]∧Own h' h.size 2 s (prs (seeL (ofW ws) a 1 b)))∨(same a b=false∧x=.tuple #[.slice none 0 0,.bool false]))):=by
 apply F46
 unfold L46
 refine new6 (v:=v) fun h1 b1 f1 _=>new6 (v:=v') fun h2 b2 f2 z2=>?_
 have g2:Grow h h2:=f1.trans f2
 have B1:=f2.blk b1 (fun h=>h)
 refine rd6 (Tv6.blk B1) (rd6 (Tv6.blk b2) ?_)
 refine cal_of (same_spec a b n (by omega) hsm v v' h2 (hv.grow g2) (hv'.grow g2)) ?_
 rintro _ h3 ⟨f3,rfl⟩
 refine⟨_,rfl,fun e=>⟨g2.trans f3,.inr ⟨by simpa using e,rfl⟩⟩,fun e=>?_⟩
 have hs:same a b=true:=by simpa using e
 have g3:=g2.trans f3
 rintro p15 h4 rfl rfl
 have f4:Grow h3 (h3.push (.cells #[Value.map w,Value.slice (⟨none,0,0⟩:Sv).a (⟨none,0,0⟩:Sv).n (⟨none,0,0⟩:Sv).c] 106)):=Fr.push _ _ _
 have b4:=blk.new h3 #[Value.map w,Value.slice (⟨none,0,0⟩:Sv).a (⟨none,0,0⟩:Sv).n (⟨none,0,0⟩:Sv).c] 106
 have g4:=g3.trans f4
 refine rd6 (Tv6.blk ((f3.trans f4).blk B1 (fun h=>h))) (rd6 (Tv6.blk ((f3.trans f4).blk b2 (fun h=>h))) ?_)
 have hQ:∀b,b<h.size→b<h.size→b<h3.size:=fun b h1 _=>by have:=g3.size;omega
 have hb:=bnd8 hn
 refine cal_of (see_spec (B:=h3.size+1) (pb:=h3.size) (w:=w) (ws:=ws) a b n hsm hs v v' _ ⟨none,0,0⟩ [] 1 ((hv.weak hQ).grow g4) ((hv'.weak hQ).grow g4) ((hw.weak hQ).fr g4 fun _ _ h=>h) ⟨b4,Own.nil _ _ _,by omega,by simp⟩ (by simp;omega)) ?_
 rintro _ h5 ⟨s5,p5,f5,o5⟩
 have g5:Grow h h5:=g4.trans' f5 fun i hi e=>by
  have:=g3.size
  rcases e with e|⟨a,e,_⟩
  ·omega
  ·cases e
 refine⟨s5,by rw[add_plain,p5.box.cl];rfl,g5,.inl ⟨hs,s5,rfl,?_⟩⟩
 have o:=p5.own
 refine⟨o.len,o.mem.imp id ?_⟩
 rintro ⟨g,cur,q1,q2,q3⟩
 exact⟨g,cur,q1,by have:=g3.size;omega,q3⟩
end
end Go.Proofs.Yteofligmdngdgaa
namespace Go.Proofs.Yteofligmdngdgaa
open Go Go.Lf
set_option linter.unusedVariables false
section
variable {Q:Nat→Prop} {h:Heap}
structure USAt (h:Heap) (s:Sv) (bs:List Int):Prop where
 len:s.n=bs.length
 at_:∀i (hi:i<bs.length),∃p,s.a=some p∧cl h (p.add (i*1))=some (.int .u64 bs[i])
def relB (bs:List Int) (x y:Int):Bool:=decide (0≤x) && decide (0≤y) && (match bs[x.toNat]?,bs[y.toNat]? with
 | some a,some b=>bitsI .andNot .u64 b a == 0
 | _,_=>false)
theorem relB_x {bs:List Int} {x y:Int} (h:x<0):relB bs x y=false:=by unfold relB;rw[decide_eq_false (by omega)];rfl
theorem relB_y {bs:List Int} {x y:Int} (h:y<0):relB bs x y=false:=by unfold relB;rw[decide_eq_false (p:=0≤y) (by omega)];simp
theorem relB_xn {bs:List Int} {x y:Int} (h:(bs.length:Int)≤x):relB bs x y=false:=by
 unfold relB;rw[List.getElem?_eq_none (l:=bs) (i:=x.toNat) (by omega)];simp
theorem relB_yn {bs:List Int} {x y:Int} (h:(bs.length:Int)≤y):relB bs x y=false:=by
 unfold relB;rw[List.getElem?_eq_none (l:=bs) (i:=y.toNat) (by omega)];cases bs[x.toNat]?<;>simp
theorem outlive_spec {B:Nat} {s s':Sv} {L:List (Int×Int)} {bs:List Int} (o:Own h B 2 s (prs L)) (u:USAt h s' bs) (hL:L.length≤1000000000000) :
  CallsH Try.prog 13 #[.slice s.a s.n s.c,.slice s'.a s'.n s'.c] h (fun x h'=>h=h'∧x=.bool (L.all fun p=>relB bs p.1 p.2)):=by
 apply F13
 unfold L13
 have hn:s.n=L.length:=by have:=o.len;rw[prs_len] at this;omega
 rw[hn,u.len]
 refine⟨fun i=>∃j:Nat,i=j∧j≤L.length∧(L.take j).all (fun p=>relB bs p.1 p.2)=true,fun i=>L.length - i.toNat,⟨0,rfl,Nat.zero_le _,rfl⟩,?_⟩
 rintro _ ⟨j,rfl,hj,ha⟩
 refine ifb_iff (q:=j<L.length) (by simp) (fun hlt=>?_) (fun hge=>?_)
 rotate_left
 ·have:j=L.length:=by omega
  subst this
  rw[List.take_length] at ha
  exact⟨rfl,by rw[ha]⟩
 have hr:=o.row
 rcases o.mem with⟨_,e,_⟩|⟨g,cur,ea,_⟩
 ·omega
 rw[ea] at hr
 obtain⟨c1,c2⟩:=prs_get L j hlt
 refine⟨_,ea,by omega,by rw[hn];omega,L[j].1,by rw[Int.toNat_natCast];exact hr _ _ c1,_,ea,by omega,by rw[hn];omega,L[j].2,?_,?_⟩
 ·rw[Int.toNat_natCast,add_plain,add_plain]
  have:=hr _ _ c2
  rw[add_plain] at this
  rw[show 0+j*2+1=0+(j*2+1) by omega]
  exact this
 generalize hx:L[j].1=x
 generalize hy:L[j].2=y
 refine⟨fun b=>b=!relB bs x y,?_,?_⟩
 ·refine ifb_dec (fun h1=>?_) (fun h1=>?_)
  ·exact⟨fun _=>⟨fun _=>⟨fun _=>by rw[relB_x h1];rfl,fun e=>(by cases e)⟩,fun e=>(by cases e)⟩,fun e=>(by cases e)⟩
  refine ifb_dec (fun h2=>?_) (fun h2=>?_)
  ·exact⟨fun _=>⟨fun _=>by rw[relB_y h2];rfl,fun e=>(by cases e)⟩,fun e=>(by cases e)⟩
  refine ifb_dec (fun h3=>?_) (fun h3=>?_)
  ·exact⟨fun _=>by rw[relB_xn h3];rfl,fun e=>(by cases e)⟩
  refine ifb_dec (fun h4=>?_) (fun h4=>?_)
  ·rw[relB_yn h4];rfl
  obtain⟨x,rfl⟩:=Int.eq_ofNat_of_zero_le (show 0≤x by omega)
  obtain⟨y,rfl⟩:=Int.eq_ofNat_of_zero_le (show 0≤y by omega)
  have hx':x<bs.length:=by omega
  have hy':y<bs.length:=by omega
  obtain⟨p,e1,d1⟩:=u.at_ x hx'
  obtain⟨q,e2,d2⟩:=u.at_ y hy'
  refine⟨q,e2,by omega,by rw[u.len];omega,bs[y],by rw[Int.toNat_natCast];exact d2,p,e1,by omega,by rw[u.len];omega,bs[x],by rw[Int.toNat_natCast];exact d1,?_⟩
  unfold relB
  rw[decide_eq_true (p:=0≤(x:Int)) (by omega),decide_eq_true (p:=0≤(y:Int)) (by omega),Int.toNat_natCast,Int.toNat_natCast,List.getElem?_eq_getElem hx',List.getElem?_eq_getElem hy']
  rfl
 ·rintro _ rfl
  refine⟨fun e=>⟨rfl,?_⟩,fun e=>?_⟩
  ·have e':relB bs x y=false:=by simpa using e
   congr 1
   symm
   rw[List.all_eq_false]
   exact⟨_,List.getElem_mem hlt,by rw[hx,hy,e'];simp⟩
  ·have e':relB bs x y=true:=by simpa using e
   rw[wrap_succ hlt (by omega)]
   refine⟨⟨j+1,rfl,hlt,?_⟩,by simp;omega⟩
   rw[List.take_add_one,List.getElem?_eq_getElem hlt,List.all_append,ha]
   simp[hx,hy,e']
end
end Go.Proofs.Yteofligmdngdgaa
namespace Go.Proofs.Yteofligmdngdgaa
open Go Go.Lf
set_option linter.unusedVariables false
structure RelOk (br bo c:Nat) (rb:Nat→Nat) (n:Nat) (m:Nat→Nat→Bool) (h:Heap):Prop where
 st:blk h br #[.int .i64 n,.slice (some ⟨bo,0,none⟩) (n+1) c]
 out:∃cs:Array Value,blk h bo cs∧∀i,i≤n→∃cr,cs[i]?=some (.slice (some ⟨rb i,0,none⟩) (n+1) cr)
 row:∀i,i≤n→∃cs:Array Value,blk h (rb i) cs∧∀j,j≤n→cs[j]?=some (.bool (m i j))
 ne:br≠bo
 ner:∀i,i≤n→rb i≠br∧rb i≠bo
 inj:∀i j,i≤n→j≤n→rb i=rb j→i=j
def RelB (br bo:Nat) (rb:Nat→Nat) (n:Nat) (b:Nat):Prop:=b=br∨b=bo∨∃i,i≤n∧b=rb i
theorem RelOk.frame {br bo c rb n m h h'} {T:Nat→Prop} (x:RelOk br bo c rb n m h) (f:Fr T h h') (hT:∀b,RelB br bo rb n b→¬T b):RelOk br bo c rb n m h':=by
 refine⟨f.blk x.st (hT _ (.inl rfl)),?_,fun i hi=>?_,x.ne,x.ner,x.inj⟩
 ·obtain⟨cs,k,r⟩:=x.out
  exact⟨cs,f.blk k (hT _ (.inr (.inl rfl))),r⟩
 ·obtain⟨cs,k,r⟩:=x.row i hi
  exact⟨cs,f.blk k (hT _ (.inr (.inr ⟨i,hi,rfl⟩))),r⟩
theorem RelOk.cn {br bo c rb n m h} (x:RelOk br bo c rb n m h):cl h ⟨br,0,none⟩=some (.int .i64 n):=by rw[x.st.cl];rfl
theorem RelOk.co {br bo c rb n m h} (x:RelOk br bo c rb n m h):cl h ⟨br,1,none⟩=some (.slice (some ⟨bo,0,none⟩) (n+1) c):=by rw[x.st.cl];rfl
theorem RelOk.cr {br bo c rb n m h} (x:RelOk br bo c rb n m h) (i:Nat) (hi:i≤n):∃cr,cl h ⟨bo,i,none⟩=some (.slice (some ⟨rb i,0,none⟩) (n+1) cr):=by
 obtain⟨cs,k,r⟩:=x.out
 obtain⟨cr,e⟩:=r i hi
 exact⟨cr,by rw[k.cl];exact e⟩
theorem RelOk.cb {br bo c rb n m h} (x:RelOk br bo c rb n m h) (i j:Nat) (hi:i≤n) (hj:j≤n):cl h ⟨rb i,j,none⟩=some (.bool (m i j)):=by
 obtain⟨cs,k,r⟩:=x.row i hi
 rw[k.cl,r j hj]
theorem RelOk.lt {br bo c rb n m h} (x:RelOk br bo c rb n m h) {b:Nat} (hb:RelB br bo rb n b):b<h.size:=by
 rcases hb with rfl|rfl|⟨i,hi,rfl⟩
 ·exact x.st.lt
 ·obtain⟨cs,k,_⟩:=x.out;exact k.lt
 ·obtain⟨cs,k,_⟩:=x.row i hi;exact k.lt
theorem RelOk.set {br bo c rb n m h} (x:RelOk br bo c rb n m h) (i j:Nat) (hi:i≤n) (hj:j≤n) (v:Bool) :
  RelOk br bo c rb n (fun a b=>if a=i∧b=j then v else m a b) (sc h ⟨rb i,j,none⟩ (.bool v)):=by
 have hne:=x.ner i hi
 refine⟨x.st.scne (by exact hne.1) _,?_,fun k hk=>?_,x.ne,x.ner,x.inj⟩
 ·obtain⟨cs,k,r⟩:=x.out
  exact⟨cs,k.scne (by exact hne.2) _,r⟩
 ·obtain⟨cs,kk,r⟩:=x.row k hk
  by_cases e:k=i
  ·subst e
   refine⟨_,kk.sc j _,fun b hb=>?_⟩
   rw[Array.getElem?_setIfInBounds]
   by_cases e:j=b
   ·subst e
    have hlt:j<cs.size:=(Array.getElem?_eq_some_iff.1 (r j hj)).1
    simp[hlt]
   ·have e':¬b=j:=fun h=>e h.symm
    simp[e,e',r b hb]
  ·refine⟨cs,kk.scne (fun h=>e (x.inj _ _ hk hi h.symm)) _,fun b hb=>?_⟩
   simp[e,r b hb]
section
variable {br bo c:Nat} {rb:Nat→Nat} {n:Nat} {m:Nat→Nat→Bool} {h:Heap}
theorem known_spec {r:Addr} {n:Int} (hc:cl h r=some (.int .i64 n)) (a:Int):CallsH Try.prog 45 #[.pointer (some r),.int .i64 a] h (fun v h'=>h=h'∧v=.bool (decide (0≤a∧a≤n))):=by
 apply F45
 unfold L45
 refine⟨fun b=>b=decide (0≤a∧a≤n),⟨fun hb=>?_,fun hb=>?_⟩,?_⟩
 ·refine nn_i (ldI_i hc ?_)
  have h0:0≤a:=by simpa using hb
  simp[h0]
 ·have h0:¬0≤a:=by simpa using hb
  simp[h0]
 ·rintro b rfl
  exact⟨rfl,rfl⟩
theorem has_spec (x:RelOk br bo c rb n m h) (a b:Int):CallsH Try.prog 51 #[.pointer (some ⟨br,0,none⟩),.int .i64 a,.int .i64 b] h (fun v h'=>h=h'∧v=.bool (hasM n m a b)):=by
 apply F51
 unfold L51
 refine cal_of (known_spec x.cn a) ?_
 rintro _ _ ⟨rfl,rfl⟩
 refine⟨_,rfl,fun b' h'=>h=h'∧b'=(inR n a && inR n b),⟨fun ha=>?_,fun ha=>⟨rfl,?_⟩⟩,?_⟩
 ·refine cal_of (known_spec x.cn b) ?_
  rintro _ _ ⟨rfl,rfl⟩
  exact⟨_,rfl,rfl,by simp[inR] at ha ⊢;omega⟩
 ·simp[inR] at ha ⊢;omega
 ·rintro _ _ ⟨rfl,rfl⟩
  refine⟨fun b'=>b'=hasM n m a b,⟨fun hb=>?_,fun hb=>?_⟩,?_⟩
  ·simp only[inR,Bool.and_eq_true,decide_eq_true_eq] at hb
   obtain⟨i,rfl⟩:=Int.eq_ofNat_of_zero_le hb.1.1
   obtain⟨j,rfl⟩:=Int.eq_ofNat_of_zero_le hb.2.1
   have hi:i≤n:=by omega
   have hj:j≤n:=by omega
   obtain⟨cr,hr⟩:=x.cr i hi
   refine nn_i ?_
   simp only[add_plain,Nat.zero_add,Int.toNat_natCast,Nat.mul_one]
   refine ldS_i (s:=⟨_,_,_⟩) x.co (ixS_i rfl (by omega) (by show (i:Int)<((n+1:Nat):Int);omega) ?_)
   simp only[add_plain,Nat.zero_add]
   refine ldS_i (s:=⟨_,_,_⟩) hr (ixS_i rfl (by omega) (by show (j:Int)<((n+1:Nat):Int);omega) ?_)
   simp only[add_plain,Nat.zero_add]
   refine ldB_i (x.cb i j hi hj) ?_
   simp[hasM,inR,hi,hj]
  ·simp only[hasM,hb,Bool.false_and]
  ·rintro _ rfl
   exact⟨rfl,rfl⟩
theorem len_spec (x:RelOk br bo c rb n m h):CallsH Try.prog 49 #[.pointer (some ⟨br,0,none⟩)] h (fun v h'=>h=h'∧v=.int .i64 n):=by
 apply F49
 unfold L49
 exact⟨fun e=>(by cases e),fun _=>nn_i (ldI_i x.cn ⟨rfl,rfl⟩)⟩
end
structure NewI (n B x:Nat) (h0 h:Heap) (s:Sv) (rb:Nat→Nat):Prop where
 st:blk h B #[.int .i64 n,.slice s.a s.n s.c]
 own:Own h (B+1) 1 s ((List.range x).map fun i=>.slice (some ⟨rb i,0,none⟩) (n+1) (n+1))
 row:∀i,i<x→B<rb i∧¬s.own (rb i)∧∃cs:Array Value,blk h (rb i) cs∧∀j,j≤n→cs[j]?=some (.bool (decide (i=j) || decide (i=0)))
 inj:∀i j,i<x→j<x→rb i=rb j→i=j
 fr:Grow h0 h
 base:B=h0.size
theorem new_spec (n:Nat) (h:Heap) (hn:n≤300):CallsH Try.prog 23 #[.int .i64 n] h (fun v h'=>
  ∃br bo c rb,v=.tuple #[.pointer (some ⟨br,0,none⟩),.int .i64 0]∧RelOk br bo c rb n (fun i j=>decide (i=j) || decide (i=0)) h'∧Grow h h'∧∀b,RelB br bo rb n b→h.size≤b):=by
 apply F23
 unfold L23
 refine ifb_iff (q:=¬(0≤(n:Int)∧(n:Int)≤300)) (by simp;omega) (fun h=>absurd ⟨by omega,by omega⟩ h) (fun _=>?_)
 have hw:IntKind.i64.wrap ((n:Int)+1)=(n:Int)+1:=wrap64_id (by omega) (by omega)
 simp only[hw]
 rintro p h1 rfl rfl
 refine⟨fun x h2=>∃k:Nat,x=k∧k≤n+1∧∃s rb,NewI n h.size k h h2 s rb,fun x _=>(n+1 - x).toNat,?_,?_⟩
 ·refine⟨0,rfl,by omega,⟨none,0,0⟩,fun _=>0,blk.new _ _ _,Own.nil _ _ _,fun i hi=>by omega,fun i j hi=>by omega,Fr.push _ _ _,rfl⟩
 ·rintro x h2 ⟨k,rfl,hk,s,rb,I⟩
  refine ifb_dec (fun hlt=>?_) (fun hge=>?_)
  ·
   refine⟨by omega,by omega,by omega,by omega,?_⟩
   rintro s24 h3 rfl rfl
   refine ixS_i rfl (by omega) (by show (k:Int)<(((n:Int)+1).toNat:Int);omega) ?_
   simp only[add_plain,Nat.zero_add,Int.toNat_natCast,Nat.mul_one]
   have e1:((n:Int)+1).toNat=n+1:=by omega
   simp only[e1]
   have kb:=blk.new h2 (madeCells (Value.bool false).cells (n+1)) 4
   have hsz:(madeCells (Value.bool false).cells (n+1)).size=n+1:=size_madeCells _ _
   refine sto_i kb (by rw[hsz];omega) ?_
   have kb1:=kb.sc k (.bool true)
   have f1:Fr (fun _=>False) h2 (sc (h2.push (.cells (madeCells (Value.bool false).cells (n+1)) 4)) ⟨h2.size,k,none⟩ (.bool true)):=
    (Fr.push (fun _=>False) h2 _).trans' (Fr.sc (T:=fun b=>b=h2.size) _ (p:=⟨h2.size,k,none⟩) rfl _) (fun i hi e=>by omega)
   generalize hh4:sc (h2.push (.cells (madeCells (Value.bool false).cells (n+1)) 4)) ⟨h2.size,k,none⟩ (.bool true)=h4 at *
   refine⟨fun y h5=>∃q:Nat,y=q∧q≤n+1∧Fr (fun b=>b=h2.size) h4 h5∧∃cs:Array Value,blk h5 h2.size cs∧∀j,j≤n→cs[j]?=some (.bool (decide (k=j) || (decide (j<q) && decide (k=0)))),fun y _=>(n+1 - y).toNat,?_,?_⟩
   ·refine⟨0,rfl,by omega,Fr.refl _ _,_,kb1,fun j hj=>?_⟩
    rw[Array.getElem?_setIfInBounds,made_get _ rfl,hsz]
    by_cases e:k=j
    ·have:k<n+1:=by omega
     simp[e,show j<n+1 by omega]
    ·simp[e,show j<n+1 by omega]
   ·rintro y h5 ⟨q,rfl,hq,f5,cs,kc,hcs⟩
    refine ifb_dec (fun hqlt=>?_) (fun hqge=>?_)
    ·have hqlt:q<n+1:=by have:(q:Int)<((n+1:Nat):Int):=hqlt;omega
     refine ixS_i rfl (by omega) (by show (q:Int)<((n+1:Nat):Int);omega) ?_
     simp only[add_plain,Nat.zero_add,Int.toNat_natCast]
     have hcq:=hcs q (by omega)
     refine ldB_i (by rw[kc.cl];exact hcq) (ixS_i rfl (by omega) (by show (q:Int)<((n+1:Nat):Int);omega) ?_)
     simp only[add_plain,Nat.zero_add]
     refine sto_i kc ((Array.getElem?_eq_some_iff.1 hcq).1) ?_
     have hwq:IntKind.i64.wrap ((q:Int)+1)=((q+1:Nat):Int):=by rw[wrap64_id (by omega) (by omega)];omega
     refine⟨⟨q+1,hwq,by omega,f5.trans (Fr.scb _ _ _ _),_,kc.sc q _,fun j hj=>?_⟩,by rw[hwq];omega⟩
     rw[Array.getElem?_setIfInBounds]
     by_cases e:q=j
     ·subst e
      have hl:=(Array.getElem?_eq_some_iff.1 hcq).1
      have e0:((k:Int) == 0)=decide (k=0):=by rw[Bool.eq_iff_iff];simp
      simp[hl,e0]
     ·rw[if_neg e,hcs j hj]
      have e3:decide (j<q+1)=decide (j<q):=by rw[Bool.eq_iff_iff];simp;omega
      rw[e3]
    ·
     have hqe:q=n+1:=by have:¬(q:Int)<((n+1:Nat):Int):=hqge;omega
     subst hqe
     have f25:Fr (fun _=>False) h2 h5:=f1.trans' f5 (fun i hi e=>by omega)
     have st5:=f25.blk I.st (fun h=>h)
     refine ldS_i (s:=s) (by rw[st5.cl];rfl) ?_
     have o5:=I.own.frame f25 (fun _ _ h=>h)
     have hlen:s.n=k:=by have:=I.own.len;simp at this;omega
     have hB5:h.size<h5.size:=st5.lt
     refine app1 (B:=h.size+1) (sz:=1) rfl o5 rfl (by simp[Value.oneCell']) (by omega) (by omega) (by omega) ?_
     intro s' h8 e1 o8 f8 hown
     have st8:=f8.blk st5 (fun ho=>by have:=(o5.ge ho).1;omega)
     refine sto_i st8 (by show 1<2;omega) ?_
     have hwk:IntKind.i64.wrap ((k:Int)+1)=((k+1:Nat):Int):=by rw[wrap64_id (by omega) (by omega)];omega
     have f9:Fr (fun b=>b=h.size) h8 (sc h8 ⟨h.size,1,none⟩ (.slice s'.a s'.n s'.c)):=Fr.scb _ _ _ _
     have hge:h.size≤h2.size:=I.fr.size
     have hnew:¬s.own h2.size:=fun ho=>by have:=(I.own.ge ho).2;omega
     have h25:h2.size<h5.size:=kc.lt
     refine⟨⟨k+1,hwk,by omega,s',fun i=>if i<k then rb i else h2.size,?_⟩,by rw[hwk];omega⟩
     refine⟨st8.sc 1 _,?_,fun i hi=>?_,fun i j hi hj=>?_,?_,rfl⟩
     ·have:=o8.frame f9 (fun b hb e=>by have:=(o8.ge hb).1;omega)
      rw[List.range_succ,List.map_append]
      have e2:(List.range k).map (fun i=>Value.slice (some ⟨if i<k then rb i else h2.size,0,none⟩) (n+1) (n+1))=(List.range k).map (fun i=>Value.slice (some ⟨rb i,0,none⟩) (n+1) (n+1)):=
       List.map_congr_left fun i hi=>by rw[if_pos (List.mem_range.1 hi)]
      rw[e2]
      simpa using this
     ·by_cases e:i<k
      ·obtain⟨r1,r2,cs',r3,r4⟩:=I.row i e
       simp only[e,if_true]
       have l2:=r3.lt
       refine⟨r1,fun ho=>?_,cs',f9.blk (f8.blk (f25.blk r3 (fun h=>h)) r2) (by omega),r4⟩
       rcases hown _ ho with h'|h'
       ·exact r2 h'
       ·omega
      ·have e':i=k:=by omega
       subst e'
       simp only[e,if_false]
       refine⟨by have:=(I.st).lt;omega,fun ho=>?_,cs,f9.blk (f8.blk kc hnew) (by have:=(I.st).lt;omega),fun j hj=>by rw[hcs j hj];simp[show j<n+1 by omega]⟩
       rcases hown _ ho with h'|h'
       ·exact hnew h'
       ·omega
     ·intro e
      by_cases e1:i<k<;>by_cases e2:j<k<;>simp only[e1,e2,if_true,if_false] at e
      ·exact I.inj i j e1 e2 e
      ·obtain⟨_,_,cs',r3,_⟩:=I.row i e1;have:=r3.lt;omega
      ·obtain⟨_,_,cs',r3,_⟩:=I.row j e2;have:=r3.lt;omega
      ·omega
     ·exact ((I.fr.trans f25).trans' f8 (fun i hi ho=>by have:=(o5.ge ho).1;omega)).trans' f9 (fun i hi e=>by omega)
  ·
   have hke:k=n+1:=by omega
   subst hke
   have hlen:s.n=n+1:=by have:=I.own.len;simp at this;omega
   rcases I.own.mem with⟨_,e,_⟩|⟨g,cur,ea,hg,kg,hcap,hcs,ht⟩
   ·omega
   ·refine⟨h.size,g,s.c,rb,rfl,⟨?_,⟨cur,kg,fun i hi=>⟨n+1,?_⟩⟩,fun i hi=>?_,by omega,fun i hi=>?_,fun i j hi hj=>I.inj i j (by omega) (by omega)⟩,I.fr,?_⟩
    ·have:=I.st;rw[ea,hlen] at this;exact this
    ·have:((List.range (n+1)).map fun i=>Value.slice (some ⟨rb i,0,none⟩) (n+1) (n+1))[i]?=some (.slice (some ⟨rb i,0,none⟩) (n+1) (n+1)):=by
      simp[List.getElem?_range (show i<n+1 by omega)]
     rw[←ht,List.getElem?_take] at this
     split at this
     ·simpa using this
     ·cases this
    ·obtain⟨_,_,cs',r3,r4⟩:=I.row i (by omega)
     exact⟨cs',r3,r4⟩
    ·obtain⟨r1,r2,_⟩:=I.row i (by omega)
     exact⟨by omega,fun e=>r2 ⟨_,ea,e.symm⟩⟩
    ·rintro b (rfl|rfl|⟨i,hi,rfl⟩)
     ·omega
     ·omega
     ·have:=(I.row i (by omega)).1;omega
section
variable {br bo c:Nat} {rb:Nat→Nat} {n:Nat} {m:Nat→Nat→Bool} {h:Heap}
theorem RelOk.rdRow (x:RelOk br bo c rb n m h) (i:Nat) (hi:i≤n) {K:Sv→Prop} (k:∀cr,K ⟨some ⟨rb i,0,none⟩,n+1,cr⟩) :
  nn (some ⟨br,0,none⟩) fun p=>ldS h (p.add 1) fun s=>ixS s (i:Int) fun q=>ldS h (q.add ((i:Int).toNat*1)) fun t=>K t:=by
 obtain⟨cr,hr⟩:=x.cr i hi
 refine nn_i ?_
 simp only[add_plain,Nat.zero_add,Int.toNat_natCast,Nat.mul_one]
 refine ldS_i (s:=⟨_,_,_⟩) x.co (ixS_i rfl (by omega) (by show (i:Int)<((n+1:Nat):Int);omega) ?_)
 simp only[add_plain,Nat.zero_add]
 exact ldS_i (s:=⟨_,_,_⟩) hr (k cr)
theorem RelOk.rdTab (x:RelOk br bo c rb n m h) {K:Sv→Prop} (k:K ⟨some ⟨bo,0,none⟩,n+1,c⟩) :
  nn (some ⟨br,0,none⟩) fun p=>ldS h (p.add 1) fun s=>K s:=
 nn_i (by simp only[add_plain,Nat.zero_add];exact ldS_i (s:=⟨_,_,_⟩) x.co k)
theorem RelOk.rdCell (x:RelOk br bo c rb n m h) (i j:Nat) (hi:i≤n) (hj:j≤n) {cr:Nat} {K:Bool→Prop} (k:K (m i j)) :
  ixS ⟨some ⟨rb i,0,none⟩,n+1,cr⟩ (j:Int) fun q=>ldB h (q.add ((j:Int).toNat*1)) fun v=>K v:=by
 refine ixS_i rfl (by omega) (by show (j:Int)<((n+1:Nat):Int);omega) ?_
 simp only[add_plain,Nat.zero_add,Int.toNat_natCast,Nat.mul_one]
 exact ldB_i (x.cb i j hi hj) k
theorem RelOk.wrCell (x:RelOk br bo c rb n m h) (i j:Nat) (hi:i≤n) (hj:j≤n) {cr:Nat} {v:Bool} {K:Heap→Prop} (k:K (sc h ⟨rb i,j,none⟩ (.bool v))) :
  ixS ⟨some ⟨rb i,0,none⟩,n+1,cr⟩ (j:Int) fun q=>sto h (q.add ((j:Int).toNat*1)) (.bool v) fun h'=>K h':=by
 refine ixS_i rfl (by omega) (by show (j:Int)<((n+1:Nat):Int);omega) ?_
 simp only[add_plain,Nat.zero_add,Int.toNat_natCast,Nat.mul_one]
 obtain⟨cs,kc,r⟩:=x.row i hi
 exact sto_i kc (Array.getElem?_eq_some_iff.1 (r j hj)).1 k
theorem RelOk.congr (x:RelOk br bo c rb n m h) {m':Nat→Nat→Bool} (e:∀i j,i≤n→j≤n→m i j=m' i j):RelOk br bo c rb n m' h:=
 ⟨x.st,x.out,fun i hi=>by obtain⟨cs,k,r⟩:=x.row i hi;exact⟨cs,k,fun j hj=>by rw[r j hj,e i j hi hj]⟩,x.ne,x.ner,x.inj⟩
end
section
variable {br bo c:Nat} {rb:Nat→Nat} {n:Nat} {m:Nat→Nat→Bool} {h:Heap}
def stepM (m:Nat→Nat→Bool) (a b k q:Nat):Nat→Nat→Bool:=fun i j=>if i<k∨(i=k∧j<q) then addM m a b i j else m i j
theorem add_spec (x:RelOk br bo c rb n m h) (C:Clo n m) (a b:Nat) (ha:a≤n) (hb:b≤n) (hn:n≤300) :
  CallsH Try.prog 26 #[.pointer (some ⟨br,0,none⟩),.int .i64 a,.int .i64 b] h (fun v h'=>v=.int .i64 0∧RelOk br bo c rb n (addM m a b) h'∧Fr (RelB br bo rb n) h h'):=by
 apply F26
 unfold L26
 refine cal_of (known_spec x.cn a) ?_
 rintro _ _ ⟨rfl,rfl⟩
 refine⟨_,rfl,fun b' h'=>h=h'∧b'=false,⟨fun e=>?_,fun e=>?_⟩,?_⟩
 ·simp at e;omega
 ·refine cal_of (known_spec x.cn b) ?_
  rintro _ _ ⟨rfl,rfl⟩
  exact⟨_,rfl,rfl,by simp;omega⟩
 rintro _ _ ⟨rfl,rfl⟩
 refine⟨fun e=>(by cases e),fun _=>?_⟩
 refine x.rdRow a ha fun cr=>x.rdCell a b ha hb ?_
 refine⟨fun hm=>?_,fun hm=>?_⟩
 ·refine⟨rfl,x.congr fun i j hi hj=>?_,Fr.refl _ _⟩
  simp only[addM]
  cases h1:m i j with
  | true=>rfl
  | false=>
   cases h2:m i a with
   | false=>rfl
   | true=>
    cases h3:m b j with
    | false=>rfl
    | true=>rw[C.trans i b j hi hb hj (C.trans i a b hi ha hb h2 hm) h3] at h1;cases h1
 refine x.rdTab ?_
 refine⟨fun y h4=>∃k:Nat,y=k∧k≤n+1∧RelOk br bo c rb n (stepM m a b k 0) h4∧Fr (RelB br bo rb n) h h4,fun y _=>(n+1 - y).toNat,?_,?_⟩
 ·exact⟨0,rfl,by omega,x.congr fun i j _ _=>by simp[stepM],Fr.refl _ _⟩
 rintro y h4 ⟨k,rfl,hk,x4,f4⟩
 refine ifb_dec (fun hlt=>?_) (fun hge=>?_)
 ·have hkn:k≤n:=by have:(k:Int)<((n+1:Nat):Int):=hlt;omega
  have hwk:IntKind.i64.wrap ((k:Int)+1)=((k+1:Nat):Int):=by rw[wrap64_id (by omega) (by omega)];omega
  refine⟨fun h9=>RelOk br bo c rb n (stepM m a b (k+1) 0) h9∧Fr (RelB br bo rb n) h h9,?_,fun h9 h=>⟨⟨k+1,hwk,by omega,h.1,h.2⟩,by rw[hwk];dsimp only;omega⟩⟩
  refine x4.rdRow k hkn fun cr=>x4.rdCell k a hkn ha ?_
  have hka:stepM m a b k 0 k a=m k a:=by simp[stepM]
  rw[hka]
  refine⟨fun hf=>?_,fun hf=>?_⟩
  ·have hf:m k a=false:=by simpa using hf
   refine⟨x4.congr fun i j hi hj=>?_,f4⟩
   by_cases e:i=k
   ·subst e;simp[stepM,addM,hf]
   ·have e1:(i<k+1)=(i<k):=by apply propext;omega
    simp[stepM,e,e1]
  have hf:m k a=true:=by simpa using hf
  refine x4.rdRow k hkn fun cr'=>?_
  refine⟨fun z h5=>∃q:Nat,z=q∧q≤n+1∧RelOk br bo c rb n (stepM m a b k q) h5∧Fr (RelB br bo rb n) h h5,fun z _=>(n+1 - z).toNat,⟨0,rfl,by omega,x4,f4⟩,?_⟩
  rintro z h5 ⟨q,rfl,hq,x5,f5⟩
  refine ifb_dec (fun hql=>?_) (fun hqg=>?_)
  ·have hqn:q≤n:=by have:(q:Int)<((n+1:Nat):Int):=hql;omega
   have hwq:IntKind.i64.wrap ((q:Int)+1)=((q+1:Nat):Int):=by rw[wrap64_id (by omega) (by omega)];omega
   refine⟨fun h9=>RelOk br bo c rb n (stepM m a b k (q+1)) h9∧Fr (RelB br bo rb n) h h9,?_,fun h9 h=>⟨⟨q+1,hwq,by omega,h.1,h.2⟩,by rw[hwq];dsimp only;omega⟩⟩
   have hkq:stepM m a b k q k q=m k q:=by simp[stepM]
   have hbq:stepM m a b k q b q=m b q:=by
    simp only[stepM]
    split
    ·simp only[addM]
     cases h1:m b q<;>simp
    ·rfl
   have fin:∀v:Bool,v=addM m a b k q→RelOk br bo c rb n (stepM m a b k (q+1)) (sc h5 ⟨rb k,q,none⟩ (.bool v))∧Fr (RelB br bo rb n) h (sc h5 ⟨rb k,q,none⟩ (.bool v)):=by
    rintro v rfl
    refine⟨(x5.set k q hkn hqn (addM m a b k q)).congr fun i j hi hj=>?_,f5.trans (Fr.sc _ (p:=⟨rb k,q,none⟩) (.inr (.inr ⟨k,hkn,rfl⟩)) _)⟩
    by_cases e:i=k∧j=q
    ·obtain⟨rfl,rfl⟩:=e
     simp[stepM]
    ·simp only[if_neg e,stepM]
     have:(i<k∨i=k∧j<q)↔(i<k∨i=k∧j<q+1):=by omega
     by_cases e1:i<k∨i=k∧j<q
     ·rw[if_pos e1,if_pos (this.1 e1)]
     ·rw[if_neg e1,if_neg (fun h=>e1 (this.2 h))]
   refine x5.rdRow k hkn fun c1=>x5.rdRow k hkn fun c2=>x5.rdCell k q hkn hqn ?_
   rw[hkq]
   refine⟨fun h1=>x5.wrCell k q hkn hqn (fin _ (by simp[addM,h1])),fun h1=>?_⟩
   refine x5.rdRow b hb fun c3=>x5.rdCell b q hb hqn ?_
   rw[hbq]
   exact x5.wrCell k q hkn hqn (fin _ (by simp[addM,h1,hf]))
  ·have hqe:q=n+1:=by have:¬(q:Int)<((n+1:Nat):Int):=hqg;omega
   subst hqe
   refine⟨x5.congr fun i j hi hj=>?_,f5⟩
   have:(i<k∨i=k∧j<n+1)↔(i<k+1∨i=k+1∧j<0):=by omega
   by_cases e1:i<k∨i=k∧j<n+1
   ·simp only[stepM];rw[if_pos e1,if_pos (this.1 e1)]
   ·simp only[stepM];rw[if_neg e1,if_neg (fun h=>e1 (this.2 h))]
 ·have hke:k=n+1:=by have:¬(k:Int)<((n+1:Nat):Int):=hge;omega
  subst hke
  exact⟨rfl,x4.congr fun i j hi hj=>by simp only[stepM];rw[if_pos (.inl (by omega))],f4⟩
end
end Go.Proofs.Yteofligmdngdgaa
namespace Go.Proofs.Yteofligmdngdgaa
open Go Go.Lf Go.Lf.Rd
set_option linter.unusedVariables false
structure RefOk (bw B:Nat) (s:Sv) (n:Nat) (ps:List (Int×Int)) (h:Heap):Prop where
 st:blk h bw #[.int .i64 n,.slice s.a s.n s.c]
 own:Own h B 2 s (prs ps)
 no:¬s.own bw
section
variable {bw B n:Nat} {s:Sv} {qs:List (Int×Int)} {h:Heap}
theorem RefOk.frame {T:Nat→Prop} {h':Heap} (x:RefOk bw B s n qs h) (f:Fr T h h') (h1:¬T bw) (h2:∀b,s.own b→¬T b):RefOk bw B s n qs h':=
 ⟨f.blk x.st h1,x.own.frame f h2,x.no⟩
theorem RefOk.len (x:RefOk bw B s n qs h):s.n=qs.length:=by have:=x.own.len;rw[prs_len] at this;omega
theorem RefOk.cn (x:RefOk bw B s n qs h):cl h ⟨bw,0,none⟩=some (.int .i64 n):=by rw[x.st.cl];rfl
theorem RefOk.cs (x:RefOk bw B s n qs h):cl h ⟨bw,1,none⟩=some (.slice s.a s.n s.c):=by rw[x.st.cl];rfl
theorem RefOk.pair (x:RefOk bw B s n qs h) (i:Nat) (hi:i<qs.length):∃g,s.a=some ⟨g,0,none⟩∧cl h ⟨g,i*2,none⟩=some (.int .i64 qs[i].1)∧cl h ⟨g,i*2+1,none⟩=some (.int .i64 qs[i].2):=by
 have hl:=x.len
 rcases x.own.mem with⟨_,e,_⟩|⟨g,cur,e,_⟩
 ·omega
 ·have hr:=x.own.row
  rw[e] at hr
  have hf:=prs_get qs i hi
  have r1:=hr _ _ hf.1
  have r2:=hr _ _ hf.2
  simp only[add_plain,Nat.zero_add] at r1 r2
  exact⟨g,e,r1,r2⟩
theorem RefOk.lt (x:RefOk bw B s n qs h):bw<h.size∧∀b,s.own b→b<h.size:=⟨x.st.lt,fun _ hb=>(x.own.ge hb).2⟩
def SetAt (h:Heap) (g n:Nat) (C:Nat→Bool):Prop:=∃cs:Array Value,blk h g cs∧∀k,k≤n→cs[k]?=some (.int .i64 (if C k then 1 else 0))
theorem SetAt.get {g n:Nat} {C:Nat→Bool} (x:SetAt h g n C) (k:Nat) (hk:k≤n):cl h ⟨g,k,none⟩=some (.int .i64 (if C k then 1 else 0)):=by
 obtain⟨cs,kb,e⟩:=x;rw[kb.cl,e k hk]
theorem SetAt.put {g n:Nat} {C:Nat→Bool} (x:SetAt h g n C) (k:Nat) (hk:k≤n) {K:Heap→Prop} (hK:∀h',SetAt h' g n (fun j=>decide (j=k) || C j)→Fr (fun b=>b=g) h h'→K h'):sto h ⟨g,k,none⟩ (.int .i64 1) K:=by
 obtain⟨cs,kb,e⟩:=x
 have hlt:=(Array.getElem?_eq_some_iff.1 (e k hk)).1
 refine sto_i kb hlt (hK _ ⟨_,kb.sc k _,fun j hj=>?_⟩ (Fr.scb _ _ _ _))
 rw[Array.getElem?_setIfInBounds]
 by_cases q:k=j
 ·subst q;simp[hlt]
 ·have q':¬j=k:=fun h=>q h.symm
  simp[q,q',e j hj]
theorem refHas_spec (x:RefOk bw B s n qs h) (hq:∀p∈qs,(inR n p.1 && inR n p.2)=true) (hn:n≤300) (hl:qs.length≤1000000000000) (a b:Int) :
  CallsH Try.prog 32 #[.pointer (some ⟨bw,0,none⟩),.int .i64 a,.int .i64 b] h (fun v h'=>∃r:Bool,v=.bool r∧Grow h h' ∧
   ((inR n a && inR n b)=false→r=false)∧((inR n a && inR n b)=true→(r=true∧∃k,iterC (natP qs) a.toNat k 0=true)∨(iterC (natP qs) a.toNat (n+1) 0=false∧r=iterC (natP qs) a.toNat (n+1) b.toNat))):=by
 apply F32
 unfold L32
 refine⟨fun b'=>b'=(decide (a<0) || decide (b<0) || decide ((n:Int)<a)),⟨fun e=>?_,fun e=>?_⟩,?_⟩
 ·simp only[e,Bool.true_or]
 ·refine nn_i (ldI_i x.cn ?_)
  simp only[e,Bool.false_or]
 rintro _ rfl
 refine⟨fun b'=>b'=!(inR n a && inR n b),⟨fun e=>?_,fun e=>?_⟩,?_⟩
 ·have:(inR n a && inR n b)=false:=by simp[inR] at e ⊢;omega
  rw[this];rfl
 ·refine nn_i (ldI_i x.cn ?_)
  dsimp only
  rw[Bool.eq_iff_iff]
  simp[inR] at e ⊢
  omega
 rintro _ rfl
 refine⟨fun e=>?_,fun e=>?_⟩
 ·have e':(inR n a && inR n b)=false:=by cases hh:(inR n a && inR n b)<;>simp_all
  exact⟨false,rfl,Fr.refl _ _,fun _=>rfl,fun h=>(by rw[e'] at h;cases h)⟩
 have e':(inR n a && inR n b)=true:=by simpa using e
 have hr:inR n a=true∧inR n b=true:=by simpa using e'
 obtain⟨a,rfl⟩:=Int.eq_ofNat_of_zero_le (show 0≤a by simp[inR] at hr;omega)
 obtain⟨b,rfl⟩:=Int.eq_ofNat_of_zero_le (show 0≤b by simp[inR] at hr;omega)
 have ha:a≤n:=by simp[inR] at hr;omega
 have hb:b≤n:=by simp[inR] at hr;omega
 refine nn_i (ldI_i x.cn ?_)
 have hw:IntKind.i64.wrap ((n:Int)+1)=((n+1:Nat):Int):=by rw[wrap64_id (by omega) (by omega)];omega
 rw[hw]
 refine⟨by omega,by omega,by omega,by omega,?_⟩
 rintro s37 h1 rfl rfl
 simp only[Int.toNat_natCast,Nat.mul_one]
 have fp:=Fr.push (fun _=>False) h (.cells (madeCells (Value.int .i64 0).cells (n+1)) 3)
 have kb:=blk.new h (madeCells (Value.int .i64 0).cells (n+1)) 3
 have S0:SetAt (h.push (.cells (madeCells (Value.int .i64 0).cells (n+1)) 3)) h.size n (fun _=>false):=
  ⟨_,kb,fun k hk=>by rw[made_get _ rfl];simp[show k<n+1 by omega]⟩
 refine ixS_i rfl (by omega) (by show (a:Int)<((n+1:Nat):Int);omega) ?_
 simp only[add_plain,Nat.zero_add]
 refine S0.put a ha fun h2 S2 f2=>?_
 have noT:∀b,b<h.size→¬(b=h.size):=fun b hb e=>by omega
 have g2:Grow h h2:=fp.trans' f2 fun i hi e=>by omega
 have X:∀ {h':Heap},Grow h h'→RefOk bw B s n qs h':=fun f=>x.frame f (fun h=>h) (fun _ _ h=>h)
 have hlen:=x.len
 refine⟨fun y h3=>∃r:Nat,y=r∧r≤n+1∧SetAt h3 h.size n (iterC (natP qs) a r)∧Grow h h3∧(r=0∨iterC (natP qs) a r 0=false),fun y _=>(n+1 - y).toNat,⟨0,rfl,by omega,?_,g2,.inl rfl⟩,?_⟩
 ·obtain⟨cs,k1,k2⟩:=S2
  exact⟨cs,k1,fun k hk=>by rw[k2 k hk];simp[iterC]⟩
 rintro y h3 ⟨r,rfl,hr1,S3,g3,hr0⟩
 refine nn_i (ldI_i (X g3).cn ?_)
 refine ifb_dec (fun hle=>?_) (fun hgt=>?_)
 ·have hrn:r≤n:=by omega
  have hwr:IntKind.i64.wrap ((r:Int)+1)=((r+1:Nat):Int):=by rw[wrap64_id (by omega) (by omega)];omega
  refine⟨fun z h4=>∃i:Nat,z=i∧i≤qs.length∧SetAt h4 h.size n (((natP qs).take i).foldl stepC (iterC (natP qs) a r))∧Grow h h4,fun z _=>(qs.length - z).toNat,⟨0,rfl,by omega,S3,g3⟩,?_⟩
  rintro z h4 ⟨i,rfl,hi,S4,g4⟩
  refine nn_i ?_
  simp only[add_plain,Nat.zero_add]
  refine ldS_i (s:=s) (X g4).cs ?_
  refine ifb_dec (fun hlt=>?_) (fun hge=>?_)
  ·have hil:i<qs.length:=by rw[hlen] at hlt;omega
   have hwi:IntKind.i64.wrap ((i:Int)+1)=((i+1:Nat):Int):=by rw[wrap64_id (by omega) (by omega)];omega
   have hp:=hq qs[i] (List.getElem_mem hil)
   obtain⟨g,eg,c1,c2⟩:=(X g4).pair i hil
   have htk:(natP qs).take (i+1)=(natP qs).take i++[(qs[i].1.toNat,qs[i].2.toNat)]:=by
    rw[List.take_succ_eq_append_getElem (by simpa [natP] using hil)]
    simp[natP]
   generalize qs[i]=pr at *
   obtain⟨u,v⟩:=pr
   dsimp only at hp c1 c2 htk
   have hp':inR n u=true∧inR n v=true:=by simpa using hp
   obtain⟨u,rfl⟩:=Int.eq_ofNat_of_zero_le (show 0≤u by simp[inR] at hp';omega)
   obtain⟨v,rfl⟩:=Int.eq_ofNat_of_zero_le (show 0≤v by simp[inR] at hp';omega)
   have hu:u≤n:=by simp[inR] at hp';omega
   have hv:v≤n:=by simp[inR] at hp';omega
   simp only[Int.toNat_natCast] at htk
   refine⟨fun h6=>SetAt h6 h.size n (((natP qs).take (i+1)).foldl stepC (iterC (natP qs) a r))∧Grow h h6,?_,fun h6 ⟨q1,q2⟩=>⟨⟨i+1,hwi,by omega,q1,q2⟩,by rw[hwi];(try dsimp only);omega⟩⟩
   have hstep:((natP qs).take (i+1)).foldl stepC (iterC (natP qs) a r)=stepC (((natP qs).take i).foldl stepC (iterC (natP qs) a r)) (u,v):=by rw[htk,List.foldl_append];rfl
   rw[hstep]
   generalize ((natP qs).take i).foldl stepC (iterC (natP qs) a r)=C at *
   refine nn_i (ldS_i (s:=s) (X g4).cs (ixS_i eg (by omega) (by rw[hlen];omega) ?_))
   simp only[add_plain,Nat.zero_add,Int.toNat_natCast]
   refine ldI_i c1 (ixS_i rfl (by omega) (by show (u:Int)<((n+1:Nat):Int);omega) ?_)
   simp only[add_plain,Nat.zero_add]
   refine ldI_i (S4.get u hu) ?_
   refine ifb_dec (fun hpos=>?_) (fun hz=>?_)
   ·have hC:C u=true:=by cases hc:C u with|true=>rfl|false=>rw[hc] at hpos;simp at hpos
    refine nn_i (ldS_i (s:=s) (X g4).cs (ixS_i eg (by omega) (by rw[hlen];omega) ?_))
    simp only[add_plain,Nat.zero_add]
    refine ldI_i c2 (ixS_i rfl (by omega) (by show (v:Int)<((n+1:Nat):Int);omega) ?_)
    simp only[add_plain,Nat.zero_add,Int.toNat_natCast]
    refine S4.put v hv fun h5 S5 f5=>⟨?_,g4.trans' f5 fun i hi e=>by omega⟩
    simp only[stepC,hC,if_true]
    exact S5
   ·have hC:C u=false:=by cases hc:C u with|false=>rfl|true=>rw[hc] at hz;simp at hz
    refine⟨?_,g4⟩
    simp only[stepC,hC]
    exact S4
  ·have hie:i=qs.length:=by rw[hlen] at hge;omega
   subst hie
   have hfull:(natP qs).take qs.length=natP qs:=by rw[List.take_of_length_le (by simp[natP])]
   rw[hfull] at S4
   refine ixS_i rfl (by omega) (by show (0:Int)<((n+1:Nat):Int);omega) ?_
   refine ldI_i (S4.get 0 (by omega)) ?_
   refine ifb_dec (fun hpos=>?_) (fun hz=>?_)
   ·refine⟨true,rfl,g4,fun h=>(by rw[e'] at h;cases h),fun _=>.inl ⟨rfl,r+1,?_⟩⟩
    show roundC (natP qs) (iterC (natP qs) a r) 0=true
    cases hc:roundC (natP qs) (iterC (natP qs) a r) 0 with
    | true=>rfl
    | false=>unfold roundC at hc;rw[hc] at hpos;simp at hpos
   ·refine⟨⟨r+1,hwr,by omega,S4,g4,.inr ?_⟩,by rw[hwr];(try dsimp only);omega⟩
    show roundC (natP qs) (iterC (natP qs) a r) 0=false
    cases hc:roundC (natP qs) (iterC (natP qs) a r) 0 with
    | false=>rfl
    | true=>unfold roundC at hc;rw[hc] at hz;simp at hz
 ·have hre:r=n+1:=by omega
  subst hre
  refine ixS_i rfl (by omega) (by show (b:Int)<((n+1:Nat):Int);omega) ?_
  simp only[add_plain,Nat.zero_add]
  refine ldI_i (S3.get b hb) ⟨_,rfl,g3,fun h=>(by rw[e'] at h;cases h),fun _=>.inr ⟨hr0.resolve_left (by omega),?_⟩⟩
  cases iterC (natP qs) a (n+1) b<;>simp
theorem refHas_is {ps:List (Int×Int)} (x:RefOk bw B s n (okP n ps) h) (hn:n≤300) (hl:ps.length≤1000000000000) (a b:Int) :
  CallsH Try.prog 32 #[.pointer (some ⟨bw,0,none⟩),.int .i64 a,.int .i64 b] h (fun v h'=>v=.bool (hasM n (mOf n ps) a b)∧Grow h h'):=by
 refine (refHas_spec x (fun p hp=>(List.mem_filter.1 hp).2) hn (Nat.le_trans (List.length_filter_le _ _) hl) a b).mono ?_
 rintro v h' ⟨r,rfl,g,h1,h2⟩
 refine⟨?_,g⟩
 congr 1
 cases e:inR n a && inR n b with
 | false=>rw[h1 e];simp[hasM,e]
 | true=>
  have hr:inR n a=true∧inR n b=true:=by simpa using e
  have law:=ref_law (ps:=ps) (n:=n) (a:=a.toNat) (b:=b.toNat) (by simp[inR] at hr;omega) (by simp[inR] at hr;omega)
  simp only[hasM,e,Bool.true_and]
  rcases h2 e with⟨rfl,k,hk⟩|⟨h0,rfl⟩
  ·exact (law.1 k hk).symm
  ·exact law.2 h0
end
def sel (f:Nat→Bool) (k:Nat):List Int:=((List.range k).filter f).map fun i:Nat=>(i:Int)
theorem sel_succ (f:Nat→Bool) (k:Nat):sel f (k+1)=sel f k++(if f k then [(k:Int)] else []):=by
 unfold sel
 rw[List.range_succ,List.filter_append,List.map_append]
 congr 1
 simp only[List.filter_cons,List.filter_nil]
 split<;>rfl
theorem sel_len (f:Nat→Bool) (k:Nat):(sel f k).length≤k:=by
 unfold sel;rw[List.length_map];exact Nat.le_trans (List.length_filter_le _ _) (by simp)
section
variable {bw B n:Nat} {s:Sv} {ps:List (Int×Int)} {h:Heap}
theorem refUnder_spec (x:RefOk bw B s n (okP n ps) h) (hn:n≤300) (hl:ps.length≤1000000000000) (a:Nat) (ha:a≤n) :
  CallsH Try.prog 17 #[.pointer (some ⟨bw,0,none⟩),.int .i64 a] h (fun v h'=>∃t:Sv,v=t.v∧Own h' h.size 1 t (ints (sel (mOf n ps a) (n+1)))∧Grow h h'):=by
 apply F17
 unfold L17
 refine⟨fun l y h1=>∃k:Nat,y=k∧k≤n+1∧Grow h h1∧Own h1 h.size 1 l (ints (sel (mOf n ps a) k)),fun _ y _=>(n+1 - y).toNat,⟨0,rfl,by omega,Fr.refl _ _,Own.nil _ _ _⟩,?_⟩
 rintro l y h1 ⟨k,rfl,hk,g,o⟩
 have X:=x.frame g (fun h=>h) fun _ _ h=>h
 refine nn_i (ldI_i X.cn ?_)
 refine ifb_dec (fun hle=>?_) (fun hgt=>?_)
 ·have hkn:k≤n:=by omega
  have hwk:IntKind.i64.wrap ((k:Int)+1)=((k+1:Nat):Int):=by rw[wrap64_id (by omega) (by omega)];omega
  refine⟨fun l' h5=>Grow h h5∧Own h5 h.size 1 l' (ints (sel (mOf n ps a) (k+1))),?_,fun l' h5 ⟨q1,q2⟩=>⟨⟨k+1,hwk,by omega,q1,q2⟩,by rw[hwk];(try dsimp only);omega⟩⟩
  refine cal_of (refHas_is X hn hl a k) ?_
  rintro _ h2 ⟨rfl,g2⟩
  refine⟨_,rfl,?_⟩
  have hh:hasM n (mOf n ps) a k=mOf n ps a k:=by simp[hasM,inR,ha,hkn]
  rw[hh,sel_succ]
  have o2:=o.frame g2 fun _ _ h=>h
  have hln:l.n≤301:=by have:=o.len;have:=sel_len (mOf n ps a) k;simp[ints] at *;omega
  refine⟨fun hm=>?_,fun hm=>?_⟩
  ·refine app1 (B:=h.size) (sz:=1) rfl o2 rfl (by simp[Value.oneCell']) (g.trans g2).size (by omega) (by omega) ?_
   intro s' h4 e1 o4 f4 _
   refine⟨own_grown o2 (g.trans g2) f4,?_⟩
   rw[hm]
   simpa [ints] using o4
  ·rw[hm]
   exact⟨g.trans g2,by simpa using o2⟩
 ·have hke:k=n+1:=by omega
  subst hke
  exact⟨l,rfl,o,g⟩
end
end Go.Proofs.Yteofligmdngdgaa
namespace Go.Proofs.Yteofligmdngdgaa
open Go Go.Lf
set_option linter.unusedVariables false
def W4 (x:Int):Prop:=0≤x∧x≤3
theorem W4.cases {x:Int} (h:W4 x):x=0∨x=1∨x=2∨x=3:=by unfold W4 at h;omega
theorem life1 (x y:Int):lifeL x y 1=[(x,y)]:=by
 unfold lifeL
 rw[show (bitsI .and .i64 1 1 != 0)=true by decide,show (bitsI .and .i64 1 2 != 0)=false by decide];rfl
theorem life2 (x y:Int):lifeL x y 2=[(y,x)]:=by
 unfold lifeL
 rw[show (bitsI .and .i64 2 1 != 0)=false by decide,show (bitsI .and .i64 2 2 != 0)=true by decide];rfl
theorem life3 (x y:Int):lifeL x y 3=[(x,y),(y,x)]:=by
 unfold lifeL
 rw[show (bitsI .and .i64 3 1 != 0)=true by decide,show (bitsI .and .i64 3 2 != 0)=true by decide];rfl
theorem life0 (x y:Int):lifeL x y 0=[]:=by
 unfold lifeL
 rw[show (bitsI .and .i64 0 1 != 0)=false by decide,show (bitsI .and .i64 0 2 != 0)=false by decide];rfl
theorem and3 {i:Int} (h:W4 i):bitsI .and .i64 i 3=i:=by
 rcases h.cases with rfl|rfl|rfl|rfl<;>decide
theorem W4.thr {o i:Int} (ho:W4 o) (hi:W4 i):W4 (thr o i):=by
 unfold Proofs.Yteofligmdngdgaa.thr
 rw[and3 hi]
 have:=ho
 unfold W4 at *
 split
 ·omega
 ·split
  ·exact hi
  ·split
   ·omega
   ·split<;>omega
theorem W4.one:W4 1:=by unfold W4;omega
section
variable {Q:Nat→Prop} {h:Heap}
theorem own_lit {E:TypeId} (cs:List Value) (n:Nat) (hn:cs.length=n*2) (h:Heap):Own (h.push (.cells cs.toArray E)) h.size 2 ⟨some ⟨h.size,0,none⟩,n,n⟩ cs:=
 ⟨hn,.inr ⟨h.size,_,rfl,Nat.le_refl _,blk.new h _ E,Nat.le_refl _,by simpa using hn,by show List.take (n*2) cs=cs;rw[←hn,List.take_length]⟩⟩
theorem say_spec (x y way:Int) (hw:W4 way) (h:Heap):CallsH Try.prog 56 #[.int .i64 x,.int .i64 y,.int .i64 way] h (fun v h'=>Grow h h'∧∃s:Sv,v=.slice s.a s.n s.c∧Own h' h.size 2 s (prs (lifeL x y way))):=by
 apply F56
 unfold L56
 rcases hw.cases with rfl|rfl|rfl|rfl
 ·refine⟨fun e=>(by cases e),fun _=>⟨fun e=>(by cases e),fun _=>⟨fun e=>(by cases e),fun _=>⟨Fr.refl _ _,_,rfl,?_⟩⟩⟩⟩
  rw[life0];exact Own.nil _ _ _
 ·refine⟨fun _=>?_,fun e=>(by cases e)⟩
  rintro s h1 rfl rfl
  exact⟨Fr.push _ _ _,_,rfl,by rw[life1];exact own_lit [.int .i64 x,.int .i64 y] 1 rfl h⟩
 ·refine⟨fun e=>(by cases e),fun _=>⟨fun _=>?_,fun e=>(by cases e)⟩⟩
  rintro s h1 rfl rfl
  exact⟨Fr.push _ _ _,_,rfl,by rw[life2];exact own_lit [.int .i64 y,.int .i64 x] 1 rfl h⟩
 ·refine⟨fun e=>(by cases e),fun _=>⟨fun e=>(by cases e),fun _=>⟨fun _=>?_,fun e=>(by cases e)⟩⟩⟩
  rintro s h1 rfl rfl
  exact⟨Fr.push _ _ _,_,rfl,by rw[life3];exact own_lit [.int .i64 x,.int .i64 y,.int .i64 y,.int .i64 x] 2 rfl h⟩
theorem thrR_spec {o i:Int} (ho:W4 o) (hi:W4 i):CallsH Try.prog 57 #[.int .i64 o,.int .i64 i] h (fun v h'=>h=h'∧v=.int .i64 (thr o i)):=by
 apply F57
 unfold L57
 refine ifb_iff (q:=o=0∨i=0) (by simp) (fun h1=>⟨rfl,by unfold thr;rw[if_pos h1]⟩) (fun h1=>?_)
 refine ifb_iff (q:=o=1) (by simp) (fun h2=>⟨rfl,by unfold thr;rw[if_neg h1,if_pos h2,and3 hi]⟩) (fun h2=>?_)
 refine ifb_iff (q:=o=3∨i=3) (by simp) (fun h3=>⟨rfl,by unfold thr;rw[if_neg h1,if_neg h2,if_pos h3]⟩) (fun h3=>?_)
 exact ifb_iff (q:=o=i) (by simp) (fun h4=>⟨rfl,by unfold thr;rw[if_neg h1,if_neg h2,if_neg h3,if_pos h4]⟩) (fun h4=>⟨rfl,by unfold thr;rw[if_neg h1,if_neg h2,if_neg h3,if_neg h4]⟩)
theorem way_spec {w:Option Nat} {ws:List (ByteArray×List Int)} (x:WaysAt Q h w ws) (nm:ByteArray) (i:Nat) :
  CallsH Try.prog 58 #[.map w,.string nm,.int .i64 i] h (fun v h'=>h=h'∧v=.int .i64 (ofW ws nm i)):=by
 apply F58
 unfold L58
 obtain⟨es,rfl,m,q,k⟩:=x
 refine⟨_,m,?_⟩
 rcases lkE_map nm es with⟨h1,h2⟩|⟨e,he,h1,h2⟩
 ·rw[h1]
  refine⟨⟨none,0,0⟩,rfl,fun e=>?_,fun _=>⟨rfl,?_⟩⟩
  ·exact absurd (of_decide_eq_true e) (by simp)
  ·unfold ofW;rw[h2];rfl
 ·rw[h1]
  have y:=k e he
  refine⟨e.2.1,rfl,?_⟩
  refine ifb_iff (q:=i<e.2.2.length) (by rw[y.len];simp) (fun hlt=>?_) (fun hge=>⟨rfl,?_⟩)
  ·refine⟨_,m,?_⟩
   rw[h1]
   refine⟨e.2.1,rfl,y.ints.get hlt ⟨rfl,?_⟩⟩
   unfold ofW;rw[h2,List.getElem?_eq_getElem hlt];rfl
  ·unfold ofW;rw[h2,List.getElem?_eq_none (by omega)];rfl
theorem pairsR_spec {w:Option Nat} {ws:List (ByteArray×List Int)} (hW:∀nm i,W4 (ofW ws nm i)):∀(a b:Ty) (n:Nat) (_:n≤8) (_:small n a=true) (_:same a b=true) (v v':Tv) (h:Heap) (way:Int) (_:W4 way),
  TyAt (fun b=>b<h.size) h a v→TyAt (fun b=>b<h.size) h b v'→WaysAt (fun b=>b<h.size) h w ws →
  CallsH Try.prog 35 #[.map w,.agg (tvs v),.agg (tvs v'),.int .i64 way] h (fun x h'=>Grow h h'∧∃s:Sv,x=.slice s.a s.n s.c∧Own h' h.size 2 s (prs (seeL (ofW ws) a way b))):=by
 intro a
 refine Ty.ind (P:=fun a=>∀(b:Ty) (n:Nat) (_:n≤8) (_:small n a=true) (_:same a b=true) (v v':Tv) (h:Heap) (way:Int) (_:W4 way),
  TyAt (fun b=>b<h.size) h a v→TyAt (fun b=>b<h.size) h b v'→WaysAt (fun b=>b<h.size) h w ws →
  CallsH Try.prog 35 #[.map w,.agg (tvs v),.agg (tvs v'),.int .i64 way] h (fun x h'=>Grow h h'∧∃s:Sv,x=.slice s.a s.n s.c∧Own h' h.size 2 s (prs (seeL (ofW ws) a way b)))) ?_ a
 intro k nm mu r rs az ih b n hn hsm hsame v v' h way hway hv hv' hw
 obtain⟨k',nm',mu',r',rs',az'⟩:=b
 have hsm0:=hsm
 have hb8:=bnd8 hn
 obtain⟨m,rfl,ha4,hr6,hall⟩:=small_mk hsm
 rw[same_mk] at hsame
 simp only[Bool.and_eq_true,Bool.not_eq_true',Bool.or_eq_false_iff] at hsame
 obtain⟨-,hs5,hsA⟩:=hsame
 have hlA:=sameA_len hsA
 have hsi:=(sameA_iff.1 hsA).2
 obtain⟨e1,e2,e3,e4,e5,e6,e7⟩:=tyAt_iff.1 hv
 obtain⟨d1,d2,d3,d4,d5,d6,d7⟩:=tyAt_iff.1 hv'
 have hbn:bnd (m+1)=14+4*bnd m:=rfl
 apply F35
 unfold L35
 refine new6 (v:=v) fun h1 b1 f1 z1=>new6 (v:=v') fun h2 b2 f2 z2=>?_
 have g2:Grow h h2:=f1.trans f2
 have B1:=f2.blk b1 (fun h=>h)
 have s1:=f1.size
 have s2:=f2.size
 refine⟨fun s h'=>Grow h2 h'∧Own h' h2.size 2 s (prs (if k=7∨k=8 then lifeL r r' way else [])),?_,?_⟩
 ·refine⟨_,(Tv6.blk B1).1,?_⟩
  rw[e1]
  refine⟨fun x=>x=decide (k=7∨k=8),⟨fun e=>?_,fun e=>⟨_,(Tv6.blk B1).1,?_⟩⟩,?_⟩
  ·have:k=7:=by simpa using e
   simp[this]
  ·rw[e1]
   have:¬k=7:=by simpa using e
   simp[this]
   exact Bool.beq_eq_decide_eq k 8
  rintro _ rfl
  refine ifb_dec (fun h78=>?_) (fun h78=>?_)
  ·refine⟨_,(Tv6.blk B1).2.2.2.1,_,(Tv6.blk b2).2.2.2.1,?_⟩
   rw[e4,d4,if_pos h78]
   refine cal_of (say_spec r r' way hway h2) ?_
   rintro _ h3 ⟨f3,s,rfl,o⟩
   exact⟨s,rfl,f3,o⟩
  ·rw[if_neg h78]
   exact⟨Fr.refl _ _,Own.nil _ _ _⟩
 rintro out9 h4 ⟨g4,o4⟩
 let P5:Nat→List (Int×Int):=fun j=>(if k=7∨k=8 then lifeL r r' way else [])++(if k=5 then regsL (fun i=>thr way (ofW ws nm i)) 0 (rs.take j) (rs'.take j) else [])
 have hP5:∀j,(P5 j).length≤14:=fun j=>by
  have h1:=lifeL_len r r' way
  have h2:=regsL_len (fun i=>thr way (ofW ws nm i)) 0 (rs.take j) (rs'.take j)
  have h3:(rs.take j).length≤rs.length:=by simp;omega
  show ((if k=7∨k=8 then lifeL r r' way else [])++(if k=5 then regsL (fun i=>thr way (ofW ws nm i)) 0 (rs.take j) (rs'.take j) else [])).length≤14
  rw[List.length_append]
  split<;>split<;>(try simp only[List.length_nil])<;>omega
 refine⟨fun s i h'=>∃j:Nat,i=j∧(k=5→j≤rs.length)∧(k≠5→j=0)∧Grow h2 h'∧Own h' h2.size 2 s (prs (P5 j)),fun _ i _=>rs.length - i.toNat,⟨0,rfl,fun _=>Nat.zero_le _,fun _=>rfl,g4,?_⟩,?_⟩
 ·have:P5 0=(if k=7∨k=8 then lifeL r r' way else []):=by
   show _++(if k=5 then regsL _ 0 (rs.take 0) (rs'.take 0) else [])=_
   have:(if k=5 then regsL (fun i=>thr way (ofW ws nm i)) 0 (rs.take 0) (rs'.take 0) else [])=[]:=by split<;>simp[regsL]
   rw[this,List.append_nil]
  rw[this];exact o4
 rintro s5 _ h5 ⟨j,rfl,hj5,hjn,g5,o5⟩
 have G5:=g2.trans g5
 have s5z:=g5.size
 have T1:=Tv6.blk (g5.blk B1 fun h=>h)
 have T2:=Tv6.blk (g5.blk b2 fun h=>h)
 refine⟨_,T1.1,?_⟩
 rw[e1]
 refine⟨fun x=>x=(decide (k=5) && decide (j<rs.length)),⟨fun e=>⟨_,T1.2.2.2.2.1,?_⟩,fun e=>?_⟩,?_⟩
 ·have:k=5:=by simpa using e
  dsimp only
  rw[e5.len,decide_eq_true this,Bool.true_and]
  simp
 ·have:¬k=5:=by simpa using e
  rw[decide_eq_false this,Bool.false_and]
 rintro _ rfl
 refine ifb_iff (q:=k=5∧j<rs.length) (by simp) (fun hc=>?_) (fun hc=>?_)
 ·obtain⟨h5k,hl⟩:=hc
  have hrl:rs.length=rs'.length:=by simpa [h5k] using hs5
  have hl':j<rs'.length:=by omega
  have E5:=(e5.toIntsQ.fr G5 fun _ _ h=>h).ints
  have D5:=(d5.toIntsQ.fr G5 fun _ _ h=>h).ints
  obtain⟨pa,a1,a2⟩:=E5.at_ j hl
  obtain⟨pc,c1,c2⟩:=D5.at_ j hl'
  refine⟨fun h'=>Grow h5 h',Fr.refl _ _,_,T1.2.1,?_⟩
  refine⟨_,(fun h' f=>(T1.fr f fun h=>h).2.2.2.2.1),pa,a1,by omega,by rw[E5.len];omega,_,(fun h' f=>by rw[Int.toNat_natCast];exact f.clk a2 fun h=>h),_,(fun h' f=>(T2.fr f fun h=>h).2.2.2.2.1),pc,c1,by omega,by rw[D5.len];omega,_,(fun h' f=>by rw[Int.toNat_natCast];exact f.clk c2 fun h=>h),?_⟩
  rw[e2]
  have hw5:=hw.fr G5 fun _ _ h=>h
  refine cal_of (way_spec hw5 nm j) ?_
  rintro _ _ ⟨rfl,rfl⟩
  refine⟨_,rfl,Fr.refl _ _,cal_of (thrR_spec hway (hW nm j)) ?_⟩
  rintro _ _ ⟨rfl,rfl⟩
  refine⟨_,rfl,Fr.refl _ _,cal_of (say_spec rs[j] rs'[j] _ (hway.thr (hW nm j)) h5) ?_⟩
  rintro _ h8 ⟨f8,s8,rfl,o8⟩
  refine⟨s8,rfl,?_⟩
  have hn8:s8.n=(lifeL rs[j] rs'[j] (thr way (ofW ws nm j))).length:=by have:=o8.len;rw[prs_len] at this;omega
  have hl8:=lifeL_len rs[j] rs'[j] (thr way (ofW ws nm j))
  have hn5:s5.n=(P5 j).length:=by have:=o5.len;rw[prs_len] at this;omega
  have hp5:=hP5 j
  refine appS_own rfl (o5.frame f8 fun _ _ h=>h) (news:=prs (lifeL rs[j] rs'[j] (thr way (ofW ws nm j)))) (by rw[prs_len,hn8]) o8.row (one_prs _) (by have:=f8.size;omega) (by omega) (by omega) ?_
  intro s9 h9 _ o9 f9 own9
  rw[wrap_succ hl (by omega)]
  refine⟨⟨j+1,rfl,fun _=>hl,fun h=>absurd h5k h,(g5.trans f8).trans' f9 fun i hi e=>by have:=(o5.ge e).1;omega,?_⟩,by simp;omega⟩
  have:P5 (j+1)=P5 j++lifeL rs[j] rs'[j] (thr way (ofW ws nm j)):=by
   show _++(if k=5 then regsL (fun i=>thr way (ofW ws nm i)) 0 (rs.take (j+1)) (rs'.take (j+1)) else [])=(_++(if k=5 then regsL (fun i=>thr way (ofW ws nm i)) 0 (rs.take j) (rs'.take j) else []))++_
   rw[if_pos h5k,if_pos h5k,List.append_assoc]
   congr 1
   rw[List.take_add_one,List.take_add_one,List.getElem?_eq_getElem hl,List.getElem?_eq_getElem hl']
   have:=regsL_snoc (fun i=>thr way (ofW ws nm i)) rs[j] rs'[j] 0 (rs.take j) (rs'.take j) (by simp;omega)
   simp only[Nat.zero_add,List.length_take] at this
   rw[Nat.min_eq_left (by omega)] at this
   exact this
  rw[this,prs_app]
  exact o9
 have hj:P5 j=P5 rs.length:=by
  by_cases h5k:k=5
  ·have:j=rs.length:=by have:=hj5 h5k;have:¬j<rs.length:=fun h=>hc ⟨h5k,h⟩;omega
   rw[this]
  ·show _++(if k=5 then _ else [])=_++(if k=5 then _ else [])
   rw[if_neg h5k,if_neg h5k]
 rw[hj] at o5
 let fW:Nat→Int:=fun i=>if k=5 then thr way (ofW ws nm (rs.length+i)) else if k=7∧mu=true then thr way 3 else way
 have hfW:∀i,W4 (fW i):=fun i=>by
  show W4 (if k=5 then thr way (ofW ws nm (rs.length+i)) else if k=7∧mu=true then thr way 3 else way)
  split
  ·exact hway.thr (hW _ _)
  ·split
   ·exact hway.thr (by unfold W4;omega)
   ·exact hway
 refine⟨fun s i h'=>∃j:Nat,i=j∧j≤az.length∧Grow h2 h'∧Own h' h2.size 2 s (prs (P5 rs.length++seeA (seeL (ofW ws)) fW 0 (az.take j) (az'.take j))),fun _ i _=>az.length - i.toNat,⟨0,rfl,Nat.zero_le _,g5,by simpa [seeA] using o5⟩,?_⟩
 clear hjn hj5 hc hj
 rintro s6 _ h6 ⟨j,rfl,hj,g6,o6⟩
 have G6:=g2.trans g6
 have s6z:=g6.size
 have T1:=Tv6.blk (g6.blk B1 fun h=>h)
 have T2:=Tv6.blk (g6.blk b2 fun h=>h)
 refine⟨_,T1.2.2.2.2.2,?_⟩
 dsimp only
 rw[e6]
 refine ifb_iff (q:=j<az.length) (by simp) (fun hl=>?_) (fun hl=>?_)
 ·have hl':j<az'.length:=by omega
  refine⟨fun x h'=>x=(if k=7∧mu=true then thr way 3 else way)∧h6=h',?_,?_⟩
  ·refine⟨_,T1.1,?_⟩
   rw[e1]
   refine⟨fun x=>x=(decide (k=7) && mu),⟨fun e=>⟨_,T1.2.2.1,?_⟩,fun e=>?_⟩,?_⟩
   ·have:k=7:=by simpa using e
    rw[e3,decide_eq_true this,Bool.true_and]
   ·have:¬k=7:=by simpa using e
    rw[decide_eq_false this,Bool.false_and]
   rintro _ rfl
   refine ifb_iff (q:=k=7∧mu=true) (by simp) (fun h7=>?_) (fun h7=>⟨by rw[if_neg h7],rfl⟩)
   refine cal_of (thrR_spec hway (by unfold W4;omega)) ?_
   rintro _ _ ⟨rfl,rfl⟩
   exact⟨_,rfl,by rw[if_pos h7],rfl⟩
  rintro _ _ ⟨rfl,rfl⟩
  refine⟨fun x h'=>x=fW j∧h6=h',?_,?_⟩
  ·refine⟨_,T1.1,?_⟩
   rw[e1]
   refine ifb_iff (q:=k=5) (by simp) (fun h5=>?_) (fun h5=>⟨by show _=if k=5 then _ else _;rw[if_neg h5],rfl⟩)
   refine⟨_,T1.2.1,_,T1.2.2.2.2.1,?_⟩
   dsimp only
   rw[e2,e5.len]
   have hw2:IntKind.i64.wrap (((rs.length:Nat):Int)+(j:Int))=((rs.length+j:Nat):Int):=by rw[wrap64_id (by omega) (by omega)];rfl
   rw[hw2]
   refine cal_of (way_spec (hw.fr G6 fun _ _ h=>h) nm (rs.length+j)) ?_
   rintro _ _ ⟨rfl,rfl⟩
   refine⟨_,rfl,cal_of (thrR_spec hway (hW _ _)) ?_⟩
   rintro _ _ ⟨rfl,rfl⟩
   exact⟨_,rfl,by show _=if k=5 then _ else _;rw[if_pos h5],rfl⟩
  rintro _ _ ⟨rfl,rfl⟩
  refine⟨_,T1.2.2.2.2.2,args_get (hv.grow G6) hl fun ua hua=>?_⟩
  refine⟨_,T2.2.2.2.2.2,args_get (hv'.grow G6) hl' fun uc huc=>?_⟩
  have hsz:=G6.size
  refine cal_of (ih _ (List.getElem_mem hl) az'[j] m (by omega) (hall _ (List.getElem_mem hl)) (hsi j hl hl') ua uc _ _ (hfW j) (hua.weak fun b hb _=>by omega) (huc.weak fun b hb _=>by omega) ((hw.weak fun b hb _=>by omega).fr G6 fun _ _ h=>h)) ?_
  rintro _ h7 ⟨f7,s7,rfl,o7⟩
  refine⟨s7,rfl,?_⟩
  have hl7:=seeL_len (ofW ws) m az[j] (fW j) az'[j] (hall _ (List.getElem_mem hl))
  have hn7:s7.n=(seeL (ofW ws) az[j] (fW j) az'[j]).length:=by have:=o7.len;rw[prs_len] at this;omega
  have hn6:s6.n=(P5 rs.length++seeA (seeL (ofW ws)) fW 0 (az.take j) (az'.take j)).length:=by have:=o6.len;rw[prs_len] at this;omega
  have hp5:=hP5 rs.length
  have hsl:(seeA (seeL (ofW ws)) fW 0 (az.take j) (az'.take j)).length≤4*bnd m:=
   Nat.le_trans (seeA_len fW 0 _ _ fun a ha w b=>seeL_len (ofW ws) m a w b (hall a (List.mem_of_mem_take ha))) (Nat.mul_le_mul_right _ (by simp;omega))
  rw[List.length_append] at hn6
  refine appS_own rfl (o6.frame f7 fun _ _ h=>h) (news:=prs (seeL (ofW ws) az[j] (fW j) az'[j])) (by rw[prs_len,hn7]) o7.row (one_prs _) (by have:=f7.size;omega) (by omega) (by omega) ?_
  intro s9 h9 _ o9 f9 own9
  rw[wrap_succ hl (by omega)]
  refine⟨⟨j+1,rfl,hl,(g6.trans f7).trans' f9 fun i hi e=>by have:=(o6.ge e).1;omega,?_⟩,by simp;omega⟩
  have:seeA (seeL (ofW ws)) fW 0 (az.take (j+1)) (az'.take (j+1))=seeA (seeL (ofW ws)) fW 0 (az.take j) (az'.take j)++seeL (ofW ws) az[j] (fW j) az'[j]:=by
   rw[List.take_add_one,List.take_add_one,List.getElem?_eq_getElem hl,List.getElem?_eq_getElem hl']
   have:=seeA_snoc (seeL (ofW ws)) fW az[j] az'[j] 0 (az.take j) (az'.take j) (by simp;omega)
   simp only[Nat.zero_add,List.length_take] at this
   rw[Nat.min_eq_left (by omega)] at this
   exact this
  rw[this,←List.append_assoc,prs_app]
  exact o9
 ·have hje:j=az.length:=by omega
  subst hje
  rw[List.take_length,hlA,List.take_length] at o6
  refine⟨G6,_,rfl,own_low (B:=h2.size) (B':=h.size) ?_ (by omega)⟩
  have:P5 rs.length++seeA (seeL (ofW ws)) fW 0 az az'=seeL (ofW ws) (.mk k nm mu r rs az) way (.mk k' nm' mu' r' rs' az'):=by
   rw[seeL_mk]
   show ((if k=7∨k=8 then lifeL r r' way else [])++(if k=5 then regsL (fun i=>thr way (ofW ws nm i)) 0 (rs.take rs.length) (rs'.take rs.length) else []))++seeA (seeL (ofW ws)) (fun i=>if k=5 then thr way (ofW ws nm (rs.length+i)) else if k=7∧mu=true then thr way 3 else way) 0 az az'=_
   by_cases h5:k=5
   ·have hrl:rs.length=rs'.length:=by simpa [h5] using hs5
    rw[if_pos h5,if_pos h5,if_neg (by omega),List.nil_append,List.take_length]
    rw[hrl,List.take_length]
    congr 2
    funext i
    rw[if_pos h5]
   ·rw[if_neg h5,if_neg h5,List.append_nil]
    congr 2
    funext i
    rw[if_neg h5]
  rw[←this]
  exact o6
end
end Go.Proofs.Yteofligmdngdgaa
namespace Go.Proofs.Yteofligmdngdgaa
open Go Go.Lf
set_option linter.unusedVariables false
def outs {σ:Type} (g:σ→Int→Int) (nx:σ→Int→σ):σ→List Int→List Int
 | _,[]=>[]
 | s,x :: xs=>g s x :: outs g nx (nx s x) xs
def fins {σ:Type} (nx:σ→Int→σ):σ→List Int→σ
 | s,[]=>s
 | s,x :: xs=>fins nx (nx s x) xs
section
variable {σ:Type} {g:σ→Int→Int} {nx:σ→Int→σ}
theorem outs_len:∀(s:σ) (xs:List Int),(outs g nx s xs).length=xs.length
 | _,[]=>rfl
 | s,x :: xs=>by simp[outs,outs_len]
theorem fins_app:∀(s:σ) (xs ys:List Int),fins nx s (xs++ys)=fins nx (fins nx s xs) ys
 | _,[],_=>rfl
 | s,x :: xs,ys=>by simp[fins,fins_app (nx s x) xs ys]
theorem outs_app:∀(s:σ) (xs ys:List Int),outs g nx s (xs++ys)=outs g nx s xs++outs g nx (fins nx s xs) ys
 | _,[],_=>rfl
 | s,x :: xs,ys=>by simp[outs,fins,outs_app (nx s x) xs ys]
end
structure Clos (P:Program) (fv:Value) (C:Nat→Prop) {σ:Type} (I:σ→Heap→Prop) (g:σ→Int→Int) (nx:σ→Int→σ):Prop where
 some:isNilF fv=some false
 fr:∀(T:Nat→Prop) s h h',I s h→Fr T h h'→(∀b,C b→¬T b)→I s h'
 call:∀s r h,I s h→∃fno caps,fv=.func (.func fno) #[] caps∧IsFn P fno∧CallsH P fno (#[.int .i64 r]++caps) h (fun x h'=>x=.int .i64 (g s r)∧Fr C h h'∧I (nx s r) h')
theorem withT_ext:∀(t:Ty) (xs ys:List Int),xs.take (allT t).length=ys.take (allT t).length→withT t xs=withT t ys:=by
 intro t
 refine Ty.ind (P:=fun t=>∀(xs ys:List Int),xs.take (allT t).length=ys.take (allT t).length→withT t xs=withT t ys) ?_ t
 intro k nm mu r rs az ih xs ys h
 rw[allT_mk,List.length_append] at h
 rw[withT_mk,withT_mk]
 generalize ho:(ownL (.mk k nm mu r rs az)).length=o at *
 have h1:xs.take o=ys.take o:=by
  have:=congrArg (List.take o) h
  rwa [List.take_take,List.take_take,Nat.min_eq_left (by omega)] at this
 have h2:(xs.drop o).take (az.flatMap allT).length=(ys.drop o).take (az.flatMap allT).length:=by
  have:=congrArg (List.drop o) h
  rwa [List.drop_take,List.drop_take,Nat.add_sub_cancel_left] at this
 have hA:∀(bz:List Ty) (xs ys:List Int),(∀b∈bz,b∈az)→xs.take (bz.flatMap allT).length=ys.take (bz.flatMap allT).length→withA withT allT bz xs=withA withT allT bz ys:=by
  intro bz
  induction bz with
  | nil=>intro _ _ _ _;rfl
  | cons b bz ihb=>
   intro xs ys hb h
   rw[List.flatMap_cons,List.length_append] at h
   simp only[withA]
   have g1:=congrArg (List.take (allT b).length) h
   rw[List.take_take,List.take_take,Nat.min_eq_left (by omega)] at g1
   have g2:=congrArg (List.drop (allT b).length) h
   rw[List.drop_take,List.drop_take,Nat.add_sub_cancel_left] at g2
   rw[ih b (hb b (by simp)) xs ys g1,ihb _ _ (fun x hx=>hb x (by simp[hx])) g2]
 rw[hA az _ _ (fun _ h=>h) h2,h1]
 congr 1
 by_cases h5:k=5
 ·rw[if_pos h5,if_pos h5]
 ·rw[if_neg h5,if_neg h5]
  by_cases h1':o=1
  ·rw[if_pos h1',if_pos h1']
   subst h1'
   cases xs with
   | nil=>
    cases ys with
    | nil=>rfl
    | cons y ys=>simp at h1
   | cons x xs=>
    cases ys with
    | nil=>simp at h1
    | cons y ys=>
     simp at h1
     simp[h1]
  ·rw[if_neg h1',if_neg h1']
section
variable {Q:Nat→Prop} {h:Heap}
theorem c6_take:∀(us:List Tv) (i:Nat),(c6 us).take (i*6)=c6 (us.take i)
 | [],i=>by simp[c6]
 | a :: us,0=>by simp[c6]
 | a :: us,i+1=>by
  have e:c6 (a :: us)=(tvs a).toList++c6 us:=rfl
  have e2:c6 ((a :: us).take (i+1))=(tvs a).toList++c6 (us.take i):=rfl
  rw[e,e2,←c6_take us i,List.take_append]
  have hl:(tvs a).toList.length=6:=rfl
  rw[hl,List.take_of_length_le (by rw[hl];omega)]
  congr 2
  omega
theorem c6_drop:∀(us:List Tv) (i:Nat),(c6 us).drop (i*6)=c6 (us.drop i)
 | [],i=>by simp[c6]
 | a :: us,0=>by simp[c6]
 | a :: us,i+1=>by
  have e:c6 (a :: us)=(tvs a).toList++c6 us:=rfl
  rw[e,List.drop_succ_cons,←c6_drop us i,List.drop_append]
  have hl:(tvs a).toList.length=6:=rfl
  rw[hl,List.drop_of_length_le (by rw[hl];omega),List.nil_append]
  congr 1
  omega
theorem c6_set (us:List Tv) (i:Nat) (hi:i<us.length) (u:Tv):(c6 us).take (i*6)++(tvs u).toList++(c6 us).drop (i*6+6)=c6 (us.set i u):=by
 rw[c6_take,show i*6+6=(i+1)*6 by omega,c6_drop,List.set_eq_take_append_cons_drop,if_pos hi,c6_app]
 have:c6 (u :: us.drop (i+1))=(tvs u).toList++c6 (us.drop (i+1)):=rfl
 rw[this,List.append_assoc]
theorem ints_set (xs:List Int) (i:Nat) (hi:i<xs.length) (x:Int):(ints xs).take i++[Value.int .i64 x]++(ints xs).drop (i+1)=ints (xs.set i x):=by
 unfold ints
 rw[List.set_eq_take_append_cons_drop,if_pos hi,List.map_append,List.map_cons,List.map_take,List.map_drop]
 simp
theorem args_row {k:Int} {nm:ByteArray} {mu:Bool} {r:Int} {rs:List Int} {az:List Ty} {v:Tv} (x:TyAt Q h (.mk k nm mu r rs az) v):∃us:List Tv,us.length=az.length∧RowO h v.az.a (c6 us)∧∀i (hi:i<us.length) (hi':i<az.length),TyAt Q h az[i] us[i]:=by
 obtain⟨-,-,-,-,-,e6,e7⟩:=tyAt_iff.1 x
 have key:∀i,i<az.length→∃u:Tv,∃p,v.az.a=some p∧Tv6 h (p.add (i*6)) u∧∀(hi:i<az.length),TyAt Q h az[i] u:=by
  intro i hi
  obtain⟨p,u,q1,q2,q3,q4⟩:=e7 i hi
  exact⟨u,p,q1,q3,fun _=>q4⟩
 have:∃us:List Tv,us.length=az.length∧∀i (hi:i<us.length),∃p,v.az.a=some p∧Tv6 h (p.add (i*6)) us[i]∧∀(hi':i<az.length),TyAt Q h az[i] us[i]:=by
  refine⟨(List.range az.length).attach.map fun i=>Classical.choose (key i.1 (by simpa using i.2)),by simp,fun j hj=>?_⟩
  simp only[List.getElem_map,List.getElem_attach,List.getElem_range]
  exact Classical.choose_spec (key j (by simpa using hj))
 obtain⟨us,hl,hall⟩:=this
 refine⟨us,hl,?_,fun i hi hi'=>by obtain⟨p,_,_,h3⟩:=hall i hi;exact h3 hi'⟩
 cases ha:v.az.a with
 | none=>
  cases us with
  | nil=>rfl
  | cons u us=>
   obtain⟨p,e,_⟩:=hall 0 (by simp)
   rw[ha] at e;cases e
 | some p=>
  intro j w hw
  have hj:j<(c6 us).length:=(List.getElem?_eq_some_iff.1 hw).1
  rw[c6_len] at hj
  have hi:j / 6<us.length:=by omega
  obtain⟨q,e,T,_⟩:=hall (j / 6) hi
  rw[ha] at e
  simp only[Option.some.injEq] at e
  subst e
  have hq:j % 6<6:=by omega
  have ej:j=j / 6*6+j % 6:=by omega
  rw[ej] at hw ⊢
  rw[c6_get us (j / 6) hi (j % 6) hq] at hw
  generalize j % 6=m at *
  rw[←add_add]
  obtain⟨c0,c1,c2,c3,c4,c5⟩:=T
  match m,hq with
  | 0,_=>rw[add_zero,c0];exact hw
  | 1,_=>rw[c1];exact hw
  | 2,_=>rw[c2];exact hw
  | 3,_=>rw[c3];exact hw
  | 4,_=>rw[c4];exact hw
  | 5,_=>rw[c5];exact hw
theorem one_c6l (us:List Tv):∀u∈c6 us,u.oneCell'=true:=by
 intro u hu
 obtain⟨v,_,hu⟩:=List.mem_flatMap.1 hu
 exact one_c6 v u hu
theorem own_empty' (sz:Nat) (h:Heap) (B:Nat) (E:TypeId) (hB:B≤h.size):Own (h.push (.cells #[] E)) B sz ⟨some ⟨h.size,0,none⟩,0,0⟩ []:=
 ⟨by simp,.inr ⟨h.size,#[],rfl,hB,blk.new h #[] E,Nat.le_refl _,by simp,by simp⟩⟩
theorem cloneI_spec {s:Sv} {xs:List Int} (x:IntsAt h s xs) (hb:xs.length≤1000000):CallsH Try.prog 68 #[.slice s.a s.n s.c] h (fun v h'=>Grow h h'∧∃s':Sv,v=.slice s'.a s'.n s'.c∧Own h' h.size 1 s' (ints xs)):=by
 apply F68
 unfold L68
 refine⟨fun e=>⟨Fr.refl _ _,⟨none,0,0⟩,rfl,?_⟩,fun _=>?_⟩
 ·have:xs=[]:=by
   cases xs with
   | nil=>rfl
   | cons a xs=>
    obtain⟨p,e',_⟩:=x.at_ 0 (by simp)
    rw[e'] at e;cases e
  subst this
  exact Own.nil _ _ _
 ·rintro s5 h1 rfl rfl
  have f1:Grow h (h.push (.cells #[] 3)):=Fr.push _ _ _
  have i1:=x.keep f1 fun _ _ h=>h
  refine appS_own rfl (own_empty' 1 h h.size 3 (Nat.le_refl _)) (news:=ints xs) (by simp[ints,x.len]) (ints_row i1) (one_ints _) (by simp) (by dsimp only;rw[x.len];omega) (by dsimp only;rw[x.len];omega) ?_
  intro s' h' _ o' f' _
  exact⟨f1.trans' f' fun i hi ⟨a,ea,eb⟩=>(by simp only[Option.some.injEq] at ea;subst ea;simp only at eb;omega),s',rfl,by simpa using o'⟩
theorem cloneT_spec {s:Sv} {us:List Tv} (hn:s.n=us.length) (x:RowO h s.a (c6 us)) (hb:us.length≤1000000):CallsH Try.prog 61 #[.slice s.a s.n s.c] h (fun v h'=>Grow h h'∧∃s':Sv,v=.slice s'.a s'.n s'.c∧Own h' h.size 6 s' (c6 us)):=by
 apply F61
 unfold L61
 refine⟨fun e=>⟨Fr.refl _ _,⟨none,0,0⟩,rfl,?_⟩,fun _=>?_⟩
 ·have hs:s.a=none:=by simpa using e
  rw[hs] at x
  have x':c6 us=[]:=x
  have:us=[]:=by
   have:=congrArg List.length x'
   rw[c6_len] at this
   have h0:us.length*6=0:=this
   exact List.eq_nil_of_length_eq_zero (by omega)
  subst this
  exact Own.nil _ _ _
 ·rintro s5 h1 rfl rfl
  have f1:Grow h (h.push (.cells #[] 35)):=Fr.push _ _ _
  have x1:RowO (h.push (.cells #[] 35)) s.a (c6 us):=by
   cases ha:s.a with
   | none=>rw[ha] at x;exact x
   | some p=>rw[ha] at x;exact fun j v hv=>f1.clk (x j v hv) fun h=>h
  refine appS_own rfl (own_empty' 6 h h.size 35 (Nat.le_refl _)) (news:=c6 us) (by rw[c6_len,hn]) x1 (one_c6l _) (by simp) (by dsimp only;rw[hn];omega) (by dsimp only;rw[hn];omega) ?_
  intro s' h' _ o' f' _
  exact⟨f1.trans' f' fun i hi ⟨a,ea,eb⟩=>(by simp only[Option.some.injEq] at ea;subst ea;simp only at eb;omega),s',rfl,by simpa using o'⟩
end
end Go.Proofs.Yteofligmdngdgaa
namespace Go.Proofs.Yteofligmdngdgaa
open Go Go.Lf
set_option linter.unusedVariables false
section
variable {σ:Type} {g:σ→Int→Int} {nx:σ→Int→σ}
def ownO (g:σ→Int→Int) (t:Ty) (r:Int) (s:σ):Int:=if hasOwn t=true then g s r else r
def ownS (nx:σ→Int→σ) (t:Ty) (r:Int) (s:σ):σ:=if hasOwn t=true then nx s r else s
def regO (g:σ→Int→Int) (nx:σ→Int→σ) (k:Int) (rs:List Int) (s:σ):List Int:=if k=5 then outs g nx s rs else rs
def regS (nx:σ→Int→σ) (k:Int) (rs:List Int) (s:σ):σ:=if k=5 then fins nx s rs else s
theorem own_fin (k:Int) (nm:ByteArray) (mu:Bool) (r:Int) (rs:List Int) (az:List Ty) (s:σ):fins nx s (ownL (.mk k nm mu r rs az))=regS nx k rs (ownS nx (.mk k nm mu r rs az) r s):=by
 rw[ownL_has,fins_app]
 unfold regS ownS
 by_cases h5:k=5
 ·rw[if_pos h5,if_pos h5]
  split<;>rfl
 ·rw[if_neg h5,if_neg h5]
  split<;>rfl
theorem map_tree (k:Int) (nm:ByteArray) (mu:Bool) (r:Int) (rs:List Int) (az:List Ty) (s:σ) (bz:List Ty) (hl:bz.length=az.length)
  (hb:∀i (h1:i<bz.length) (h2:i<az.length),bz[i]=withT az[i] (outs g nx (fins nx (regS nx k rs (ownS nx (.mk k nm mu r rs az) r s)) ((az.take i).flatMap allT)) (allT az[i]))) :
  withT (.mk k nm mu r rs az) (outs g nx s (allT (.mk k nm mu r rs az)))=.mk k nm mu (ownO g (.mk k nm mu r rs az) r s) (regO g nx k rs (ownS nx (.mk k nm mu r rs az) r s)) bz:=by
 rw[withT_mk,allT_mk,outs_app,own_fin]
 have hol:(outs g nx s (ownL (.mk k nm mu r rs az))).length=(ownL (.mk k nm mu r rs az)).length:=outs_len _ _
 have hargs:withA withT allT az ((outs g nx s (ownL (.mk k nm mu r rs az))++outs g nx (regS nx k rs (ownS nx (.mk k nm mu r rs az) r s)) (az.flatMap allT)).drop (ownL (.mk k nm mu r rs az)).length)=bz:=by
  rw[←hol,List.drop_left]
  apply List.ext_getElem
  ·rw[withA_len,hl]
  ·intro i h1 h2
   have h3:i<az.length:=by rw[withA_len] at h1;exact h1
   rw[withA_get _ _ _ _ i h3 h1,hb i h2 h3]
   apply withT_ext
   have hsplit:az.flatMap allT=(az.take i).flatMap allT++(allT az[i]++(az.drop (i+1)).flatMap allT):=by
    have:az=az.take i++az[i] :: az.drop (i+1):=by simp
    conv=>lhs;rw[this]
    rw[List.flatMap_append,List.flatMap_cons]
   rw[hsplit,outs_app]
   have hl2:(outs g nx (regS nx k rs (ownS nx (.mk k nm mu r rs az) r s)) ((az.take i).flatMap allT)).length=((az.take i).flatMap allT).length:=outs_len _ _
   rw[←hl2,List.drop_left,outs_app,List.take_append_of_le_length (by rw[outs_len];exact Nat.le_refl _)]
 rw[hargs]
 congr 1
 ·unfold ownO
  rw[ownL_has] at hol ⊢
  by_cases h5:k=5
  ·have:hasOwn (.mk k nm mu r rs az)=false:=by unfold hasOwn;rw[h5];rfl
   rw[if_pos h5,this,if_neg (by simp)]
  ·rw[if_neg h5]
   by_cases ho:hasOwn (.mk k nm mu r rs az)=true
   ·rw[if_pos ho,if_pos ho,if_neg h5];rfl
   ·rw[if_neg ho,if_neg ho,if_neg h5];rfl
 ·unfold regO
  by_cases h5:k=5
  ·have hno:hasOwn (.mk k nm mu r rs az)=false:=by unfold hasOwn;rw[h5];rfl
   have hss:ownS nx (.mk k nm mu r rs az) r s=s:=by unfold ownS;rw[hno];rfl
   rw[if_pos h5,if_pos h5,←hol,List.take_left,hss,ownL_has,hno,if_pos h5]
   rfl
  ·rw[if_neg h5,if_neg h5]
section
variable {Q:Nat→Prop} {h:Heap} {fv:Value} {C:Nat→Prop} {I:σ→Heap→Prop}
theorem Clos.up {s:σ} {h h':Heap} (cl:Clos Try.prog fv C I g nx) (x:I s h) (f:Grow h h'):I s h':=cl.fr _ s h h' x f fun _ _ e=>e
theorem map_spec (cl:Clos Try.prog fv C I g nx):∀(t:Ty) (n:Nat) (_:n≤8) (_:small n t=true) (Q:Nat→Prop) (v:Tv) (h:Heap) (s:σ),(∀b,Q b→b<h.size∧¬C b)→(∀b,C b→b<h.size)→TyAt Q h t v→I s h →
  CallsH Try.prog 48 #[.agg (tvs v),fv] h (fun x h'=>Fr C h h'∧I (fins nx s (allT t)) h'∧∃v',x=.agg (tvs v')∧TyAt (fun b=>Q b∨h.size≤b) h' (withT t (outs g nx s (allT t))) v'):=by
 intro t
 refine Ty.ind (P:=fun t=>∀(n:Nat) (_:n≤8) (_:small n t=true) (Q:Nat→Prop) (v:Tv) (h:Heap) (s:σ),(∀b,Q b→b<h.size∧¬C b)→(∀b,C b→b<h.size)→TyAt Q h t v→I s h →
  CallsH Try.prog 48 #[.agg (tvs v),fv] h (fun x h'=>Fr C h h'∧I (fins nx s (allT t)) h'∧∃v',x=.agg (tvs v')∧TyAt (fun b=>Q b∨h.size≤b) h' (withT t (outs g nx s (allT t))) v')) ?_ t
 intro k nm mu r rs az ih n hn hsm Q v h s hQ hC hv hI
 obtain⟨m,rfl,ha4,hr6,hall⟩:=small_mk hsm
 obtain⟨vk,vnm,vmu,vr,vrs,vaz⟩:=v
 have hv0:=hv
 obtain⟨e1,e2,e3,e4,e5,e6,e7⟩:=tyAt_iff.1 hv
 dsimp only at e1 e2 e3 e4 e5 e6 e7
 subst e1 e2 e3 e4
 clear e7
 apply F48
 unfold L48
 refine new6 (v:=⟨vk,vnm,vmu,vr,vrs,vaz⟩) fun h1 b1 f1 z1=>newz fun h2 b2 f2 z2=>?_
 refine⟨false,cl.some,fun e=>(by cases e),fun _=>?_⟩
 have g2:Grow h h2:=f1.trans f2
 have B1:=f2.blk b1 fun h=>h
 have s1:h1.size=h.size+1:=z1
 have toC:∀ {a b:Heap},Grow a b→Fr C a b:=fun f=>f.mono fun _ _ e=>e.elim
 have hI2:=cl.up hI g2
 have nC:∀b,h.size≤b→¬C b:=fun b hb hc=>by have:=hC b hc;omega
 refine⟨fun h'=>blk h' h.size (tvs ⟨vk,vnm,vmu,ownO g (.mk vk vnm vmu vr rs az) vr s,vrs,vaz⟩)∧blk h' h1.size z6∧Fr C h h'∧I (ownS nx (.mk vk vnm vmu vr rs az) vr s) h'∧h2.size≤h'.size,?_,?_⟩
 ·refine rd6 (Tv6.blk B1) ?_
  refine cal_of (ownB_spec (hv.grow g2)) ?_
  rintro _ h4 ⟨f4,rfl⟩
  refine⟨_,rfl,fun e=>?_,fun e=>?_⟩
  ·have B4:=f4.blk B1 fun h=>h
   refine⟨_,(Tv6.blk B4).2.2.2.1,?_⟩
   obtain⟨fno,caps,hf,hfn,hc⟩:=cl.call s vr h4 (cl.up hI2 f4)
   refine⟨fno,caps,hf,hfn,cal_of hc ?_⟩
   rintro _ h5 ⟨rfl,f5,hI5⟩
   refine⟨_,rfl,?_⟩
   have B5:=f5.blk B4 (nC _ (Nat.le_refl _))
   rw[add_plain]
   refine sto_i B5 (by simp) ⟨?_,?_,?_,?_,?_⟩
   ·have:=B5.sc 3 (.int .i64 (g s vr))
    unfold ownO
    rw[if_pos e]
    exact this
   ·exact (Fr.scb _ _ _ _).blk (f5.blk (f4.blk b2 fun h=>h) (nC _ f1.size)) (by omega)
   ·exact ((toC (g2.trans f4)).trans f5).trans' (Fr.scb _ _ _ _) fun i hi e=>by omega
   ·unfold ownS
    rw[if_pos e]
    exact cl.fr _ _ _ _ hI5 (Fr.scb h5 h.size (0+3) (.int .i64 (g s vr))) fun b hb e=>by have:=hC b hb;omega
   ·rw[sc_size];have:=f4.size;have:=f5.size;omega
  ·unfold ownO ownS
   rw[if_neg (by rw[e];simp),if_neg (by rw[e];simp)]
   exact⟨f4.blk B1 fun h=>h,f4.blk b2 fun h=>h,toC (g2.trans f4),cl.up hI2 f4,f4.size⟩
 rintro h7 ⟨B7,b7,F7,I7,S7⟩
 generalize hRR:ownO g (.mk vk vnm vmu vr rs az) vr s=R at *
 generalize hs1:ownS nx (.mk vk vnm vmu vr rs az) vr s=σ1 at *
 have qb:∀b,Q b→b<h.size:=fun b hb=>(hQ b hb).1
 refine⟨fun h'=>∃rs',blk h' h.size (tvs ⟨vk,vnm,vmu,R,rs',vaz⟩)∧blk h' h1.size z6∧Fr C h h'∧I (regS nx vk rs σ1) h'∧h2.size≤h'.size ∧
  IntsC (fun b=>(Q b∨h2.size≤b)∧b<h'.size) h' rs' (regO g nx vk rs σ1),?_,?_⟩
 ·refine⟨_,(Tv6.blk B7).1,?_⟩
  refine ifb_iff (q:=vk=5) (by simp) (fun h5=>?_) (fun h5=>?_)
  rotate_left
  ·unfold regO regS
   rw[if_neg h5,if_neg h5]
   exact⟨vrs,B7,b7,F7,I7,S7,(e5.fr F7 fun b hb hc=>(hQ b hb).2 hc).weak fun b hb hl=>⟨.inl hb,hl⟩⟩
  unfold regO regS
  rw[if_pos h5,if_pos h5]
  refine⟨_,(Tv6.blk B7).2.2.2.2.1,?_⟩
  have i7:=(e5.fr F7 fun b hb hc=>(hQ b hb).2 hc).ints
  refine cal_of (cloneI_spec i7 (by omega)) ?_
  rintro _ h8 ⟨f8,sq,rfl,o8⟩
  refine⟨sq,rfl,?_⟩
  have B8:=f8.blk B7 fun h=>h
  have b8:=f8.blk b7 fun h=>h
  have s8:=f8.size
  rw[add_plain]
  refine sto_i B8 (by simp) ?_
  have B9:blk (sc h8 ⟨h.size,0+4,none⟩ (.slice sq.a sq.n sq.c)) h.size (tvs ⟨vk,vnm,vmu,R,sq,vaz⟩):=B8.sc 4 (.slice sq.a sq.n sq.c)
  have f9:Fr (fun b=>b=h.size) h8 (sc h8 ⟨h.size,0+4,none⟩ (.slice sq.a sq.n sq.c)):=Fr.scb _ _ _ _
  have s9:(sc h8 ⟨h.size,0+4,none⟩ (.slice sq.a sq.n sq.c)).size=h8.size:=sc_size _ _ _
  generalize sc h8 ⟨h.size,0+4,none⟩ (.slice sq.a sq.n sq.c)=h9 at *
  have o9:=o8.frame f9 fun b hb e=>by have:=(o8.ge hb).1;omega
  refine⟨_,(Tv6.blk B9).2.2.2.2.1,?_⟩
  have hsn:sq.n=rs.length:=by have:=o9.len;simp[ints] at this;omega
  dsimp only
  rw[hsn]
  refine⟨fun x h'=>∃j:Nat,x=j∧j≤rs.length∧Own h' h7.size 1 sq (ints (outs g nx σ1 (rs.take j)++rs.drop j))∧I (fins nx σ1 (rs.take j)) h'∧blk h' h.size (tvs ⟨vk,vnm,vmu,R,sq,vaz⟩)∧blk h' h1.size z6∧Fr C h h'∧h2.size≤h'.size,fun x _=>rs.length - x.toNat,
   ⟨0,rfl,Nat.zero_le _,by simpa [outs] using o9,?_,B9,f9.blk b8 (by omega),?_,by omega⟩,?_⟩
  ·exact cl.fr _ _ _ _ (cl.up I7 f8) f9 fun b hb e=>by have:=hC b hb;omega
  ·exact (F7.trans (toC f8)).trans' f9 fun i hi e=>by omega
  rintro _ h10 ⟨j,rfl,hj,o10,I10,B10,b10,F10,S10⟩
  refine ifb_iff (q:=j<rs.length) (by simp) (fun hl=>?_) (fun hl=>?_)
  rotate_left
  ·have hje:j=rs.length:=by omega
   subst hje
   rw[List.take_length,List.drop_length,List.append_nil] at o10
   rw[List.take_length] at I10
   exact⟨sq,B10,b10,F10,I10,S10,IntsQ.of (own_ints o10) fun b hb hlt=>⟨.inr (by have:=(o10.ge hb).1;omega),hlt⟩,own_cap o10⟩
  have hlo:(outs g nx σ1 (rs.take j)).length=j:=by rw[outs_len,List.length_take];omega
  have hget:j<(outs g nx σ1 (rs.take j)++rs.drop j).length:=by rw[List.length_append,hlo,List.length_drop];omega
  have hval:(outs g nx σ1 (rs.take j)++rs.drop j)[j]=rs[j]:=by
   rw[List.getElem_append_right (by omega)]
   simp[hlo]
  have q10:=(own_ints o10).at_ j hget
  obtain⟨p,ea,c10⟩:=q10
  rw[hval] at c10
  refine⟨p,ea,by omega,by rw[hsn];omega,_,by rw[Int.toNat_natCast];exact c10,?_⟩
  refine⟨fun h'=>blk h' h.size (tvs ⟨vk,vnm,vmu,R,sq,vaz⟩),B10,sq,fun h' hs=>(Tv6.blk hs).2.2.2.2.1,?_⟩
  obtain⟨fno,caps,hf,hfn,hc⟩:=cl.call (fins nx σ1 (rs.take j)) rs[j] h10 I10
  refine⟨fno,caps,hf,hfn,cal_of hc ?_⟩
  rintro _ h11 ⟨rfl,f11,hI11⟩
  have B11:=f11.blk B10 (nC _ (Nat.le_refl _))
  refine⟨_,rfl,B11,p,ea,by omega,by rw[hsn];omega,?_⟩
  have o11:=o10.frame f11 fun b hb e=>nC b (by have:=(o10.ge hb).1;omega) e
  rw[Int.toNat_natCast]
  refine own_sto o11 (by omega) rfl ea fun h12 o12 f12=>?_
  rw[ints_set _ j hget] at o12
  have hown:∀b,sq.own b→h7.size≤b:=fun b hb=>(o11.ge hb).1
  rw[wrap_succ hl (by omega)]
  refine⟨⟨j+1,rfl,hl,?_,?_,f12.blk B11 fun e=>by have:=hown _ e;omega,f12.blk (f11.blk b10 (nC _ f1.size)) fun e=>by have:=hown _ e;omega,(F10.trans f11).trans' f12 fun i hi e=>by have:=hown _ e;omega,?_⟩,by simp;omega⟩
  ·have:(outs g nx σ1 (rs.take j)++rs.drop j).set j (g (fins nx σ1 (rs.take j)) rs[j])=outs g nx σ1 (rs.take (j+1))++rs.drop (j+1):=by
    rw[List.take_succ_eq_append_getElem hl,outs_app,List.drop_eq_getElem_cons hl,List.set_append_right _ _ (by omega),hlo,Nat.sub_self,List.set_cons_zero]
    simp[outs]
   rw[←this];exact o12
  ·rw[List.take_succ_eq_append_getElem hl,fins_app]
   exact cl.fr _ _ _ _ hI11 f12 fun b hb e=>by have:=hown b e;have:=hC b hb;omega
  ·have:=f11.size;have:=f12.size;omega
 rintro h13 ⟨rs',B13,b13,F13,I13,S13,i13⟩
 generalize hs2:regS nx vk rs σ1=σ2 at *
 generalize hRS:regO g nx vk rs σ1=RS at *
 refine⟨_,(Tv6.blk B13).2.2.2.2.2,?_⟩
 have hv13:TyAt Q h13 (.mk vk vnm vmu vr rs az) ⟨vk,vnm,vmu,vr,vrs,vaz⟩:=hv0.fr F13 fun b hb hc=>(hQ b hb).2 hc
 obtain⟨us,hul,hrow,hus⟩:=args_row hv13
 dsimp only at hrow
 refine cal_of (cloneT_spec (s:=vaz) (us:=us) (by rw[e6,hul]) hrow (by omega)) ?_
 rintro _ h14 ⟨f14,sq,rfl,o14⟩
 refine⟨sq,rfl,?_⟩
 have B14:=f14.blk B13 fun h=>h
 have b14:=f14.blk b13 fun h=>h
 have s14:=f14.size
 rw[add_plain]
 refine sto_i B14 (by simp) ?_
 have B15:blk (sc h14 ⟨h.size,0+5,none⟩ (.slice sq.a sq.n sq.c)) h.size (tvs ⟨vk,vnm,vmu,R,rs',sq⟩):=B14.sc 5 (.slice sq.a sq.n sq.c)
 have f15:Fr (fun b=>b=h.size) h14 (sc h14 ⟨h.size,0+5,none⟩ (.slice sq.a sq.n sq.c)):=Fr.scb _ _ _ _
 have s15:(sc h14 ⟨h.size,0+5,none⟩ (.slice sq.a sq.n sq.c)).size=h14.size:=sc_size _ _ _
 generalize sc h14 ⟨h.size,0+5,none⟩ (.slice sq.a sq.n sq.c)=h15 at *
 have o15:=o14.frame f15 fun b hb e=>by have:=(o14.ge hb).1;omega
 refine⟨_,(Tv6.blk B15).2.2.2.2.2,?_⟩
 have hsn:sq.n=az.length:=by have:=o15.len;rw[c6_len] at this;omega
 have hown:∀b,sq.own b→h13.size≤b∧b<h14.size:=fun b hb=>o14.ge hb
 dsimp only
 rw[hsn]
 let QE:Nat→Prop:=fun b=>(Q b∨h2.size≤b)∧¬sq.own b
 have qe:∀b,QE b→b≠h.size∧b≠h1.size∧¬C b∧¬sq.own b:=fun b hb=>by
  refine⟨?_,?_,?_,hb.2⟩
  ·rcases hb.1 with e|e
   ·have:=qb b e;omega
   ·omega
  ·rcases hb.1 with e|e
   ·have:=qb b e;omega
   ·omega
  ·rcases hb.1 with e|e
   ·exact (hQ b e).2
   ·exact nC b (by omega)
 refine⟨fun x h'=>∃(j:Nat) (ws:List Tv),x=j∧j≤az.length∧ws.length=az.length∧Own h' h13.size 6 sq (c6 ws)∧I (fins nx σ2 ((az.take j).flatMap allT)) h'∧blk h' h.size (tvs ⟨vk,vnm,vmu,R,rs',sq⟩)∧blk h' h1.size z6∧Fr C h h'∧h14.size≤h'.size ∧
   IntsC (fun b=>(Q b∨h2.size≤b)∧b<h13.size) h' rs' RS ∧
   ∀i (h1:i<ws.length) (h2:i<az.length),TyAt QE h' (if i<j then withT az[i] (outs g nx (fins nx σ2 ((az.take i).flatMap allT)) (allT az[i])) else az[i]) ws[i],fun x _=>az.length - x.toNat,
  ⟨0,us,rfl,Nat.zero_le _,hul,o15,?_,B15,f15.blk b14 (by omega),?_,by omega,?_,?_⟩,?_⟩
 ·exact cl.fr _ _ _ _ (cl.up I13 f14) f15 fun b hb e=>by have:=hC b hb;omega
 ·exact (F13.trans (toC f14)).trans' f15 fun i hi e=>by omega
 ·refine ((i13.fr f14 fun _ _ h=>h).fr f15 fun b hb e=>?_)
  rcases hb.1 with q|q
  ·have:=qb b q;omega
  ·omega
 ·intro i q1 q2
  rw[if_neg (Nat.not_lt_zero _)]
  refine (((hus i q1 q2).fr f14 fun _ _ h=>h).fr f15 fun b hb e=>by have:=qb b hb;omega).weak fun b hb _=>⟨.inl hb,fun e=>by have:=hown b e;have:=qb b hb;have:=F13.size;omega⟩
 rintro _ h16 ⟨j,ws,rfl,hj,hwl,o16,I16,B16,b16,F16,S16,i16,hws⟩
 refine ifb_iff (q:=j<az.length) (by simp) (fun hl=>?_) (fun hl=>?_)
 ·have hjw:j<ws.length:=by omega
  obtain⟨p,ea,-,T⟩:=own6 o16 hjw
  refine⟨p,ea,by omega,by rw[hsn];omega,rd6 (by rw[Int.toNat_natCast];exact T) ?_⟩
  refine newz fun h17 b17 f17 z17=>sto6 (v:=ws[j]) b17 rfl fun h18 b18 f18=>?_
  have f1618:Grow h16 h18:=f17.trans' f18 fun i hi e=>by omega
  have s1618:=f1618.size
  have tj:=hws j hjw hl
  rw[if_neg (Nat.lt_irrefl _)] at tj
  have B18:=f1618.blk B16 fun h=>h
  refine⟨fun h'=>blk h' h.size (tvs ⟨vk,vnm,vmu,R,rs',sq⟩),B18,rd6 (Tv6.blk b18) ⟨sq,fun h' hs=>(Tv6.blk hs).2.2.2.2.2,?_⟩⟩
  refine cal_of (ih _ (List.getElem_mem hl) m (by omega) (hall _ (List.getElem_mem hl)) (fun b=>QE b∧b<h18.size) ws[j] h18 _ (fun b hb=>⟨hb.2,(qe b hb.1).2.2.1⟩) (fun b hb=>by have:=hC b hb;have:=F16.size;omega) ((tj.grow f1618).weak fun b hb hl=>⟨hb,hl⟩) (cl.up I16 f1618)) ?_
  rintro _ h19 ⟨f19,I19,v',rfl,t19⟩
  have B19:=f19.blk B18 (nC _ (Nat.le_refl _))
  refine⟨_,_,_,_,_,_,rfl,B19,p,ea,by omega,by rw[hsn];omega,?_⟩
  have o19:=(o16.frame f1618 fun _ _ h=>h).frame f19 fun b hb e=>nC b (by have:=hown b hb;have:=F13.size;omega) e
  rw[Int.toNat_natCast]
  refine own_stoA o19 (by omega) (vs:=(tvs v').toList) rfl (one_c6 v') ea fun h20 o20 f20=>?_
  rw[c6_set ws j hjw] at o20
  have s19:=f19.size
  have s20:=f20.size
  have sF13:=F13.size
  rw[wrap_succ hl (by omega)]
  have all20:∀ {b},¬C b→¬sq.own b→∀cs,blk h16 b cs→blk h20 b cs:=fun hc ho cs k=>f20.blk (f19.blk (f1618.blk k fun h=>h) hc) ho
  refine⟨⟨j+1,ws.set j v',rfl,hl,by simp[hwl],o20,?_,all20 (nC _ (Nat.le_refl _)) (fun e=>by have:=hown _ e;omega) _ B16,all20 (nC _ f1.size) (fun e=>by have:=hown _ e;omega) _ b16,?_,by omega,?_,?_⟩,by simp;omega⟩
  ·rw[List.take_succ_eq_append_getElem hl,List.flatMap_append,fins_app]
   simp only[List.flatMap_cons,List.flatMap_nil,List.append_nil]
   exact cl.fr _ _ _ _ I19 f20 fun b hb e=>by have:=hown b e;have:=hC b hb;omega
  ·exact ((F16.trans (toC f1618)).trans f19).trans' f20 fun i hi e=>by have:=hown i e;omega
  ·refine ((i16.fr f1618 fun _ _ h=>h).fr f19 fun b hb e=>?_).fr f20 fun b hb e=>by have:=hown b e;omega
   rcases hb.1 with q|q
   ·exact (hQ b q).2 e
   ·exact nC b (by omega) e
  ·intro i q1 q2
   rw[List.length_set] at q1
   by_cases hij:i=j
   ·subst hij
    rw[if_pos (Nat.lt_succ_self _)]
    simp only[List.getElem_set_self]
    have x0:=t19.weak (Q':=QE) fun b hb hlt=>by
     rcases hb with hb|hb
     ·exact hb.1
     ·exact⟨.inr (by omega),fun e=>by have:=hown b e;omega⟩
    exact x0.fr f20 fun b hb=>(qe b hb).2.2.2
   ·rw[List.getElem_set_ne (fun e=>hij e.symm)]
    have e2:(i<j+1)=(i<j):=by
     apply propext;omega
    simp only[e2]
    exact (((hws i q1 q2).grow f1618).fr f19 fun b hb=>(qe b hb).2.2.1).fr f20 fun b hb=>(qe b hb).2.2.2
 ·have hje:j=az.length:=by omega
  subst hje
  refine rd6 (Tv6.blk B16) ?_
  refine sto6 (v:=⟨vk,vnm,vmu,R,rs',sq⟩) b16 rfl fun h21 b21 f21=>?_
  have sF:=F16.size
  refine rd6 (Tv6.blk b21) ⟨F16.trans' f21 fun i hi e=>by omega,?_,_,rfl,?_⟩
  ·rw[allT_mk,fins_app,own_fin,hs1,hs2,List.take_length] at *
   exact cl.fr _ _ _ _ I16 f21 fun b hb e=>by have:=hC b hb;omega
  ·have htree:=map_tree (g:=g) (nx:=nx) vk vnm vmu vr rs az s (bz:=(List.range az.length).map fun i=>if hh:i<az.length then withT az[i] (outs g nx (fins nx σ2 ((az.take i).flatMap allT)) (allT az[i])) else .mk 0 ⟨#[]⟩ false 0 [] []) (by simp) (fun i q1 q2=>by simp[q2,hs1,hs2])
   rw[htree,hs1,hRS]
   refine tyAt_iff.2 ⟨rfl,rfl,rfl,hRR.symm,?_,?_,fun i hi=>?_⟩
   ·refine (i16.fr f21 fun b hb e=>?_).weak fun b hb _=>hb.1.imp id fun q=>by omega
    rcases hb.1 with q|q
    ·have:=qb b q;omega
    ·omega
   ·simp[hsn]
   ·have hi':i<az.length:=by simpa using hi
    obtain⟨p,q1,q2,q3⟩:=own6 o16 (i:=i) (by omega)
    have hpb:=hown p.block q2
    refine⟨p,ws[i],q1,.inr (by omega),q3.fr f21 (by rw[add_block];omega),?_⟩
    have t0:=hws i (by omega) hi'
    rw[if_pos hi'] at t0
    simp only[List.getElem_map,List.getElem_range,hi',dite_true]
    exact (t0.fr f21 fun b hb e=>(qe b hb).2.1 e).weak fun b hb _=>hb.1.imp id fun q=>by omega
end
end
end Go.Proofs.Yteofligmdngdgaa
namespace Go.Proofs.Yteofligmdngdgaa
open Go Go.Lf
set_option linter.unusedVariables false
theorem small_wT:∀(n:Nat) (t:Ty) (xs:List Int),small n t=true→small n (withT t xs)=true:=by
 intro n
 induction n with
 | zero=>intro t xs h;cases t;cases h
 | succ n ih=>
  intro t xs h
  have h0:=ownL_len h
  obtain⟨k,nm,mu,r,rs,az⟩:=t
  have h':(decide (az.length≤4) && decide (rs.length≤6) && decide (nm.size≤60) && az.all (small n))=true:=h
  rw[withT_mk]
  show (decide ((withA withT allT az _).length≤4) && decide ((if k=5 then xs.take (ownL (.mk k nm mu r rs az)).length else rs).length≤6) && decide (nm.size≤60) && (withA withT allT az _).all (small n))=true
  simp only[Bool.and_eq_true,decide_eq_true_eq] at h' ⊢
  refine⟨⟨⟨by rw[withA_len];exact h'.1.1.1,?_⟩,h'.1.2⟩,?_⟩
  ·split
   ·rw[List.length_take];omega
   ·exact h'.1.1.2
  ·have hall:=h'.2
   have:∀(bz:List Ty) (ys:List Int),bz.all (small n)=true→(withA withT allT bz ys).all (small n)=true:=by
    intro bz
    induction bz with
    | nil=>intro ys _;rfl
    | cons b bz ihb=>
     intro ys hb
     simp only[withA,List.all_cons,Bool.and_eq_true] at hb ⊢
     exact⟨ih b _ hb.1,ihb _ hb.2⟩
   exact this _ _ hall
theorem allT_wT (t:Ty):∀(xs:List Int),(allT t).length≤xs.length→allT (withT t xs)=xs.take (allT t).length:=by
 refine Ty.ind (P:=fun t=>∀(xs:List Int),(allT t).length≤xs.length→allT (withT t xs)=xs.take (allT t).length) ?_ t
 intro k nm mu r rs az ih xs hx
 rw[allT_mk,List.length_append] at hx
 rw[withT_mk,allT_mk,allT_mk,List.length_append]
 generalize ho:(ownL (.mk k nm mu r rs az)).length=o at *
 have hargs:∀(bz:List Ty) (xs:List Int),(∀b∈bz,b∈az)→(bz.flatMap allT).length≤xs.length→(withA withT allT bz xs).flatMap allT=xs.take (bz.flatMap allT).length:=by
  intro bz
  induction bz with
  | nil=>intro xs _ _;simp[withA]
  | cons b bz ihb=>
   intro xs hb h1
   rw[List.flatMap_cons,List.length_append] at h1
   simp only[withA,List.flatMap_cons,List.length_append]
   rw[ih b (hb b (by simp)) _ (by omega),ihb _ (fun x hx=>hb x (by simp[hx])) (by rw[List.length_drop];omega),List.take_add]
 rw[hargs az _ (fun _ h=>h) (by rw[List.length_drop];omega),List.take_add]
 congr 1
 rw[ownL_has] at ho ⊢
 have hsame:hasOwn (.mk k nm mu (if k=5 then r else if o=1 then xs.getD 0 r else r) (if k=5 then xs.take o else rs) (withA withT allT az (xs.drop o)))=hasOwn (.mk k nm mu r rs az):=rfl
 rw[hsame]
 by_cases h5:k=5
 ·have hno:hasOwn (.mk k nm mu r rs az)=false:=by unfold hasOwn;rw[h5];rfl
  rw[hno,if_neg (by simp),if_pos h5,if_pos h5]
  rfl
 ·rw[if_neg h5] at ho ⊢
  rw[if_neg h5]
  by_cases hh:hasOwn (.mk k nm mu r rs az)=true
  ·rw[if_pos hh] at ho ⊢
   have ho1:o=1:=by rw[←ho];rfl
   rw[if_pos ho1]
   subst ho1
   cases xs with
   | nil=>simp at hx
   | cons x xs=>simp
  ·rw[if_neg hh] at ho ⊢
   have ho0:o=0:=by rw[←ho];rfl
   rw[ho0];rfl
end Go.Proofs.Yteofligmdngdgaa
namespace Go.Proofs.Yteofligmdngdgaa
open Go Go.Lf
set_option linter.unusedVariables false
structure Sch where
 b:Int
 outs:List (Int×Int)
 ps:List Ty
 ret:Ty
structure Scv where
 b:Int
 o:Sv
 p:Sv
 r:Tv
abbrev scv (s:Scv):Array Value:=#[.int .i64 s.b,.slice s.o.a s.o.n s.o.c,.slice s.p.a s.p.n s.p.c,.int .i64 s.r.k,.string s.r.nm,.bool s.r.mu,.int .i64 s.r.r,.slice s.r.rs.a s.r.rs.n s.r.rs.c,.slice s.r.az.a s.r.az.n s.r.az.c]
abbrev tN (ts:List Ty):Ty:=.mk 0 ⟨#[]⟩ false 0 [] ts
abbrev tNv (s:Sv):Tv:=⟨0,⟨#[]⟩,false,0,⟨none,0,0⟩,s⟩
structure SchAt (Q:Nat→Prop) (h:Heap) (S:Sch) (v:Scv):Prop where
 b:v.b=S.b
 outs:PrQ Q h v.o S.outs
 ps:TyAt Q h (tN S.ps) (tNv v.p)
 ret:TyAt Q h S.ret v.r
section
variable {Q Q' T:Nat→Prop} {h h':Heap} {S:Sch} {v:Scv}
theorem SchAt.fr (x:SchAt Q h S v) (f:Fr T h h') (hT:∀b,Q b→¬T b):SchAt Q h' S v:=⟨x.b,x.outs.fr f hT,x.ps.fr f hT,x.ret.fr f hT⟩
theorem SchAt.weak (x:SchAt Q h S v) (hq:∀b,Q b→b<h.size→Q' b):SchAt Q' h S v:=⟨x.b,x.outs.weak hq,x.ps.weak hq,x.ret.weak hq⟩
theorem SchAt.grow (x:SchAt Q h S v) (f:Grow h h'):SchAt Q h' S v:=x.fr f fun _ _ h=>h
theorem SchAt.n (x:SchAt Q h S v):v.p.n=S.ps.length:=(tyAt_iff.1 x.ps).2.2.2.2.2.1
end
structure SchSm (S:Sch):Prop where
 ps:S.ps.length≤4
 all:∀t∈S.ps,small 5 t=true
 ret:small 5 S.ret=true
 outs:S.outs.length≤20
theorem SchSm.mem {S:Sch} (x:SchSm S) {t:Ty} (h:t∈S.ps++[S.ret]):small 5 t=true:=by
 rcases List.mem_append.1 h with h|h
 ·exact x.all t h
 ·rw[List.mem_singleton.1 h];exact x.ret
structure SchIn (S:Sch) (m:Int):Prop where
 outs:∀p∈S.outs,(0≤p.1∧p.1≤m)∧0≤p.2∧p.2≤m
 all:∀t∈S.ps++[S.ret],∀r∈allT t,0≤r∧r≤m
section
variable {Q:Nat→Prop} {h:Heap}
theorem new9 {v:Scv} {K:Addr→Heap→Prop} (k:∀h',blk h' h.size (scv v)→Grow h h'→h'.size=h.size+1→K ⟨h.size,0,none⟩ h'):new 37 (scv v) h K:=by
 rintro p h' rfl rfl
 exact k _ (blk.new h _ _) (Fr.push _ _ _) (by simp)
structure Sc9 (h:Heap) (p:Addr) (v:Scv):Prop where
 b:cl h p=some (.int .i64 v.b)
 o:cl h (p.add 1)=some (.slice v.o.a v.o.n v.o.c)
 pp:cl h (p.add 2)=some (.slice v.p.a v.p.n v.p.c)
 k:cl h (p.add 3)=some (.int .i64 v.r.k)
 nm:cl h (p.add 4)=some (.string v.r.nm)
 mu:cl h (p.add 5)=some (.bool v.r.mu)
 r:cl h (p.add 6)=some (.int .i64 v.r.r)
 rs:cl h (p.add 7)=some (.slice v.r.rs.a v.r.rs.n v.r.rs.c)
 az:cl h (p.add 8)=some (.slice v.r.az.a v.r.az.n v.r.az.c)
theorem Sc9.blk {b:Nat} {v:Scv} (k:blk h b (scv v)):Sc9 h ⟨b,0,none⟩ v:=by
 refine⟨by rw[k.cl];rfl,?_,?_,?_,?_,?_,?_,?_,?_⟩<;>(rw[add_plain,k.cl];rfl)
theorem Sc9.ret {h:Heap} {p:Addr} {v:Scv} (x:Sc9 h p v):Tv6 h (p.add 3) v.r:=by
 refine⟨x.k,?_,?_,?_,?_,?_⟩<;>rw[add_add]
 ·exact x.nm
 ·exact x.mu
 ·exact x.r
 ·exact x.rs
 ·exact x.az
theorem rowO_grow {h h':Heap} {a:Option Addr} {cs:List Value} (x:RowO h a cs) (f:Grow h h'):RowO h' a cs:=by
 cases a with
 | none=>exact x
 | some p=>exact fun j v hv=>f.clk (x j v hv) fun h=>h
theorem row_new (h:Heap) (cs:Array Value) (E:TypeId):RowO (h.push (.cells cs E)) (some ⟨h.size,0,none⟩) cs.toList:=by
 intro j v hv
 rw[add_plain,(blk.new h cs E).cl]
 simpa using hv
structure RowT (Q:Nat→Prop) (h:Heap) (B:Nat) (s:Sv) (ts:List Ty) (us:List Tv):Prop where
 own:Own h B 6 s (c6 us)
 len:us.length=ts.length
 at_:∀i (hi:i<us.length) (hi':i<ts.length),TyAt Q h ts[i] us[i]
theorem RowT.n {h:Heap} {B:Nat} {s:Sv} {ts:List Ty} {us:List Tv} (x:RowT Q h B s ts us):s.n=ts.length:=by
 have:=x.own.len
 rw[c6_len] at this
 have:=x.len
 omega
theorem RowT.grow {h h':Heap} {B:Nat} {s:Sv} {ts:List Ty} {us:List Tv} (x:RowT Q h B s ts us) (f:Grow h h'):RowT Q h' B s ts us:=
 ⟨x.own.frame f fun _ _ h=>h,x.len,fun i hi hi'=>(x.at_ i hi hi').grow f⟩
theorem RowT.fr {T:Nat→Prop} {h h':Heap} {B:Nat} {s:Sv} {ts:List Ty} {us:List Tv} (x:RowT Q h B s ts us) (f:Fr T h h') (hQ:∀b,Q b→¬T b) (hT:∀b,s.own b→¬T b):RowT Q h' B s ts us:=
 ⟨x.own.frame f hT,x.len,fun i hi hi'=>(x.at_ i hi hi').fr f hQ⟩
theorem RowT.get {h:Heap} {B:Nat} {s:Sv} {ts:List Ty} {us:List Tv} (x:RowT Q h B s ts us) {i:Nat} (hi:i<ts.length) {K:Int→ByteArray→Bool→Int→Sv→Sv→Prop}
  (k:∀u,TyAt Q h ts[i] u→K u.k u.nm u.mu u.r u.rs u.az) :
  ixS s (i:Int) fun q=>∃k nm mu r,∃(rs az:Sv),(cl h (q.add ((i:Int).toNat*6))=some (.int .i64 k)∧cl h ((q.add ((i:Int).toNat*6)).add 1)=some (.string nm)∧cl h ((q.add ((i:Int).toNat*6)).add 2)=some (.bool mu)∧cl h ((q.add ((i:Int).toNat*6)).add 3)=some (.int .i64 r) ∧
   cl h ((q.add ((i:Int).toNat*6)).add 4)=some (.slice rs.a rs.n rs.c)∧cl h ((q.add ((i:Int).toNat*6)).add 5)=some (.slice az.a az.n az.c)∧K k nm mu r rs az):=by
 have hl:=x.len
 obtain⟨p,ea,_,T⟩:=own6 x.own (i:=i) (by omega)
 refine⟨p,ea,by omega,by rw[x.n];omega,?_⟩
 rw[Int.toNat_natCast]
 exact rd6 T (k _ (x.at_ i (by omega) hi))
theorem all_law {S:Sch} {v:Scv} (x:SchAt Q h S v) (sm:SchSm S) :
  CallsH Try.prog 40 #[.agg (scv v)] h (fun y h'=>Grow h h'∧∃(s:Sv) (us:List Tv),y=.slice s.a s.n s.c∧RowT Q h' h.size s (S.ps++[S.ret]) us):=by
 apply F40
 unfold L40
 refine new9 (v:=v) fun h1 b1 f1 z1=>?_
 have N1:=Sc9.blk b1
 have s1:=f1.size
 refine⟨_,N1.pp,?_⟩
 obtain⟨us,hus,hrow,hat⟩:=args_row x.ps
 have hn:v.p.n=us.length:=by rw[x.n,hus]
 refine⟨fun a b=>Grow a b,Pre.grow,?_⟩
 refine hd6 (fun h' f=>(Sc9.blk (f.blk b1 fun h=>h)).ret) ?_
 refine⟨fun s lo hi h'=>Own h' lo 6 s (c6 us),fun s lo hi a b f o=>o.frame f fun _ _ h=>h,fun s lo hi h'=>s.n=1∧RowO h' s.a (tvs v.r).toList,fun s lo hi a b f o=>⟨o.1,rowO_grow o.2 f⟩,?_,?_,?_⟩
 ·intro h2 f2
  have g2:=f1.trans f2
  refine cal_of (cloneT_spec hn (rowO_grow hrow g2) (by have:=sm.ps;omega)) ?_
  rintro _ h3 ⟨f3,s3,rfl,o3⟩
  exact⟨s3,rfl,f3,o3⟩
 ·intro h2 f2
  rintro s3 h3 rfl rfl
  exact⟨Fr.push _ _ _,rfl,row_new _ _ _⟩
 ·intro x5 lo2 hi2 s8 lo5 hi5 h10 f10 hD o5 r8
  obtain⟨⟨d1,d2,d3,-⟩,-⟩:=hD
  have g10:=f1.trans f10
  have hn5:x5.n=us.length:=by have:=o5.len;rw[c6_len] at this;omega
  have hps:=sm.ps
  refine appS_own rfl (own_low (B':=h.size) o5 (by omega)) (news:=(tvs v.r).toList) (by rw[r8.1];rfl) r8.2 (one_c6 v.r) g10.size (by rw[r8.1];omega) (by rw[r8.1];omega) ?_
  intro s' h' hn' o' f' own'
  have G:Grow h h':=g10.trans' f' fun i hi e=>by have:=(o5.ge e).1;omega
  have hc:c6 us++(tvs v.r).toList=c6 (us++[v.r]):=by rw[c6_app];simp[c6]
  rw[hc] at o'
  refine⟨G,s',us++[v.r],rfl,o',by simp[hus],fun i hi hi'=>?_⟩
  by_cases e:i<us.length
  ·rw[List.getElem_append_left e,List.getElem_append_left (by omega)]
   exact (hat i e (by omega)).grow G
  ·have e1:i=us.length:=by simp at hi;omega
   subst e1
   rw[List.getElem_append_right (by omega),List.getElem_append_right (by omega)]
   simp only[Nat.sub_self,hus,List.getElem_cons_zero]
   exact x.ret.grow G
end
end Go.Proofs.Yteofligmdngdgaa
namespace Go.Proofs.Yteofligmdngdgaa
open Go Go.Lf
set_option linter.unusedVariables false
section
variable {Q:Nat→Prop} {h:Heap}
theorem bad_spec {p:Addr} {most:Int} (c:cl h p=some (.int .i64 most)) (r:Int) (hr:0≤r∧r≤most):CallsH Try.prog 38 #[.int .i64 r,.pointer (some p)] h (fun v h'=>h=h'∧v=.bool false):=by
 apply F38
 unfold L38
 refine⟨fun x=>x=false,⟨fun e=>absurd (of_decide_eq_true e) (by omega),fun _=>⟨_,c,decide_eq_false (by omega)⟩⟩,?_⟩
 rintro _ rfl
 exact⟨rfl,rfl⟩
theorem isfn_bad:IsFn Try.prog 38:=⟨Try.f38,Try.func38,by kernel_rfl,by kernel_rfl⟩
theorem isfn_bad2:IsFn Try.prog 41:=⟨Try.f41,Try.func41,by kernel_rfl,by kernel_rfl⟩
theorem noInt_spec {p:Addr} {most:Int} {s:Sv} {xs:List Int} (c:cl h p=some (.int .i64 most)) (x:IntsAt h s xs) (hb:xs.length≤4611686018427387904) (hr:∀r∈xs,0≤r∧r≤most) :
  CallsH Try.prog 42 #[.slice s.a s.n s.c,.func (.func 38) #[] #[.pointer (some p)]] h (fun v h'=>h=h'∧v=.bool false):=by
 apply F42
 unfold L42
 refine cal_of (J:=fun v h'=>h=h'∧v=.int .i64 (-1)) ?_ ?_
 ·apply F62
  unfold L62
  refine⟨fun i h'=>∃j:Nat,i=j∧j≤xs.length∧h=h',fun i _=>xs.length - i.toNat,⟨0,rfl,Nat.zero_le _,rfl⟩,?_⟩
  rintro _ _ ⟨j,rfl,hj,rfl⟩
  refine ifb_iff (q:=j<xs.length) (by simp[x.len]) (fun hl=>?_) (fun hl=>⟨rfl,rfl⟩)
  refine x.get hl ?_
  refine⟨38,#[.pointer (some p)],rfl,isfn_bad,cal_of (bad_spec c xs[j] (hr _ (List.getElem_mem hl))) ?_⟩
  rintro _ _ ⟨rfl,rfl⟩
  refine⟨_,rfl,fun e=>(by cases e),fun _=>?_⟩
  rw[wrap_succ hl hb]
  exact⟨⟨j+1,rfl,hl,rfl⟩,by simp;omega⟩
 ·rintro _ _ ⟨rfl,rfl⟩
  exact⟨_,rfl,rfl,rfl⟩
theorem bad2_spec {p q:Addr} {most:Int} (c:cl h p=some (.int .i64 most)) (d:cl h q=some (.func (.func 38) #[] #[.pointer (some p)])) {t:Ty} {u:Tv} (hu:TyAt Q h t u) (sm:small 5 t=true)
  (hr:∀r∈allT t,0≤r∧r≤most):CallsH Try.prog 41 #[.agg (tvs u),.pointer (some q)] h (fun v h'=>Grow h h'∧v=.bool false):=by
 apply F41
 unfold L41
 refine new6 (v:=u) fun h1 b1 f1 z1=>?_
 refine⟨fun h'=>Grow h1 h',Fr.refl _ _,rd6 (Tv6.blk b1) ⟨_,fun h' f=>f.clk (f1.clk d fun h=>h) fun h=>h,?_⟩⟩
 refine cal_of (allP_spec t 5 (by omega) sm u h1 (hu.grow f1)) ?_
 rintro _ h2 ⟨f2,s2,rfl,o2⟩
 refine⟨s2,rfl,f2,?_⟩
 refine cal_of (noInt_spec ((f1.trans f2).clk c fun h=>h) (own_ints o2) (allT_big (by omega) sm) hr) ?_
 rintro _ _ ⟨rfl,rfl⟩
 exact⟨_,rfl,f1.trans f2,rfl⟩
theorem noTy_spec {B:Nat} {p q:Addr} {most:Int} {s:Sv} {ts:List Ty} {us:List Tv} (c:cl h p=some (.int .i64 most)) (d:cl h q=some (.func (.func 38) #[] #[.pointer (some p)])) (x:RowT Q h B s ts us) (hb:ts.length≤100)
  (sm:∀t∈ts,small 5 t=true) (hr:∀t∈ts,∀r∈allT t,0≤r∧r≤most) :
  CallsH Try.prog 39 #[.slice s.a s.n s.c,.func (.func 41) #[] #[.pointer (some q)]] h (fun v h'=>Grow h h'∧v=.bool false):=by
 apply F39
 unfold L39
 refine cal_of (J:=fun v h'=>Grow h h'∧v=.int .i64 (-1)) ?_ ?_
 ·apply F60
  unfold L60
  refine⟨fun i h'=>∃j:Nat,i=j∧j≤ts.length∧Grow h h',fun i _=>ts.length - i.toNat,⟨0,rfl,Nat.zero_le _,Fr.refl _ _⟩,?_⟩
  rintro _ h1 ⟨j,rfl,hj,f1⟩
  refine ifb_iff (q:=j<ts.length) (by simp[x.n]) (fun hl=>?_) (fun hl=>⟨f1,rfl⟩)
  refine (x.grow f1).get hl fun u hu=>?_
  refine⟨41,#[.pointer (some q)],rfl,isfn_bad2,cal_of (bad2_spec (f1.clk c fun h=>h) (f1.clk d fun h=>h) hu (sm _ (List.getElem_mem hl)) (hr _ (List.getElem_mem hl))) ?_⟩
  rintro _ h2 ⟨f2,rfl⟩
  refine⟨_,rfl,fun e=>(by cases e),fun _=>?_⟩
  rw[wrap_succ hl (by omega)]
  exact⟨⟨j+1,rfl,hl,f1.trans f2⟩,by simp;omega⟩
 ·rintro _ h1 ⟨f1,rfl⟩
  exact⟨_,rfl,f1,rfl⟩
theorem PrQ.get {s:Sv} {l:List (Int×Int)} (x:PrQ Q h s l) {i:Nat} (hi:i<l.length) {K:Addr→Prop} (k:∀q,cl h (q.add (i*2))=some (.int .i64 l[i].1)→cl h ((q.add (i*2)).add 1)=some (.int .i64 l[i].2)→K q):ixS s i K:=by
 obtain⟨p,e,_,c1,c2⟩:=x.at_ i hi
 exact⟨p,e,by omega,by rw[x.len];omega,k p c1 c2⟩
theorem fits_spec {S:Sch} {v:Scv} {free:Int} (x:SchAt (fun b=>b<h.size) h S v) (sm:SchSm S) (hf:0≤free∧free≤2) (hb:0≤S.b∧S.b≤6) (hin:SchIn S (free+S.b)) :
  CallsH Try.prog 22 #[.agg (scv v),.int .i64 free] h (fun y h'=>Grow h h'∧y=.bool true):=by
 apply F22
 unfold L22
 refine new9 (v:=v) fun h1 b1 f1 z1=>?_
 have N1:=Sc9.blk b1
 have s1:=f1.size
 have eb:=x.b
 have hw1:IntKind.i64.wrap (300 - free)=300 - free:=wrap64_id (by omega) (by omega)
 have hw2:IntKind.i64.wrap (free+S.b)=free+S.b:=wrap64_id (by omega) (by omega)
 refine⟨_,N1.b,?_⟩
 rw[eb,hw1]
 refine⟨fun x=>x=false,⟨fun e=>absurd (of_decide_eq_true e) (by omega),fun _=>⟨_,N1.b,by rw[eb];exact decide_eq_false (by omega)⟩⟩,?_⟩
 rintro _ rfl
 refine⟨fun e=>(by cases e),fun _=>?_⟩
 refine⟨_,N1.b,?_⟩
 dsimp only
 rw[eb,hw2]
 rintro p5 h2 rfl rfl
 have k2:=blk.new h1 #[Value.int .i64 0] 3
 refine sto_i k2 (by simp) ?_
 have k3:=k2.sc 0 (Value.int .i64 (free+S.b))
 have g3:Grow h1 (sc (h1.push (.cells #[Value.int .i64 0] 3)) ⟨h1.size,0,none⟩ (Value.int .i64 (free+S.b))):=(Fr.push (fun _=>False) h1 _).trans' (Fr.scb _ _ _ _) fun i hi e=>by omega
 generalize sc (h1.push (.cells #[Value.int .i64 0] 3)) ⟨h1.size,0,none⟩ (Value.int .i64 (free+S.b))=h3 at k3 g3 ⊢
 rintro p6 h4 rfl rfl
 have k4:=blk.new h3 #[Value.nilFunc] 78
 refine sto_i k4 (by simp) ?_
 have k5:=k4.sc 0 (Value.func (.func 38) #[] #[.pointer (some ⟨h1.size,0,none⟩)])
 have g5:Grow h3 (sc (h3.push (.cells #[Value.nilFunc] 78)) ⟨h3.size,0,none⟩ (Value.func (.func 38) #[] #[.pointer (some ⟨h1.size,0,none⟩)])):=(Fr.push (fun _=>False) h3 _).trans' (Fr.scb _ _ _ _) fun i hi e=>by omega
 generalize sc (h3.push (.cells #[Value.nilFunc] 78)) ⟨h3.size,0,none⟩ (Value.func (.func 38) #[] #[.pointer (some ⟨h1.size,0,none⟩)])=h5 at k5 g5 ⊢
 have G5:=f1.trans (g3.trans g5)
 have c5:cl h5 ⟨h1.size,0,none⟩=some (.int .i64 (free+S.b)):=by rw[(g5.blk k3 fun h=>h).cl];rfl
 have d5:cl h5 ⟨h3.size,0,none⟩=some (Value.func (.func 38) #[] #[.pointer (some ⟨h1.size,0,none⟩)]):=by rw[k5.cl];rfl
 have B5:=(g3.trans g5).blk b1 fun h=>h
 have hlen:=x.outs.len
 have hol:=sm.outs
 refine⟨_,(Sc9.blk B5).o,?_⟩
 refine⟨fun i h'=>∃j:Nat,i=j∧j≤S.outs.length∧Grow h5 h',fun i _=>S.outs.length - i.toNat,⟨0,rfl,Nat.zero_le _,Fr.refl _ _⟩,?_⟩
 rintro _ h6 ⟨j,rfl,hj,f6⟩
 have x6:=(x.outs.fr (G5.trans f6) fun _ _ h=>h)
 refine ifb_iff (q:=j<S.outs.length) (by simp[hlen]) (fun hl=>?_) (fun hl=>?_)
 ·refine x6.get hl fun q c1 c2=>?_
  rw[Int.toNat_natCast]
  refine⟨_,_,c1,c2,?_⟩
  rintro p8 h7 rfl rfl
  have k7:=blk.new h6 #[Value.int .i64 0,Value.int .i64 0] 56
  have g7:Grow h6 (h6.push (.cells #[Value.int .i64 0,Value.int .i64 0] 56)):=Fr.push _ _ _
  refine stoA_i k7 rfl (by simp[Value.oneCell']) fun h8 k8 f8=>?_
  have g8:Grow h6 h8:=g7.trans' f8 fun i hi e=>by omega
  have G8:=f6.trans g8
  have hp:=hin.outs _ (List.getElem_mem hl)
  refine⟨_,G8.clk d5 fun h=>h,_,by rw[k8.cl];rfl,⟨_,_,rfl,isfn_bad,cal_of (bad_spec (G8.clk c5 fun h=>h) _ hp.1) ?_⟩⟩
  rintro _ _ ⟨rfl,rfl⟩
  refine⟨_,rfl,fun x h'=>x=false∧h8=h',⟨fun e=>(by cases e),fun _=>⟨_,G8.clk d5 fun h=>h,_,by rw[add_plain,k8.cl];rfl,⟨_,_,rfl,isfn_bad,cal_of (bad_spec (G8.clk c5 fun h=>h) _ hp.2) ?_⟩⟩⟩,?_⟩
  ·rintro _ _ ⟨rfl,rfl⟩
   exact⟨_,rfl,rfl,rfl⟩
  rintro _ _ ⟨rfl,rfl⟩
  refine⟨fun e=>(by cases e),fun _=>?_⟩
  rw[wrap_succ hl (by omega)]
  exact⟨⟨j+1,rfl,hl,G8⟩,by simp;omega⟩
 ·have N6:=Sc9.blk (f6.blk B5 fun h=>h)
  have G6:=G5.trans f6
  refine⟨_,_,_,_,_,_,_,_,_,N6.b,N6.o,N6.pp,N6.k,N6.nm,N6.mu,N6.r,N6.rs,N6.az,?_⟩
  refine cal_of (all_law (v:=v) (x.grow G6) sm) ?_
  rintro _ h12 ⟨f12,s12,us,rfl,r12⟩
  refine⟨s12,rfl,?_⟩
  have hps:=sm.ps
  refine cal_of (noTy_spec ((f6.trans f12).clk c5 fun h=>h) ((f6.trans f12).clk d5 fun h=>h) r12 (by simp;omega) (fun t ht=>sm.mem ht) hin.all) ?_
  rintro _ h13 ⟨f13,rfl⟩
  exact⟨_,rfl,G6.trans (f12.trans f13),rfl⟩
end
end Go.Proofs.Yteofligmdngdgaa
namespace Go.Proofs.Yteofligmdngdgaa
open Go Go.Lf
set_option linter.unusedVariables false
section
variable {Q:Nat→Prop} {h:Heap}
theorem appS_full {E:TypeId} {z:Array Value} {sz bytes:Nat} {h:Heap} {B:Nat} {s x:Sv} {xs news:List Value} {K:Sv→Heap→Prop} (hsz:z.size=sz) (o:Own h B sz s xs) (hfull:s.c=s.n)
  (hl:news.length=x.n*sz) (hr:RowO h x.a news) (h1:∀u∈news,u.oneCell'=true) (hB:B≤h.size) (h63:s.n+x.n≤9223372036854775807) (hb:(s.n+x.n)*bytes≤140737488355328)
  (k:∀s' h',s'.n=s.n+x.n→Own h' B sz s' (xs++news)→Grow h h'→K s' h'):appS E z sz bytes h s x K:=by
 refine⟨news,hl,hr,h1,fun hroom=>?_,fun hgrow=>?_⟩
 ·have hx0:x.n=0:=by omega
  have hn0:news=[]:=List.eq_nil_of_length_eq_zero (by rw[hl,hx0,Nat.zero_mul])
  subst hn0
  refine⟨?_,?_⟩
  ·cases ha:s.a with
   | none=>rfl
   | some p=>intro j hj;exact absurd hj (by simp)
  rintro s' h' rfl rfl
  have e:scsO h s.a (s.n*sz) []=h:=by cases s.a<;>rfl
  rw[e]
  refine k _ _ rfl ?_ (Fr.refl _ _)
  have e2:(⟨s.a,s.n+x.n,s.c⟩:Sv)=s:=by rw[hx0];rfl
  rw[e2,List.append_nil]
  exact o
 ·refine⟨h63,growslice_fits hgrow hb,xs,o.len,o.row,?_⟩
  rintro c s' h' hc rfl rfl
  have hz:(Builtin.zeroCells z (c - (s.n+x.n))).size=(c - (s.n+x.n))*sz:=by rw[size_zeroCells,hsz]
  refine k _ _ rfl ⟨by rw[List.length_append,o.len,hl,←Nat.add_mul],.inr ⟨h.size,_,rfl,hB,blk.new _ _ _,hc,?_,?_⟩⟩ (Fr.push _ _ _)
  ·simp only[Array.size_append,List.size_toArray,hz,o.len,hl,←Nat.add_mul]
   congr 1
   omega
  ·simp only[Array.toList_append,List.append_assoc]
   have:(s.n+x.n)*sz=(xs++news).length:=by rw[List.length_append,o.len,hl,←Nat.add_mul]
   rw[this,←List.append_assoc]
   exact List.take_left
end
end Go.Proofs.Yteofligmdngdgaa
namespace Go.Proofs.Yteofligmdngdgaa
open Go Go.Lf
set_option linter.unusedVariables false
structure Wd where
 free:Int
 known:List (Int×Int)
 ws:List (ByteArray×List Int)
 ns:List (ByteArray×List (Int×Int))
structure Wdv where
 free:Int
 k:Sv
 w:Option Nat
 n:Option Nat
abbrev wdv (v:Wdv):Array Value:=#[.int .i64 v.free,.slice v.k.a v.k.n v.k.c,.map v.w,.map v.n]
structure WdAt (Q:Nat→Prop) (h:Heap) (W:Wd) (v:Wdv):Prop where
 free:v.free=W.free
 known:PrQ Q h v.k W.known
 ways:WaysAt Q h v.w W.ws
 needs:NeedsAt Q h v.n W.ns
section
variable {Q Q' T:Nat→Prop} {h h':Heap} {W:Wd} {v:Wdv}
theorem WdAt.fr (x:WdAt Q h W v) (f:Fr T h h') (hT:∀b,Q b→¬T b):WdAt Q h' W v:=⟨x.free,x.known.fr f hT,x.ways.fr f hT,x.needs.fr f hT⟩
theorem WdAt.weak (x:WdAt Q h W v) (hq:∀b,Q b→b<h.size→Q' b):WdAt Q' h W v:=⟨x.free,x.known.weak hq,x.ways.weak hq,x.needs.weak hq⟩
theorem WdAt.grow (x:WdAt Q h W v) (f:Grow h h'):WdAt Q h' W v:=x.fr f fun _ _ h=>h
theorem wd_up (x:WdAt (fun b=>b<h.size) h W v) (f:Grow h h'):WdAt (fun b=>b<h'.size) h' W v:=(x.grow f).weak fun b hb _=>by have:=f.size;omega
end
theorem sch_up {h h':Heap} {S:Sch} {v:Scv} (x:SchAt (fun b=>b<h.size) h S v) (f:Grow h h'):SchAt (fun b=>b<h'.size) h' S v:=(x.grow f).weak fun b hb _=>by have:=f.size;omega
theorem ty_up {h h':Heap} {t:Ty} {v:Tv} (x:TyAt (fun b=>b<h.size) h t v) (f:Grow h h'):TyAt (fun b=>b<h'.size) h' t v:=(x.grow f).weak fun b hb _=>by have:=f.size;omega
theorem needs_up {h h':Heap} {w:Option Nat} {ns:List (ByteArray×List (Int×Int))} (x:NeedsAt (fun b=>b<h.size) h w ns) (f:Grow h h'):NeedsAt (fun b=>b<h'.size) h' w ns:=(x.fr f fun _ _ h=>h).weak fun b hb _=>by have:=f.size;omega
theorem ways_up {h h':Heap} {w:Option Nat} {ws:List (ByteArray×List Int)} (x:WaysAt (fun b=>b<h.size) h w ws) (f:Grow h h'):WaysAt (fun b=>b<h'.size) h' w ws:=(x.fr f fun _ _ h=>h).weak fun b hb _=>by have:=f.size;omega
theorem pr_up {h h':Heap} {s:Sv} {l:List (Int×Int)} (x:PrQ (fun b=>b<h.size) h s l) (f:Grow h h'):PrQ (fun b=>b<h'.size) h' s l:=(x.fr f fun _ _ h=>h).weak fun b hb _=>by have:=f.size;omega
noncomputable def factsL (of:ByteArray→List (Int×Int)) (S:Sch):List (Int×Int):=S.outs++(S.ps++[S.ret]).flatMap (wfL of)
theorem wfs_len {of:ByteArray→List (Int×Int)} (ho:∀nm,(of nm).length≤10) {ts:List Ty} (hs:∀t∈ts,small 5 t=true) (hl:ts.length≤5):(ts.flatMap (wfL of)).length≤5000000000:=by
 have h1:=flat_lenP (f:=wfL of) (m:=1000000000) ts fun t ht=>Nat.le_trans (wfL_len ho 5 t (hs t ht)) (wb6 (by omega))
 have:ts.length*1000000000≤5*1000000000:=Nat.mul_le_mul_right _ hl
 omega
theorem factsL_len {of:ByteArray→List (Int×Int)} (ho:∀nm,(of nm).length≤10) {S:Sch} (sm:SchSm S):(factsL of S).length≤5000000020:=by
 unfold factsL
 rw[List.length_append]
 have:=sm.outs
 have:=sm.ps
 have:=wfs_len ho (ts:=S.ps++[S.ret]) (fun t ht=>sm.mem ht) (by simp;omega)
 omega
section
variable {Q:Nat→Prop} {h:Heap}
theorem cloneP_spec {s:Sv} {l:List (Int×Int)} (x:PrQ Q h s l) (hb:l.length≤1000000000000):CallsH Try.prog 24 #[.slice s.a s.n s.c] h (fun v h'=>Grow h h'∧∃s':Sv,v=.slice s'.a s'.n s'.c∧Own h' h.size 2 s' (prs l)):=by
 apply F24
 unfold L24
 refine⟨fun e=>⟨Fr.refl _ _,⟨none,0,0⟩,rfl,?_⟩,fun _=>?_⟩
 ·have hs:s.a=none:=by simpa using e
  cases l with
  | nil=>exact Own.nil _ _ _
  | cons p l=>
   obtain⟨q,e',_⟩:=x.at_ 0 (by simp)
   rw[hs] at e';cases e'
 ·rintro s5 h1 rfl rfl
  have f1:Grow h (h.push (.cells #[] 56)):=Fr.push _ _ _
  have x1:=prs_row (x.fr f1 fun _ _ h=>h)
  refine appS_own rfl (own_empty' 2 h h.size 56 (Nat.le_refl _)) (news:=prs l) (by rw[prs_len,x.len]) x1 (one_prs _) (by simp) (by dsimp only;rw[x.len];omega) (by dsimp only;rw[x.len];omega) ?_
  intro s' h' _ o' f' _
  exact⟨f1.trans' f' fun i hi ⟨a,ea,eb⟩=>(by simp only[Option.some.injEq] at ea;subst ea;simp only at eb;omega),s',rfl,by simpa using o'⟩
theorem facts_spec {S:Sch} {v:Scv} {w:Option Nat} {ns:List (ByteArray×List (Int×Int))} (ho:∀nm,(lkN nm ns).length≤10) (x:SchAt (fun b=>b<h.size) h S v) (hw:NeedsAt (fun b=>b<h.size) h w ns) (sm:SchSm S) :
  CallsH Try.prog 25 #[.agg (scv v),.map w] h (fun y h'=>Grow h h'∧∃s:Sv,y=.slice s.a s.n s.c∧Own h' h.size 2 s (prs (factsL (fun nm=>lkN nm ns) S))):=by
 apply F25
 unfold L25
 refine new9 (v:=v) fun h1 b1 f1 z1=>?_
 have N1:=Sc9.blk b1
 have hol:=sm.outs
 have hps:=sm.ps
 refine⟨_,N1.o,?_⟩
 refine cal_of (cloneP_spec (x.outs.fr f1 fun _ _ h=>h) (by omega)) ?_
 rintro _ h2 ⟨f2,s2,rfl,o2⟩
 refine⟨s2,rfl,?_⟩
 have g2:=f1.trans f2
 have N2:=Sc9.blk (f2.blk b1 fun h=>h)
 refine⟨_,_,_,_,_,_,_,_,_,N2.b,N2.o,N2.pp,N2.k,N2.nm,N2.mu,N2.r,N2.rs,N2.az,?_⟩
 refine cal_of (all_law (v:=v) (x.grow g2) sm) ?_
 rintro _ h3 ⟨f3,s3,us,rfl,R⟩
 refine⟨s3,rfl,?_⟩
 have g3:=g2.trans f3
 have o3:=o2.frame f3 fun _ _ h=>h
 have hfl:=factsL_len (of:=fun nm=>lkN nm ns) ho sm
 have hsm:∀t∈S.ps++[S.ret],small 5 t=true:=fun t ht=>sm.mem ht
 have htl:(S.ps++[S.ret]).length≤5:=by simp;omega
 unfold factsL at hfl ⊢
 generalize S.ps++[S.ret]=ts at *
 have z1s:=f1.size
 have z2s:=f2.size
 have z3s:=f3.size
 refine⟨fun l i h'=>∃j:Nat,i=j∧j≤ts.length∧Grow h h'∧h3.size≤h'.size∧RowT (fun b=>b<h.size) h' h2.size s3 ts us∧Own h' h1.size 2 l (prs (S.outs++(ts.take j).flatMap (wfL fun nm=>lkN nm ns)))∧∀b,l.own b→b<h2.size∨h3.size≤b,fun _ i _=>ts.length - i.toNat,⟨0,rfl,Nat.zero_le _,g3,Nat.le_refl _,R,by simpa using o3,fun b hb=>.inl (o2.ge hb).2⟩,?_⟩
 rintro l _ h4 ⟨j,rfl,hj,g4,z4,R4,o4,hown⟩
 refine ifb_iff (q:=j<ts.length) (by simp[R.n]) (fun hl=>?_) (fun hl=>?_)
 ·refine R4.get hl fun u hu=>?_
  refine newz fun h5 b5 f5 z5=>sto6 (v:=u) b5 rfl fun h6 b6 f6=>?_
  have g6:Grow h4 h6:=f5.trans' f6 fun i hi e=>by omega
  refine rd6 (Tv6.blk b6) ?_
  have G6:=g4.trans g6
  refine cal_of (wf_spec ho ts[j] 5 (by omega) (hsm _ (List.getElem_mem hl)) u h6 ((hu.grow g6).weak fun b hb _=>by have:=G6.size;omega) (needs_up hw G6)) ?_
  rintro _ h7 ⟨f7,s7,rfl,o7⟩
  refine⟨s7,rfl,?_⟩
  have F:=g6.trans f7
  have hn7:s7.n=(wfL (fun nm=>lkN nm ns) ts[j]).length:=by have:=o7.len;rw[prs_len] at this;omega
  have hn4:l.n=(S.outs++(ts.take j).flatMap (wfL fun nm=>lkN nm ns)).length:=by have:=o4.len;rw[prs_len] at this;omega
  have hl7:=wfL_len (of:=fun nm=>lkN nm ns) ho 5 ts[j] (hsm _ (List.getElem_mem hl))
  have hw5:=wb6 (n:=5) (by omega)
  have htk:=wfs_len (of:=fun nm=>lkN nm ns) ho (ts:=ts.take j) (fun t ht=>hsm t (List.mem_of_mem_take ht)) (by simp;omega)
  rw[List.length_append] at hn4
  have hF:=F.size
  refine appS_own rfl (o4.frame F fun _ _ h=>h) (news:=prs (wfL (fun nm=>lkN nm ns) ts[j])) (by rw[prs_len,hn7]) o7.row (one_prs _) (by omega) (by omega) (by omega) ?_
  intro s8 h8 _ o8 f8 own8
  rw[wrap_succ hl (by omega)]
  have hs8:=f8.size
  refine⟨⟨j+1,rfl,hl,(g4.trans F).trans' f8 fun i hi e=>by have:=(o4.ge e).1;omega,by omega,(R4.grow F).fr f8 (fun b hb e=>by have:=(o4.ge e).1;omega) (fun b hb e=>?_),?_,fun b hb=>?_⟩,by simp;omega⟩
  ·have h1:=(R.own.ge hb)
   rcases hown b e with h|h<;>omega
  ·rw[List.take_succ_eq_append_getElem hl,List.flatMap_append,←List.append_assoc,prs_app]
   simpa using o8
  ·rcases own8 b hb with e|e
   ·exact hown b e
   ·exact .inr (by omega)
 ·have hje:j=ts.length:=by omega
  subst hje
  rw[List.take_length] at o4
  exact⟨g4,l,rfl,own_low o4 z1s⟩
theorem says_spec {W:Wd} {wv:Wdv} {S:Sch} {v:Scv} (ho:∀nm,(lkN nm W.ns).length≤10) (x:SchAt (fun b=>b<h.size) h S v) (hw:WdAt (fun b=>b<h.size) h W wv) (sm:SchSm S) :
  CallsH Try.prog 12 #[.agg (wdv wv),.agg (scv v)] h (fun y h'=>Grow h h'∧∃s:Sv,y=.slice s.a s.n s.c∧Own h' h.size 2 s (prs (factsL (fun nm=>lkN nm W.ns) S))):=by
 apply F12
 unfold L12
 rintro p2 h1 rfl rfl
 have k1:=blk.new h (wdv wv) 33
 have f1:Grow h (h.push (.cells (wdv wv) 33)):=Fr.push _ _ _
 have z1:(h.push (.cells (wdv wv) 33)).size=h.size+1:=by simp
 generalize h.push (.cells (wdv wv) 33)=h1 at k1 f1 z1 ⊢
 refine new9 (v:=v) fun h2 b2 f2 z2=>?_
 have g2:=f1.trans f2
 rintro s7 h3 rfl rfl
 have f3:Grow h2 (h2.push (.cells #[] 56)):=Fr.push _ _ _
 have o3:=own_empty' 2 h2 h2.size 56 (Nat.le_refl _)
 have z3:(h2.push (.cells #[] 56)).size=h2.size+1:=by simp
 generalize h2.push (.cells #[] 56)=h3 at f3 o3 z3 ⊢
 have g3:=g2.trans f3
 have hol:=sm.outs
 have hps:=sm.ps
 refine⟨_,(Sc9.blk (f3.blk b2 fun h=>h)).o,?_⟩
 have hlen:=x.outs.len
 refine appS_own rfl o3 (news:=prs S.outs) (by rw[prs_len,hlen]) (prs_row (x.outs.fr g3 fun _ _ h=>h)) (one_prs _) f3.size (by dsimp only;omega) (by dsimp only;omega) ?_
 intro s10 h4 _ o4 f4 own4
 have F4:Fr (fun b=>h2.size≤b) h2 h4:=(f3.mono fun _ _ e=>e.elim).trans' f4 fun i hi e=>(o3.ge e).1
 have hfl:=factsL_len (of:=fun nm=>lkN nm W.ns) ho sm
 have hsm:∀t∈S.ps,small 5 t=true:=sm.all
 refine⟨fun l i h'=>∃j:Nat,i=j∧j≤S.ps.length∧Fr (fun b=>h2.size≤b) h2 h'∧Own h' h2.size 2 l (prs (S.outs++(S.ps.take j).flatMap (wfL fun nm=>lkN nm W.ns))),fun _ i _=>S.ps.length - i.toNat,⟨0,rfl,Nat.zero_le _,F4,by simpa using o4⟩,?_⟩
 rintro l _ h5 ⟨j,rfl,hj,f5,o5⟩
 have G5:Grow h h5:=g2.trans' f5 fun i hi e=>by have:=g2.size;omega
 have N5:=Sc9.blk (f5.blk b2 (by omega))
 have K5:=f5.blk (f2.blk k1 fun h=>h) (by omega)
 have c5:cl h5 ⟨h.size,3,none⟩=some (.map wv.n):=by rw[K5.cl];rfl
 have hn5:l.n=(S.outs++(S.ps.take j).flatMap (wfL fun nm=>lkN nm W.ns)).length:=by have:=o5.len;rw[prs_len] at this;omega
 have htk:=wfs_len (of:=fun nm=>lkN nm W.ns) ho (ts:=S.ps.take j) (fun t ht=>hsm t (List.mem_of_mem_take ht)) (by simp;omega)
 have hw5:=wb6 (n:=5) (by omega)
 rw[List.length_append] at hn5
 have hxn:=x.n
 refine⟨_,N5.pp,?_⟩
 refine ifb_iff (q:=j<S.ps.length) (by simp[hxn]) (fun hl=>?_) (fun hl=>?_)
 ·refine⟨_,N5.pp,args_get (v:=tNv v.p) (x.ps.grow G5) hl fun u hu=>?_⟩
  refine⟨_,by rw[add_plain];exact c5,?_⟩
  refine cal_of (wfR_spec ho S.ps[j] 5 (by omega) (hsm _ (List.getElem_mem hl)) u h5 (hu.weak fun b hb _=>by have:=G5.size;omega) (needs_up hw.needs G5)) ?_
  rintro _ h7 ⟨f7,s7,rfl,o7⟩
  refine⟨s7,rfl,?_⟩
  have hn7:s7.n=(wfL (fun nm=>lkN nm W.ns) S.ps[j]).length:=by have:=o7.len;rw[prs_len] at this;omega
  have hl7:=wfL_len (of:=fun nm=>lkN nm W.ns) ho 5 S.ps[j] (hsm _ (List.getElem_mem hl))
  have hF:=f7.size
  have hF5:=f5.size
  refine appS_own rfl (o5.frame f7 fun _ _ h=>h) (news:=prs (wfL (fun nm=>lkN nm W.ns) S.ps[j])) (by rw[prs_len,hn7]) o7.row (one_prs _) (by omega) (by omega) (by omega) ?_
  intro s8 h8 _ o8 f8 own8
  rw[wrap_succ hl (by omega)]
  refine⟨⟨j+1,rfl,hl,(f5.trans (f7.mono fun _ _ e=>e.elim)).trans' f8 fun i hi e=>(o5.ge e).1,?_⟩,by simp;omega⟩
  rw[List.take_succ_eq_append_getElem hl,List.flatMap_append,←List.append_assoc,prs_app]
  simpa using o8
 ·have hje:j=S.ps.length:=by omega
  subst hje
  rw[List.take_length] at o5 hn5 htk
  refine rd6 N5.ret ?_
  refine⟨_,by rw[add_plain];exact c5,?_⟩
  refine cal_of (wfR_spec ho S.ret 5 (by omega) sm.ret v.r h5 ((x.ret.grow G5).weak fun b hb _=>by have:=G5.size;omega) (needs_up hw.needs G5)) ?_
  rintro _ h7 ⟨f7,s7,rfl,o7⟩
  refine⟨s7,rfl,?_⟩
  have hn7:s7.n=(wfL (fun nm=>lkN nm W.ns) S.ret).length:=by have:=o7.len;rw[prs_len] at this;omega
  have hl7:=wfL_len (of:=fun nm=>lkN nm W.ns) ho 5 S.ret sm.ret
  have hF:=f7.size
  have hF5:=f5.size
  refine appS_own rfl (o5.frame f7 fun _ _ h=>h) (news:=prs (wfL (fun nm=>lkN nm W.ns) S.ret)) (by rw[prs_len,hn7]) o7.row (one_prs _) (by omega) (by omega) (by omega) ?_
  intro s8 h8 _ o8 f8 own8
  refine⟨(G5.trans f7).trans' f8 fun i hi e=>by have:=(o5.ge e).1;have:=g2.size;omega,s8,rfl,own_low (B:=h2.size) ?_ g2.size⟩
  unfold factsL
  rw[List.flatMap_append,←List.append_assoc,prs_app]
  simpa using o8
end
end Go.Proofs.Yteofligmdngdgaa
namespace Go.Proofs.Yteofligmdngdgaa
open Go Go.Lf
set_option linter.unusedVariables false
def mvF (free by_ r:Int):Int:=if free<r then IntKind.i64.wrap (r+by_) else r
noncomputable def mvT (free by_:Int) (t:Ty):Ty:=withT t ((allT t).map (mvF free by_))
noncomputable def mvS (free by_:Int) (S:Sch):Sch:=⟨S.b,S.outs.map fun p=>(mvF free by_ p.1,mvF free by_ p.2),S.ps.map (mvT free by_),mvT free by_ S.ret⟩
theorem outs_unit (f:Int→Int):∀xs:List Int,outs (σ:=Unit) (fun _=>f) (fun s _=>s) () xs=xs.map f
 | []=>rfl
 | x :: xs=>by simp[outs,outs_unit f xs]
theorem mvT_small {n:Nat} {free by_:Int} {t:Ty} (h:small n t=true):small n (mvT free by_ t)=true:=small_wT n t _ h
theorem mvS_sm {free by_:Int} {S:Sch} (x:SchSm S):SchSm (mvS free by_ S):=
 ⟨by show (S.ps.map _).length≤4;rw[List.length_map];exact x.ps,fun t ht=>by
  obtain⟨u,hu,rfl⟩:=List.mem_map.1 ht
  exact mvT_small (x.all u hu),mvT_small x.ret,by show (S.outs.map _).length≤20;rw[List.length_map];exact x.outs⟩
structure GRow (Q0:Nat→Prop) (h:Heap) (B:Nat) (s:Sv) (ts:List Ty) (us:List Tv):Prop where
 own:Own h B 6 s (c6 us)
 len:us.length=ts.length
 at_:∀i (hi:i<us.length) (hi':i<ts.length),TyAt (fun b=>Q0 b∨(B≤b∧b<h.size∧¬s.own b)) h ts[i] us[i]
section
variable {Q Q0 T:Nat→Prop} {h h' h3:Heap} {B:Nat} {s s1:Sv} {ts:List Ty} {us:List Tv} {t:Ty} {u:Tv}
theorem GRow.nil (Q0:Nat→Prop) (h:Heap) (B:Nat):GRow Q0 h B ⟨none,0,0⟩ [] []:=⟨Own.nil _ _ _,rfl,fun i hi=>by simp at hi⟩
theorem GRow.n (x:GRow Q0 h B s ts us):s.n=ts.length:=by have:=x.own.len;rw[c6_len] at this;have:=x.len;omega
theorem GRow.app {E:TypeId} {K:Sv→Heap→Prop} (x:GRow Q0 h B s ts us) (f:Fr T h h3) (hT:∀b,T b→¬Q0 b∧b<B) (hu:TyAt (fun b=>Q0 b∨(h.size≤b∧b<h3.size)) h3 t u) (hn1:s1.n=1) (hr1:RowO h3 s1.a (tvs u).toList) (hQ:∀b,Q0 b→b<B) (hB:B≤h.size) (hl:ts.length≤1000)
  (k:∀s' h',GRow Q0 h' B s' (ts++[t]) (us++[u])→Fr s.own h3 h'→(∀b,s'.own b→s.own b∨h3.size≤b)→K s' h'):appS E z6 6 88 h3 s s1 K:=by
 have hn:=x.n
 have hf:=f.size
 have hno:∀b,s.own b→B≤b∧b<h.size:=fun b hb=>x.own.ge hb
 refine appS_own rfl (x.own.frame f fun b hb e=>by have:=hno b hb;have:=(hT b e).2;omega) (news:=(tvs u).toList) (by rw[hn1];rfl) hr1 (one_c6 u) (by omega) (by omega) (by omega) ?_
 intro s' h' _ o' f' own'
 have hf':=f'.size
 have hc:c6 us++(tvs u).toList=c6 (us++[u]):=by rw[c6_app];simp[c6]
 rw[hc] at o'
 refine k s' h' ⟨o',by simp[x.len],fun i hi hi'=>?_⟩ f' own'
 by_cases e:i<us.length
 ·rw[List.getElem_append_left (by have:=x.len;omega),List.getElem_append_left e]
  refine (((x.at_ i e (by have:=x.len;omega)).fr f fun b hb hs=>?_).fr f' fun b hb hs=>?_).weak fun b hb hlt=>?_
  ·have:=hT b hs
   rcases hb with hb|hb
   ·exact this.1 hb
   ·omega
  ·rcases hb with hb|hb
   ·have:=hQ b hb;have:=(hno b hs).1;omega
   ·exact hb.2.2 hs
  ·refine hb.imp id fun hb=>⟨hb.1,hlt,fun hs=>?_⟩
   rcases own' b hs with q|q
   ·exact hb.2.2 q
   ·omega
 ·have e1:i=us.length:=by simp at hi;omega
  subst e1
  have hl:=x.len
  rw[List.getElem_append_right (by omega),List.getElem_append_right (by omega)]
  simp only[hl,Nat.sub_self,List.getElem_cons_zero]
  refine (hu.fr f' fun b hb hs=>?_).weak fun b hb hlt=>?_
  ·have:=hno b hs
   rcases hb with hb|hb
   ·have:=hQ b hb;omega
   ·omega
  ·refine hb.imp id fun hb=>⟨by omega,hlt,fun hs=>?_⟩
   rcases own' b hs with q|q
   ·have:=hno b q;omega
   ·omega
theorem GRow.ty (x:GRow Q0 h B s ts us) (hQ:∀b,Q0 b→b<h.size):TyAt (fun b=>b<h.size) h (tN ts) (tNv s):=by
 refine tyAt_iff.2 ⟨rfl,rfl,rfl,rfl,IntsC.nil _ _,x.n,fun j hj=>?_⟩
 have hl:=x.len
 obtain⟨p,ea,ho,T⟩:=own6 x.own (i:=j) (by omega)
 exact⟨p,us[j],ea,(x.own.ge ho).2,T,(x.at_ j (by omega) hj).weak fun b _ hb=>hb⟩
theorem GRow.fr (x:GRow Q0 h B s ts us) (f:Fr T h h') (hT:∀b,T b→¬Q0 b∧(b<B∨h.size≤b)):GRow Q0 h' B s ts us:=
 ⟨x.own.frame f fun b hb e=>by have:=x.own.ge hb;have:=(hT b e).2;omega,x.len,fun i hi hi'=>((x.at_ i hi hi').fr f fun b hb e=>by
  have:=hT b e
  rcases hb with hb|hb
  ·exact this.1 hb
  ·omega).weak fun b hb hlt=>hb.imp id fun hb=>⟨hb.1,hlt,hb.2.2⟩⟩
end
section
variable {Q:Nat→Prop} {h:Heap}
theorem isfn_mv:IsFn Try.prog 47:=⟨Try.f47,Try.func47,by kernel_rfl,by kernel_rfl⟩
theorem mv_spec {p q:Addr} {free by_:Int} (c:cl h p=some (.int .i64 free)) (d:cl h q=some (.int .i64 by_)) (r:Int):CallsH Try.prog 47 #[.int .i64 r,.pointer (some p),.pointer (some q)] h (fun v h'=>h=h'∧v=.int .i64 (mvF free by_ r)):=by
 apply F47
 unfold L47
 refine⟨_,c,ifb_dec (fun e=>⟨_,d,rfl,by unfold mvF;rw[if_pos e]⟩) (fun e=>⟨rfl,by unfold mvF;rw[if_neg e]⟩)⟩
theorem mv_clos {p q:Addr} {free by_:Int} :
  Clos Try.prog (.func (.func 47) #[] #[.pointer (some p),.pointer (some q)]) (fun b=>b=p.block∨b=q.block) (fun (_:Unit) (h:Heap)=>cl h p=some (.int .i64 free)∧cl h q=some (.int .i64 by_)) (fun _=>mvF free by_) (fun s _=>s):=by
 refine⟨rfl,fun T s h h' hI f hT=>⟨f.clk hI.1 (hT _ (.inl rfl)),f.clk hI.2 (hT _ (.inr rfl))⟩,fun s r h hI=>⟨_,_,rfl,isfn_mv,?_⟩⟩
 refine (mv_spec hI.1 hI.2 r).mono ?_
 rintro _ _ ⟨rfl,rfl⟩
 exact⟨rfl,Fr.refl _ _,hI⟩
abbrev zsc:Scv:=⟨0,⟨none,0,0⟩,⟨none,0,0⟩,⟨0,⟨#[]⟩,false,0,⟨none,0,0⟩,⟨none,0,0⟩⟩⟩
theorem one_sc (v:Scv):∀u∈(scv v).toList,u.oneCell'=true:=by
 intro u hu
 simp at hu
 rcases hu with rfl|rfl|rfl|rfl|rfl|rfl|rfl|rfl|rfl<;>rfl
theorem sto9 {h:Heap} {b:Nat} {cs:Array Value} {v:Scv} {K:Heap→Prop} (kk:blk h b cs) (hs:cs.size=9)
  (k:∀h',blk h' b (scv v)→Fr (fun q=>q=b) h h'→K h'):stoA h ⟨b,0,none⟩ (scv v).toList K:=
 stoA_i kk (by rw[hs];rfl) (one_sc v) k
theorem moved_spec {S:Sch} {v:Scv} {free by_:Int} (x:SchAt (fun b=>b<h.size) h S v) (sm:SchSm S) :
  CallsH Try.prog 28 #[.agg (scv v),.int .i64 free,.int .i64 by_] h (fun y h'=>Grow h h'∧∃v',y=.agg (scv v')∧SchAt (fun b=>b<h'.size) h' (mvS free by_ S) v'):=by
 apply F28
 unfold L28
 have hol:=sm.outs
 have hps:=sm.ps
 refine new9 (v:=v) fun h1 b1 f1 z1=>?_
 rintro p4 h2 rfl rfl
 have k2:=blk.new h1 #[Value.int .i64 free] 3
 have f2:Grow h1 (h1.push (.cells #[Value.int .i64 free] 3)):=Fr.push _ _ _
 have z2:(h1.push (.cells #[Value.int .i64 free] 3)).size=h1.size+1:=by simp
 generalize h1.push (.cells #[Value.int .i64 free] 3)=h2 at k2 f2 z2 ⊢
 rintro p5 h3 rfl rfl
 have k3:=blk.new h2 #[Value.int .i64 by_] 3
 have f3:Grow h2 (h2.push (.cells #[Value.int .i64 by_] 3)):=Fr.push _ _ _
 have z3:(h2.push (.cells #[Value.int .i64 by_] 3)).size=h2.size+1:=by simp
 generalize h2.push (.cells #[Value.int .i64 by_] 3)=h3 at k3 f3 z3 ⊢
 refine new9 (v:=zsc) fun h4 b4 f4 z4=>?_
 have g4:Grow h h4:=f1.trans (f2.trans (f3.trans f4))
 let C:Nat→Prop:=fun b=>b=h1.size∨b=h2.size
 let I:Heap→Prop:=fun h'=>cl h' ⟨h1.size,0,none⟩=some (.int .i64 free)∧cl h' ⟨h2.size,0,none⟩=some (.int .i64 by_)
 have I4:I h4:=⟨by rw[((f3.trans f4).blk k2 fun h=>h).cl];rfl,by rw[(f4.blk k3 fun h=>h).cl];rfl⟩
 have B4:=(f2.trans (f3.trans f4)).blk b1 fun h=>h
 have map:∀(t:Ty) (u:Tv) (hh:Heap),small 5 t=true→h4.size≤hh.size→TyAt (fun b=>b<h.size) hh t u→I hh→CallsH Try.prog 48 #[.agg (tvs u),.func (.func 47) #[] #[.pointer (some ⟨h1.size,0,none⟩),.pointer (some ⟨h2.size,0,none⟩)]] hh
   (fun y h'=>Fr C hh h'∧I h'∧∃u',y=.agg (tvs u')∧TyAt (fun b=>b<h.size∨hh.size≤b) h' (mvT free by_ t) u'):=by
  intro t u hh hsm hz hu hI
  refine (map_spec (mv_clos (p:=⟨h1.size,0,none⟩) (q:=⟨h2.size,0,none⟩) (free:=free) (by_:=by_)) t 5 (by omega) hsm (fun b=>b<h.size) u hh () (fun b hb=>⟨by omega,by dsimp only;omega⟩) (fun b hb=>by dsimp only at hb;omega) hu hI).mono ?_
  rintro _ h' ⟨F,hI',u',rfl,hu'⟩
  rw[outs_unit] at hu'
  exact⟨F,hI',u',rfl,hu'⟩
 refine⟨fun a b=>Fr C a b∧(I a→I b),⟨fun a=>⟨Fr.refl _ _,id⟩,fun a b c x y=>⟨x.1.trans y.1,fun h=>y.2 (x.2 h)⟩,fun a b x=>x.1.size⟩,?_⟩
 have hCh:¬C h.size:=by show ¬(h.size=h1.size∨h.size=h2.size);omega
 refine⟨v.b,fun h' f=>(Sc9.blk (f.1.blk B4 hCh)).b,?_⟩
 refine hd6 (fun h' f=>(Sc9.blk (f.1.blk B4 hCh)).ret) ?_
 refine⟨fun k nm mu r rs az lo hi h'=>TyAt (fun b=>b<h.size∨(h4.size≤b∧lo≤b∧b<hi)) h' (mvT free by_ S.ret) ⟨k,nm,mu,r,rs,az⟩,fun k nm mu r rs az lo hi a b f o=>o.fr f.1 fun b hb e=>?_,?_⟩
 ·have e':b=h1.size∨b=h2.size:=e
  omega
 refine⟨fun p lo hi h'=>p=⟨lo,0,none⟩∧hi=lo+1∧h4.size≤lo∧blk h' lo (scv zsc),fun p lo hi a b f o=>⟨o.1,o.2.1,o.2.2.1,f.1.blk o.2.2.2 fun e=>?_⟩,?_,?_,?_⟩
 ·have e':lo=h1.size∨lo=h2.size:=e
  have:=o.2.2.1
  omega
 ·intro h5 f5
  refine cal_of (map S.ret v.r h5 sm.ret f5.1.size ((x.ret.grow g4).fr f5.1 fun b hb e=>?_) (f5.2 I4)) ?_
  ·have e':b=h1.size∨b=h2.size:=e
   omega
  rintro _ h6 ⟨F6,I6,u',rfl,hu'⟩
  refine⟨u'.k,u'.nm,u'.mu,u'.r,u'.rs,u'.az,rfl,⟨F6,fun _=>I6⟩,hu'.weak fun b hb hlt=>hb.imp id fun hb=>⟨?_,hb,hlt⟩⟩
  have:=f5.1.size;omega
 ·intro h5 f5
  refine new9 (v:=zsc) fun h6 b6 f6 z6=>⟨⟨f6.mono fun _ _ e=>e.elim,fun hI=>⟨f6.clk hI.1 fun h=>h,f6.clk hI.2 fun h=>h⟩⟩,rfl,z6,f5.1.size,b6⟩
 intro k nm mu r rs az lo5 hi5 p8 lo7 hi7 h15 f15 hD hret h8
 obtain⟨rfl,rfl,hlo7,b15⟩:=h8
 obtain⟨⟨d1,d2,d3,d4,-⟩,⟨d5,d6,d7,-⟩,-⟩:=hD
 dsimp only at d1 d2 d3 d4 d5 d6 d7
 have I15:=f15.2 I4
 obtain⟨F15,-⟩:=f15
 refine sto9 (v:=⟨v.b,⟨none,0,0⟩,⟨none,0,0⟩,⟨k,nm,mu,r,rs,az⟩⟩) b15 rfl fun h16 b16 f16=>?_
 have hCn:∀ {b},C b→b=h1.size∨b=h2.size:=fun e=>e
 have s16:=f16.size
 have s15:=F15.size
 have I16:I h16:=⟨f16.clk I15.1 (by dsimp only;omega),f16.clk I15.2 (by dsimp only;omega)⟩
 have F16:Fr (fun b=>C b∨h4.size≤b) h4 h16:=(F15.mono fun _ _ e=>.inl e).trans (f16.mono fun _ _ e=>.inr (by omega))
 have R16:TyAt (fun b=>b<h.size∨(h4.size≤b∧b<h16.size∧b≠lo7)) h16 (mvT free by_ S.ret) ⟨k,nm,mu,r,rs,az⟩:=
  (hret.fr f16 fun b hb e=>by omega).weak fun b hb hlt=>hb.imp id fun hb=>⟨hb.1,hlt,by omega⟩
 have B16:=F16.blk B4 fun e=>by rcases e with e|e;exact hCh e;omega
 have x16:SchAt (fun b=>b<h.size) h16 S v:=(x.grow g4).fr F16 fun b hb e=>by rcases e with e|e;have:=hCn e;omega;omega
 refine⟨_,(Sc9.blk B16).o,?_⟩
 have hlen:=x.outs.len
 refine⟨fun i h'=>∃(j:Nat) (o:Sv),i=j∧j≤S.outs.length∧Fr (fun b=>h16.size≤b∨b=lo7) h16 h'∧blk h' lo7 (scv ⟨v.b,o,⟨none,0,0⟩,⟨k,nm,mu,r,rs,az⟩⟩)∧Own h' h16.size 2 o (prs ((S.outs.take j).map fun p=>(mvF free by_ p.1,mvF free by_ p.2))),fun i _=>S.outs.length - i.toNat,⟨0,⟨none,0,0⟩,rfl,Nat.zero_le _,Fr.refl _ _,b16,Own.nil _ _ _⟩,?_⟩
 rintro _ h17 ⟨j,o,rfl,hj,F17,b17,o17⟩
 have s17:=F17.size
 have x17:SchAt (fun b=>b<h.size) h17 S v:=x16.fr F17 fun b hb e=>by omega
 have I17:I h17:=⟨F17.clk I16.1 (by dsimp only;omega),F17.clk I16.2 (by dsimp only;omega)⟩
 have on17:o.n=j:=by have:=o17.len;rw[prs_len,List.length_map,List.length_take] at this;omega
 refine ifb_iff (q:=j<S.outs.length) (by simp[hlen]) (fun hl=>?_) (fun hl=>?_)
 ·refine x17.outs.get hl fun q c1 c2=>?_
  rw[Int.toNat_natCast]
  refine⟨_,_,c1,c2,?_⟩
  rintro p10 h18 rfl rfl
  have k18:=blk.new h17 #[Value.int .i64 0,Value.int .i64 0] 56
  refine stoA_i k18 rfl (by simp[Value.oneCell']) fun h19 k19 f19=>?_
  have g19:Grow h17 h19:=(Fr.push (fun _=>False) h17 _).trans' f19 fun i hi e=>by omega
  have s19:h17.size<h19.size:=by have:=f19.size;simp at this;omega
  have I19:I h19:=⟨g19.clk I17.1 fun h=>h,g19.clk I17.2 fun h=>h⟩
  have b19:=g19.blk b17 fun h=>h
  refine⟨fun h'=>Grow h19 h',Fr.refl _ _,_,by rw[k19.cl];rfl,_,fun h' f=>(Sc9.blk (f.blk b19 fun h=>h)).o,_,fun h' f=>by rw[add_plain,(f.blk k19 fun h=>h).cl];rfl,?_⟩
  refine⟨_,_,rfl,isfn_mv,cal_of (mv_spec I19.1 I19.2 _) ?_⟩
  rintro _ _ ⟨rfl,rfl⟩
  refine⟨_,rfl,Fr.refl _ _,_,_,rfl,isfn_mv,cal_of (mv_spec I19.1 I19.2 _) ?_⟩
  rintro _ _ ⟨rfl,rfl⟩
  refine⟨_,rfl,Fr.refl _ _,?_⟩
  rintro s39 h22 rfl rfl
  refine⟨Fr.push _ _ _,?_⟩
  have f22:Grow h19 (h19.push (.cells #[Value.int .i64 (mvF free by_ S.outs[j].1),Value.int .i64 (mvF free by_ S.outs[j].2)] 56)):=Fr.push _ _ _
  have r22:=row_new h19 #[Value.int .i64 (mvF free by_ S.outs[j].1),Value.int .i64 (mvF free by_ S.outs[j].2)] 56
  generalize h19.push (.cells #[Value.int .i64 (mvF free by_ S.outs[j].1),Value.int .i64 (mvF free by_ S.outs[j].2)] 56)=h22 at f22 r22 ⊢
  have g22:=g19.trans f22
  have s22:=g22.size
  refine appS_own rfl (o17.frame g22 fun _ _ h=>h) (news:=prs [(mvF free by_ S.outs[j].1,mvF free by_ S.outs[j].2)]) (by rw[prs_len];rfl) r22 (one_prs _) (by omega) (by dsimp only;omega) (by dsimp only;omega) ?_
  intro s40 h23 _ o23 f23 own23
  have s23:=f23.size
  have hlo:¬o.own lo7:=fun e=>by have:=(o17.ge e).1;have:=b16.lt;omega
  have b23:=f23.blk (g22.blk b17 fun h=>h) hlo
  refine sto_i b23 (by simp) ?_
  have b24:=b23.sc 1 (Value.slice s40.a s40.n s40.c)
  have f24:=Fr.scb h23 lo7 1 (Value.slice s40.a s40.n s40.c)
  have hlo2:¬s40.own lo7:=fun e=>by
   rcases own23 _ e with e|e
   ·exact hlo e
   ·have:=b16.lt;omega
  have o24:=o23.frame f24 fun b hb e=>hlo2 (by rw[←e];exact hb)
  generalize sc h23 ⟨lo7,1,none⟩ (Value.slice s40.a s40.n s40.c)=h24 at b24 f24 o24 ⊢
  rw[wrap_succ hl (by omega)]
  refine⟨⟨j+1,s40,rfl,hl,((F17.trans (g22.mono fun _ _ e=>e.elim)).trans' f23 fun i hi e=>by have:=(o17.ge e).1;omega).trans (f24.mono fun _ _ e=>.inr e),b24,?_⟩,by simp;omega⟩
  rw[List.take_succ_eq_append_getElem hl,List.map_append,prs_app]
  exact o24
 have hje:j=S.outs.length:=by omega
 subst hje
 rw[List.take_length] at o17
 have hlo16:=b16.lt
 have hlo:¬o.own lo7:=fun e=>by have:=(o17.ge e).1;omega
 have B17:=F17.blk B16 fun e=>by rcases e with e|e<;>omega
 have R17:TyAt (fun b=>b<h.size∨(h4.size≤b∧b<h17.size∧b≠lo7)) h17 (mvT free by_ S.ret) ⟨k,nm,mu,r,rs,az⟩:=
  (R16.fr F17 fun b hb e=>by omega).weak fun b hb hlt=>hb.imp id fun hb=>⟨hb.1,hlt,hb.2.2⟩
 have hpn:=x.n
 refine⟨_,(Sc9.blk B17).pp,?_⟩
 let F2:Nat→Prop:=fun b=>C b∨h17.size≤b∨b=lo7
 have hF2:∀ {b},F2 b→(b=h1.size∨b=h2.size)∨h17.size≤b∨b=lo7:=fun e=>e
 refine⟨fun i h'=>∃(j:Nat) (q:Sv) (us:List Tv),i=j∧j≤S.ps.length∧Fr F2 h17 h'∧I h'∧blk h' lo7 (scv ⟨v.b,o,q,⟨k,nm,mu,r,rs,az⟩⟩)∧GRow (fun b=>b<h.size) h' h17.size q ((S.ps.take j).map (mvT free by_)) us,fun i _=>S.ps.length - i.toNat,⟨0,⟨none,0,0⟩,[],rfl,Nat.zero_le _,Fr.refl _ _,I17,b17,GRow.nil _ _ _⟩,?_⟩
 rintro _ h25 ⟨j,q,us,rfl,hj,F25,I25,b25,G25⟩
 have s25:=F25.size
 have x25:SchAt (fun b=>b<h.size) h25 S v:=x17.fr F25 fun b hb e=>by have:=hF2 e;omega
 have hz17:=F16.size
 refine ifb_iff (q:=j<S.ps.length) (by simp[hpn]) (fun hl=>?_) (fun hl=>?_)
 ·refine args_get (v:=tNv v.p) x25.ps hl fun u hu=>?_
  refine newz fun h26 b26 f26 z26=>sto6 (v:=u) b26 rfl fun h27 b27 f27=>?_
  have g27:Grow h25 h27:=f26.trans' f27 fun i hi e=>by omega
  have s27:=f27.size
  have c27:=g27.blk b25 fun h=>h
  have hCl:∀ {b},C b→b<h4.size∧h.size<b:=fun e=>by have:=hCn e;omega
  refine⟨fun h'=>Fr C h27 h',Fr.refl _ _,rd6 (Tv6.blk b27) ⟨_,fun h' f=>(Sc9.blk (f.blk c27 fun e=>by have:=hCl e;omega)).pp,?_⟩⟩
  refine cal_of (map S.ps[j] u h27 (sm.all _ (List.getElem_mem hl)) (by omega) (hu.grow g27) ⟨g27.clk I25.1 fun h=>h,g27.clk I25.2 fun h=>h⟩) ?_
  rintro _ h28 ⟨F28,I28,u',rfl,hu'⟩
  refine⟨u'.k,u'.nm,u'.mu,u'.r,u'.rs,u'.az,rfl,F28,?_⟩
  have s28:=F28.size
  rintro s55 h29 rfl rfl
  have f29:Grow h28 (h28.push (.cells (tvs u') 35)):=Fr.push _ _ _
  refine⟨F28.trans (f29.mono fun _ _ e=>e.elim),?_⟩
  have r29:=row_new h28 (tvs u') 35
  have z29:(h28.push (.cells (tvs u') 35)).size=h28.size+1:=by simp
  generalize h28.push (.cells (tvs u') 35)=h29 at f29 r29 z29 ⊢
  have G27:=G25.fr g27 fun b e=>e.elim
  have F29:Fr C h27 h29:=F28.trans (f29.mono fun _ _ e=>e.elim)
  refine G27.app (u:=u') (t:=mvT free by_ S.ps[j]) F29 (fun b hb=>by have:=hCl hb;omega) ((hu'.grow f29).weak fun b hb hlt=>hb.imp id fun hb=>⟨hb,hlt⟩) rfl r29 (fun b hb=>by omega) (by omega) (by simp;omega) ?_
  intro s56 h30 G30 f30 own30
  have s30:=f30.size
  have hqlo:¬q.own lo7:=fun e=>by have:=(G25.own.ge e).1;omega
  have b30:=f30.blk (F29.blk c27 fun e=>by have:=hCl e;omega) hqlo
  refine sto_i b30 (by simp) ?_
  have b31:=b30.sc 2 (Value.slice s56.a s56.n s56.c)
  have f31:=Fr.scb h30 lo7 2 (Value.slice s56.a s56.n s56.c)
  have G31:=G30.fr f31 fun b e=>by omega
  have I30:I h30:=⟨f30.clk (f29.clk I28.1 fun h=>h) fun e=>by have:=(G25.own.ge e).1;dsimp only at this;omega,f30.clk (f29.clk I28.2 fun h=>h) fun e=>by have:=(G25.own.ge e).1;dsimp only at this;omega⟩
  have I31:I (sc h30 ⟨lo7,2,none⟩ (Value.slice s56.a s56.n s56.c)):=⟨f31.clk I30.1 (by dsimp only;omega),f31.clk I30.2 (by dsimp only;omega)⟩
  generalize sc h30 ⟨lo7,2,none⟩ (Value.slice s56.a s56.n s56.c)=h31 at b31 f31 G31 I31 ⊢
  rw[wrap_succ hl (by omega)]
  refine⟨⟨j+1,s56,us++[u'],rfl,hl,?_,I31,b31,?_⟩,by simp;omega⟩
  ·have a1:Fr F2 h17 h29:=(F25.trans (g27.mono fun _ _ e=>e.elim)).trans (F29.mono fun _ _ e=>.inl e)
   have a2:Fr F2 h17 h30:=a1.trans' f30 fun i hi e=>by have:=(G25.own.ge e).1;omega
   exact a2.trans (f31.mono fun _ _ e=>.inr (.inr e))
  ·rw[List.take_succ_eq_append_getElem hl,List.map_append]
   exact G31
 have hje:j=S.ps.length:=by omega
 subst hje
 rw[List.take_length] at G25
 have N25:=Sc9.blk b25
 refine⟨_,_,_,_,_,_,_,_,_,N25.b,N25.o,N25.pp,N25.k,N25.nm,N25.mu,N25.r,N25.rs,N25.az,?_⟩
 have g0:Fr (fun b=>h.size<b) h h25:=by
  have a0:Fr (fun b=>h.size<b) h h4:=g4.mono fun _ _ e=>e.elim
  have a1:Fr (fun b=>h.size<b) h h16:=a0.trans' F16 fun i hi e=>by omega
  have a2:Fr (fun b=>h.size<b) h h17:=a1.trans' F17 fun i hi e=>by omega
  exact a2.trans' F25 fun i hi e=>by have:=hF2 e;omega
 have b6_16:blk h16 h3.size (scv zsc):=F16.blk b4 fun e=>by rcases e with e|e;have:=hCn e;omega;omega
 have b6_25:blk h25 h3.size (scv zsc):=F25.blk (F17.blk b6_16 fun e=>by omega) fun e=>by have:=hF2 e;omega
 refine sto9 (v:=⟨v.b,o,q,⟨k,nm,mu,r,rs,az⟩⟩) b6_25 rfl fun h32 b32 f32=>?_
 have s32:=f32.size
 have N32:=Sc9.blk b32
 refine⟨_,_,_,_,_,_,_,_,_,N32.b,N32.o,N32.pp,N32.k,N32.nm,N32.mu,N32.r,N32.rs,N32.az,?_⟩
 have hG:Grow h h32:=⟨by have:=g0.size;omega,fun b hb _=>by
  rw[f32.same b (by have:=g0.size;omega) (by omega)]
  exact g0.same b hb (by omega)⟩
 refine⟨hG,⟨v.b,o,q,⟨k,nm,mu,r,rs,az⟩⟩,rfl,x.b,?_,?_,?_⟩
 ·have ho25:Own h25 h16.size 2 o (prs (S.outs.map fun p=>(mvF free by_ p.1,mvF free by_ p.2))):=o17.frame F25 fun b hb e=>by have:=o17.ge hb;have:=hF2 e;omega
  have ho32:=ho25.frame f32 fun b hb e=>by have:=o17.ge hb;omega
  exact (own_prs ho32).weak fun b _ hlt=>hlt
 ·exact (G25.fr f32 fun b e=>by omega).ty fun b hb=>by have:=hG.size;omega
 ·refine (((R17.fr F25 fun b hb e=>?_).fr f32 fun b hb e=>?_)).weak fun b _ hlt=>hlt
  ·have:=hF2 e;omega
  ·omega
end
end Go.Proofs.Yteofligmdngdgaa
namespace Go.Proofs.Yteofligmdngdgaa
open Go Go.Lf
set_option linter.unusedVariables false
theorem turn_get (f:Int→Int) (xs:List Int) (j:Nat) (hl:j<xs.length) (h:j<((xs.take j).map f++xs.drop j).length):((xs.take j).map f++xs.drop j)[j]=xs[j]:=by
 rw[List.getElem_append_right (by simp;omega)]
 simp[Nat.min_eq_left (Nat.le_of_lt hl)]
theorem turn_set (f:Int→Int) (xs:List Int) (j:Nat) (hl:j<xs.length):((xs.take j).map f++xs.drop j).set j (f xs[j])=(xs.take (j+1)).map f++xs.drop (j+1):=by
 have h1:((xs.take j).map f).length=j:=by simp;omega
 rw[List.set_append_right _ _ (by omega),List.take_succ_eq_append_getElem hl,List.map_append,List.append_assoc,h1,Nat.sub_self]
 congr 1
 rw[List.drop_eq_getElem_cons hl]
 rfl
theorem turn_len (f:Int→Int) (xs:List Int) (j:Nat):((xs.take j).map f++xs.drop j).length=xs.length:=by simp;omega
section
variable {Q:Nat→Prop} {h:Heap}
theorem move_spec {t:Ty} {v:Tv} {free by_:Int} (hQ:∀b,Q b→b<h.size) (hv:TyAt Q h t v) (sm:small 5 t=true) :
  CallsH Try.prog 36 #[.agg (tvs v),.int .i64 free,.int .i64 by_] h (fun y h'=>Grow h h'∧∃v',y=.agg (tvs v')∧TyAt (fun b=>Q b∨h.size≤b) h' (mvT free by_ t) v'):=by
 apply F36
 unfold L36
 refine new6 (v:=v) fun h1 b1 f1 z1=>newz fun h2 b2 f2 z2=>?_
 have g2:=f1.trans f2
 have B2:=f2.blk b1 fun h=>h
 refine rd6 (Tv6.blk B2) ?_
 refine cal_of (all_spec t 5 (by omega) sm v h2 (hv.grow g2)) ?_
 rintro _ h3 ⟨f3,s3,rfl,o3⟩
 refine⟨s3,rfl,?_⟩
 have hb:=allT_big (n:=5) (by omega) sm
 have hlen:(allT t).length≤(allT t).length:=Nat.le_refl _
 unfold mvT
 generalize hxs:allT t=xs at o3 hb ⊢
 have hn3:s3.n=xs.length:=by have:=o3.len;simp[ints] at this;omega
 refine⟨fun i h'=>∃j:Nat,i=j∧j≤xs.length∧Fr s3.own h3 h'∧Own h' h2.size 1 s3 (ints ((xs.take j).map (mvF free by_)++xs.drop j)),fun i _=>xs.length - i.toNat,⟨0,rfl,Nat.zero_le _,Fr.refl _ _,by simpa using o3⟩,?_⟩
 rintro _ h4 ⟨j,rfl,hj,f4,o4⟩
 have I4:=own_ints o4
 have hl4:=turn_len (mvF free by_) xs j
 refine ifb_iff (q:=j<xs.length) (by simp[hn3]) (fun hl=>?_) (fun hl=>?_)
 ·obtain⟨ys,hys⟩:∃ys,ys=(xs.take j).map (mvF free by_)++xs.drop j:=⟨_,rfl⟩
  have hset:=turn_set (mvF free by_) xs j hl
  rw[←hys] at o4 I4 hl4 hset
  have hj4:j<ys.length:=by omega
  have e4:ys[j]=xs[j]:=by subst hys;exact turn_get (mvF free by_) xs j hl hj4
  refine⟨fun h'=>Fr s3.own h3 h'∧Own h' h2.size 1 s3 (ints ((xs.take (j+1)).map (mvF free by_)++xs.drop (j+1))),?_,?_⟩
  ·refine I4.get hj4 ?_
   rw[e4]
   refine ifb_dec (fun hgt=>?_) (fun hle=>?_)
   ·refine I4.get hj4 ?_
    rw[e4]
    obtain⟨g,hg⟩:=own_addr o4 (by omega)
    refine⟨_,hg,by omega,by omega,?_⟩
    rw[Int.toNat_natCast]
    refine own_sto o4 (by omega) rfl hg fun h5 o5 f5=>⟨f4.trans f5,?_⟩
    rw[ints_set ys j hj4] at o5
    have:mvF free by_ xs[j]=IntKind.i64.wrap (xs[j]+by_):=by unfold mvF;rw[if_pos hgt]
    rw[←hset,this]
    exact o5
   ·refine⟨f4,?_⟩
    have:mvF free by_ xs[j]=xs[j]:=by unfold mvF;rw[if_neg hle]
    rw[←hset,this,←e4,List.set_getElem_self]
    exact o4
  ·intro h6 ⟨f6,o6⟩
   rw[wrap_succ hl hb]
   exact⟨⟨j+1,rfl,hl,f6,o6⟩,by simp;omega⟩
 ·have hje:j=xs.length:=by omega
  subst hje
  rw[List.take_length,List.drop_length,List.append_nil] at o4
  have hG:Grow h2 h4:=f3.trans' f4 fun i hi e=>by have:=(o3.ge e).1;omega
  have B4:=hG.blk B2 fun h=>h
  refine rd6 (Tv6.blk B4) ?_
  have g4:=g2.trans hG
  have s4:=g4.size
  refine cal_of (with_spec t 5 (by omega) sm Q (fun b=>b<h4.size) v h4 s3 (xs.map (mvF free by_)) (fun b hb=>by have:=hQ b hb;omega) (fun b hb=>hb) (hv.grow g4) (IntsQ.of (own_ints o4) fun b _ hb=>hb) (own_cap o4) (by rw[List.length_map,hxs];exact Nat.le_refl _)) ?_
  rintro _ h7 ⟨f7,v',l',rfl,t7,-,-,-⟩
  refine⟨_,_,_,_,_,_,_,rfl,?_⟩
  refine newz fun h8 b8 f8 z8=>?_
  have s7:=f7.size
  refine sto6 (v:=v') b8 rfl fun h9 b9 f9=>?_
  refine rd6 (Tv6.blk b9) ?_
  have g9:Grow h4 h9:=(f7.trans f8).trans' f9 fun i hi e=>by omega
  have b6_9:=(hG.trans g9).blk b2 fun h=>h
  refine sto6 (v:=v') b6_9 rfl fun h10 b10 f10=>?_
  have s1:=f1.size
  refine rd6 (Tv6.blk b10) ⟨(g4.trans g9).trans' f10 fun i hi e=>by omega,v',rfl,?_⟩
  have s2:=f2.size
  have s24:=hG.size
  have s8:=f8.size
  have t7':TyAt (fun b=>Q b∨(h4.size≤b∧b<h7.size)) h7 _ v':=t7.weak fun b hb hlt=>hb.imp id fun q=>⟨q,hlt⟩
  refine (((t7'.grow f8).fr f9 fun b hb e=>?_).fr f10 fun b hb e=>?_).weak fun b hb _=>hb.imp id fun q=>by omega
  ·rcases hb with hb|hb
   ·have:=hQ b hb;omega
   ·omega
  ·rcases hb with hb|hb
   ·have:=hQ b hb;omega
   ·omega
end
end Go.Proofs.Yteofligmdngdgaa
namespace Go.Proofs.Yteofligmdngdgaa
open Go Go.Lf
set_option linter.unusedVariables false
section
variable {Q:Nat→Prop} {h:Heap}
theorem movedR_spec {S:Sch} {v:Scv} {free by_:Int} (x:SchAt (fun b=>b<h.size) h S v) (sm:SchSm S) :
  CallsH Try.prog 15 #[.agg (scv v),.int .i64 free,.int .i64 by_] h (fun y h'=>Grow h h'∧∃v',y=.agg (scv v')∧SchAt (fun b=>b<h'.size) h' (mvS free by_ S) v'):=by
 apply F15
 unfold L15
 have hol:=sm.outs
 have hps:=sm.ps
 refine new9 (v:=v) fun h1 b1 f1 z1=>new9 (v:=zsc) fun h4 b4 f4 z4=>?_
 have g4:Grow h h4:=f1.trans f4
 have B4:=f4.blk b1 fun h=>h
 have hsz:h.size<h4.size:=by omega
 refine⟨fun a b=>Grow a b,Pre.grow,v.b,fun h' f=>(Sc9.blk (f.blk B4 fun h=>h)).b,hd6 (fun h' f=>(Sc9.blk (f.blk B4 fun h=>h)).ret) ?_⟩
 refine⟨fun k nm mu r rs az lo hi h'=>TyAt (fun b=>b<h.size∨(h4.size≤b∧lo≤b∧b<hi)) h' (mvT free by_ S.ret) ⟨k,nm,mu,r,rs,az⟩,fun k nm mu r rs az lo hi a b f o=>o.grow f,fun p lo hi h'=>p=⟨lo,0,none⟩∧hi=lo+1∧h4.size≤lo∧blk h' lo (scv zsc),fun p lo hi a b f o=>⟨o.1,o.2.1,o.2.2.1,f.blk o.2.2.2 fun e=>e⟩,?_,?_,?_⟩
 ·intro h5 f5
  have s5:=f5.size
  refine cal_of (move_spec (fun b (hb:b<h.size)=>by omega) (x.ret.grow (g4.trans f5)) sm.ret) ?_
  rintro _ h6 ⟨F6,u',rfl,hu'⟩
  exact⟨u'.k,u'.nm,u'.mu,u'.r,u'.rs,u'.az,rfl,F6,hu'.weak fun b hb hlt=>hb.imp id fun hb=>⟨by omega,hb,hlt⟩⟩
 ·intro h5 f5
  exact new9 (v:=zsc) fun h6 b6 f6 z6=>⟨f6,rfl,z6,f5.size,b6⟩
 intro k nm mu r rs az lo5 hi5 p8 lo7 hi7 h15 f15 hD hret h8
 obtain⟨rfl,rfl,hlo7,b15⟩:=h8
 obtain⟨⟨d1,d2,d3,d4,-⟩,⟨d5,d6,d7,-⟩,-⟩:=hD
 dsimp only at d1 d2 d3 d4 d5 d6 d7
 refine sto9 (v:=⟨v.b,⟨none,0,0⟩,⟨none,0,0⟩,⟨k,nm,mu,r,rs,az⟩⟩) b15 rfl fun h16 b16 f16=>?_
 have s16:=f16.size
 have s15:=f15.size
 have F16:Fr (fun b=>h4.size≤b) h4 h16:=(f15.mono fun _ _ e=>e.elim).trans (f16.mono fun _ _ e=>by omega)
 have R16:TyAt (fun b=>b<h.size∨(h4.size≤b∧b<h16.size∧b≠lo7)) h16 (mvT free by_ S.ret) ⟨k,nm,mu,r,rs,az⟩:=
  (hret.fr f16 fun b hb e=>by omega).weak fun b hb hlt=>hb.imp id fun hb=>⟨hb.1,hlt,by omega⟩
 have B16:=F16.blk B4 (by omega)
 have x16:SchAt (fun b=>b<h.size) h16 S v:=(x.grow g4).fr F16 fun b hb e=>by omega
 have hpn:=x.n
 have hlen:=x.outs.len
 refine⟨fun i h'=>∃(j:Nat) (q:Sv) (us:List Tv),i=j∧j≤S.ps.length∧Fr (fun b=>h16.size≤b∨b=lo7) h16 h'∧blk h' lo7 (scv ⟨v.b,⟨none,0,0⟩,q,⟨k,nm,mu,r,rs,az⟩⟩)∧GRow (fun b=>b<h.size) h' h16.size q ((S.ps.take j).map (mvT free by_)) us,fun i _=>S.ps.length - i.toNat,⟨0,⟨none,0,0⟩,[],rfl,Nat.zero_le _,Fr.refl _ _,b16,GRow.nil _ _ _⟩,?_⟩
 rintro _ h25 ⟨j,q,us,rfl,hj,F25,b25,G25⟩
 have s25:=F25.size
 have x25:SchAt (fun b=>b<h.size) h25 S v:=x16.fr F25 fun b hb e=>by omega
 have hlo16:=b16.lt
 have B25:=F25.blk B16 fun e=>by omega
 refine⟨_,(Sc9.blk B25).pp,?_⟩
 refine ifb_iff (q:=j<S.ps.length) (by simp[hpn]) (fun hl=>?_) (fun hl=>?_)
 ·refine⟨fun h'=>Grow h25 h',Fr.refl _ _,_,(Sc9.blk B25).pp,args_get (v:=tNv v.p) x25.ps hl fun u hu=>⟨_,fun h' f=>(Sc9.blk (f.blk b25 fun h=>h)).pp,?_⟩⟩
  refine cal_of (move_spec (fun b (hb:b<h.size)=>by omega) hu (sm.all _ (List.getElem_mem hl))) ?_
  rintro _ h28 ⟨f28,u',rfl,hu'⟩
  refine⟨u'.k,u'.nm,u'.mu,u'.r,u'.rs,u'.az,rfl,f28,?_⟩
  have s28:=f28.size
  rintro s55 h29 rfl rfl
  have f29:Grow h28 (h28.push (.cells (tvs u') 35)):=Fr.push _ _ _
  refine⟨f28.trans f29,?_⟩
  have r29:=row_new h28 (tvs u') 35
  have z29:(h28.push (.cells (tvs u') 35)).size=h28.size+1:=by simp
  generalize h28.push (.cells (tvs u') 35)=h29 at f29 r29 z29 ⊢
  have F29:=f28.trans f29
  refine G25.app (u:=u') (t:=mvT free by_ S.ps[j]) F29 (fun b hb=>hb.elim) ((hu'.grow f29).weak fun b hb hlt=>hb.imp id fun hb=>⟨hb,hlt⟩) rfl r29 (fun b hb=>by omega) (by omega) (by simp;omega) ?_
  intro s56 h30 G30 f30 own30
  have s30:=f30.size
  have hqlo:¬q.own lo7:=fun e=>by have:=(G25.own.ge e).1;omega
  have b30:=f30.blk (F29.blk b25 fun e=>e) hqlo
  refine sto_i b30 (by simp) ?_
  have b31:=b30.sc 2 (Value.slice s56.a s56.n s56.c)
  have f31:=Fr.scb h30 lo7 2 (Value.slice s56.a s56.n s56.c)
  have G31:=G30.fr f31 fun b e=>by omega
  generalize sc h30 ⟨lo7,2,none⟩ (Value.slice s56.a s56.n s56.c)=h31 at b31 f31 G31 ⊢
  rw[wrap_succ hl (by omega)]
  refine⟨⟨j+1,s56,us++[u'],rfl,hl,?_,b31,?_⟩,by simp;omega⟩
  ·have a1:Fr (fun b=>h16.size≤b∨b=lo7) h16 h29:=F25.trans (F29.mono fun _ _ e=>e.elim)
   have a2:Fr (fun b=>h16.size≤b∨b=lo7) h16 h30:=a1.trans' f30 fun i hi e=>by have:=(G25.own.ge e).1;omega
   exact a2.trans (f31.mono fun _ _ e=>.inr e)
  ·rw[List.take_succ_eq_append_getElem hl,List.map_append]
   exact G31
 have hje:j=S.ps.length:=by omega
 subst hje
 rw[List.take_length] at G25
 have R25:TyAt (fun b=>b<h.size∨(h4.size≤b∧b<h25.size∧b≠lo7)) h25 (mvT free by_ S.ret) ⟨k,nm,mu,r,rs,az⟩:=
  (R16.fr F25 fun b hb e=>by omega).weak fun b hb hlt=>hb.imp id fun hb=>⟨hb.1,hlt,hb.2.2⟩
 refine⟨fun i h'=>∃(j:Nat) (o:Sv),i=j∧j≤S.outs.length∧Fr (fun b=>h25.size≤b∨b=lo7) h25 h'∧blk h' lo7 (scv ⟨v.b,o,q,⟨k,nm,mu,r,rs,az⟩⟩)∧Own h' h25.size 2 o (prs ((S.outs.take j).map fun p=>(mvF free by_ p.1,mvF free by_ p.2))),fun i _=>S.outs.length - i.toNat,⟨0,⟨none,0,0⟩,rfl,Nat.zero_le _,Fr.refl _ _,b25,Own.nil _ _ _⟩,?_⟩
 rintro _ h17 ⟨j,o,rfl,hj,F17,b17,o17⟩
 have s17:=F17.size
 have x17:SchAt (fun b=>b<h.size) h17 S v:=x25.fr F17 fun b hb e=>by omega
 have on17:o.n=j:=by have:=o17.len;rw[prs_len,List.length_map,List.length_take] at this;omega
 have B17:=F17.blk B25 fun e=>by omega
 refine⟨_,(Sc9.blk B17).o,?_⟩
 refine ifb_iff (q:=j<S.outs.length) (by simp[hlen]) (fun hl=>?_) (fun hl=>?_)
 ·refine⟨_,(Sc9.blk B17).o,x17.outs.get hl fun a c1 c2=>?_⟩
  rw[Int.toNat_natCast]
  refine⟨_,_,c1,c2,?_⟩
  rintro p10 h18 rfl rfl
  have k18:=blk.new h17 #[Value.int .i64 0,Value.int .i64 0] 56
  refine stoA_i k18 rfl (by simp[Value.oneCell']) fun h19 k19 f19=>?_
  have g19:Grow h17 h19:=(Fr.push (fun _=>False) h17 _).trans' f19 fun i hi e=>by omega
  have s19:h17.size<h19.size:=by have:=f19.size;simp at this;omega
  clear k18
  refine⟨fun h'=>Grow h17 h'∧h17.size<h'.size∧blk h' h17.size #[Value.int .i64 (mvF free by_ S.outs[j].1),Value.int .i64 S.outs[j].2],?_,?_⟩
  ·refine⟨_,by rw[k19.cl];rfl,?_⟩
   refine ifb_dec (fun hgt=>?_) (fun hle=>?_)
   ·refine⟨_,by rw[k19.cl];rfl,sto_i k19 (by simp) ?_⟩
    refine⟨g19.trans' (Fr.scb _ _ _ _) fun i hi e=>by omega,by rw[sc_size];exact s19,?_⟩
    have:mvF free by_ S.outs[j].1=IntKind.i64.wrap (S.outs[j].1+by_):=by unfold mvF;rw[if_pos hgt]
    rw[this]
    exact k19.sc 0 _
   ·refine⟨g19,s19,?_⟩
    have:mvF free by_ S.outs[j].1=S.outs[j].1:=by unfold mvF;rw[if_neg hle]
    rw[this]
    exact k19
  rintro h20 ⟨g20,s20,k20⟩
  refine⟨fun h'=>Grow h17 h'∧h17.size<h'.size∧blk h' h17.size #[Value.int .i64 (mvF free by_ S.outs[j].1),Value.int .i64 (mvF free by_ S.outs[j].2)],?_,?_⟩
  ·refine⟨_,by rw[add_plain,k20.cl];rfl,?_⟩
   refine ifb_dec (fun hgt=>?_) (fun hle=>?_)
   ·refine⟨_,by rw[add_plain,k20.cl];rfl,?_⟩
    simp only[add_plain,Nat.zero_add]
    refine sto_i k20 (by simp) ?_
    refine⟨g20.trans' (Fr.scb _ _ _ _) fun i hi e=>by omega,by rw[sc_size];exact s20,?_⟩
    have:mvF free by_ S.outs[j].2=IntKind.i64.wrap (S.outs[j].2+by_):=by unfold mvF;rw[if_pos hgt]
    rw[this]
    exact k20.sc 1 _
   ·refine⟨g20,s20,?_⟩
    have:mvF free by_ S.outs[j].2=S.outs[j].2:=by unfold mvF;rw[if_neg hle]
    rw[this]
    exact k20
  rintro h21 ⟨g21,s21,k21⟩
  have b21:=g21.blk b17 fun h=>h
  refine⟨_,(Sc9.blk b21).o,_,_,by rw[k21.cl];rfl,by rw[add_plain,k21.cl];rfl,?_⟩
  rintro s39 h22 rfl rfl
  have f22:Grow h21 (h21.push (.cells #[Value.int .i64 (mvF free by_ S.outs[j].1),Value.int .i64 (mvF free by_ S.outs[j].2)] 56)):=Fr.push _ _ _
  have r22:=row_new h21 #[Value.int .i64 (mvF free by_ S.outs[j].1),Value.int .i64 (mvF free by_ S.outs[j].2)] 56
  generalize h21.push (.cells #[Value.int .i64 (mvF free by_ S.outs[j].1),Value.int .i64 (mvF free by_ S.outs[j].2)] 56)=h22 at f22 r22 ⊢
  have g22:=g21.trans f22
  have s22:=g22.size
  refine appS_own rfl (o17.frame g22 fun _ _ h=>h) (news:=prs [(mvF free by_ S.outs[j].1,mvF free by_ S.outs[j].2)]) (by rw[prs_len];rfl) r22 (one_prs _) (by omega) (by dsimp only;omega) (by dsimp only;omega) ?_
  intro s40 h23 _ o23 f23 own23
  have s23:=f23.size
  have hlo:¬o.own lo7:=fun e=>by have:=(o17.ge e).1;omega
  have b23:=f23.blk (g22.blk b17 fun h=>h) hlo
  refine sto_i b23 (by simp) ?_
  have b24:=b23.sc 1 (Value.slice s40.a s40.n s40.c)
  have f24:=Fr.scb h23 lo7 1 (Value.slice s40.a s40.n s40.c)
  have hlo2:¬s40.own lo7:=fun e=>by
   rcases own23 _ e with e|e
   ·exact hlo e
   ·omega
  have o24:=o23.frame f24 fun b hb e=>hlo2 (by rw[←e];exact hb)
  generalize sc h23 ⟨lo7,1,none⟩ (Value.slice s40.a s40.n s40.c)=h24 at b24 f24 o24 ⊢
  rw[wrap_succ hl (by omega)]
  refine⟨⟨j+1,s40,rfl,hl,((F17.trans (g22.mono fun _ _ e=>e.elim)).trans' f23 fun i hi e=>by have:=(o17.ge e).1;omega).trans (f24.mono fun _ _ e=>.inr e),b24,?_⟩,by simp;omega⟩
  rw[List.take_succ_eq_append_getElem hl,List.map_append,prs_app]
  exact o24
 have hje:j=S.outs.length:=by omega
 subst hje
 rw[List.take_length] at o17
 have N17:=Sc9.blk b17
 refine⟨_,_,_,_,_,_,_,_,_,N17.b,N17.o,N17.pp,N17.k,N17.nm,N17.mu,N17.r,N17.rs,N17.az,?_⟩
 have g0:Fr (fun b=>h.size<b) h h17:=by
  have a0:Fr (fun b=>h.size<b) h h4:=g4.mono fun _ _ e=>e.elim
  have a1:Fr (fun b=>h.size<b) h h16:=a0.trans' F16 fun i hi e=>by omega
  have a2:Fr (fun b=>h.size<b) h h25:=a1.trans' F25 fun i hi e=>by omega
  exact a2.trans' F17 fun i hi e=>by omega
 have b6_16:blk h16 h1.size (scv zsc):=F16.blk b4 (by omega)
 have b6_17:blk h17 h1.size (scv zsc):=F17.blk (F25.blk b6_16 fun e=>by omega) fun e=>by omega
 refine sto9 (v:=⟨v.b,o,q,⟨k,nm,mu,r,rs,az⟩⟩) b6_17 rfl fun h32 b32 f32=>?_
 have s32:=f32.size
 have N32:=Sc9.blk b32
 refine⟨_,_,_,_,_,_,_,_,_,N32.b,N32.o,N32.pp,N32.k,N32.nm,N32.mu,N32.r,N32.rs,N32.az,?_⟩
 have hG:Grow h h32:=⟨by have:=g0.size;omega,fun b hb _=>by
  rw[f32.same b (by have:=g0.size;omega) (by omega)]
  exact g0.same b hb (by omega)⟩
 refine⟨hG,⟨v.b,o,q,⟨k,nm,mu,r,rs,az⟩⟩,rfl,x.b,?_,?_,?_⟩
 ·have ho32:=o17.frame f32 fun b hb e=>by have:=o17.ge hb;omega
  exact (own_prs ho32).weak fun b _ hlt=>hlt
 ·have G17:=G25.fr F17 fun b e=>by omega
  exact (G17.fr f32 fun b e=>by omega).ty fun b hb=>by have:=hG.size;omega
 ·refine (((R25.fr F17 fun b hb e=>?_).fr f32 fun b hb e=>?_)).weak fun b _ hlt=>hlt
  ·omega
  ·omega
end
end Go.Proofs.Yteofligmdngdgaa
namespace Go.Proofs.Yteofligmdngdgaa
open Go Go.Lf
set_option linter.unusedVariables false
noncomputable def pairsL (w:ByteArray→Nat→Int):List Ty→List Ty→List (Int×Int)
 | b :: bs,a :: az=>seeL w b 1 a++pairsL w bs az
 | _,_=>[]
noncomputable def askL (of:ByteArray→List (Int×Int)) (w:ByteArray→Nat→Int) (A B:Sch):List (Int×Int):=factsL of A++pairsL w B.ps A.ps++seeL w A.ret 1 B.ret
theorem pairsL_snoc (w:ByteArray→Nat→Int) (b a:Ty):∀(bs az:List Ty),bs.length=az.length→pairsL w (bs++[b]) (az++[a])=pairsL w bs az++seeL w b 1 a
 | [],[],_=>by simp[pairsL]
 | [],_ :: _,h=>by simp at h
 | _ :: _,[],h=>by simp at h
 | x :: bs,y :: az,h=>by
  simp only[List.cons_append,pairsL]
  rw[pairsL_snoc w b a bs az (by simpa using h),List.append_assoc]
theorem pairsL_len (w:ByteArray→Nat→Int):∀(bs az:List Ty),(∀b∈bs,small 5 b=true)→(pairsL w bs az).length≤bs.length*bnd 5
 | [],az,_=>by simp[pairsL]
 | _ :: _,[],_=>by simp[pairsL]
 | x :: bs,y :: az,h=>by
  simp only[pairsL,List.length_append,List.length_cons,Nat.succ_mul]
  have:=pairsL_len w bs az fun b hb=>h b (by simp[hb])
  have:=seeL_len w 5 x 1 y (h x (by simp))
  omega
structure Alike (A B:Sch):Prop where
 len:A.ps.length=B.ps.length
 ps:∀i (h1:i<A.ps.length) (h2:i<B.ps.length),same B.ps[i] A.ps[i]=true∧same A.ps[i] B.ps[i]=true
 ret:same A.ret B.ret=true
theorem askL_len {of:ByteArray→List (Int×Int)} (ho:∀nm,(of nm).length≤10) (w:ByteArray→Nat→Int) {A B:Sch} (a:SchSm A) (b:SchSm B):(askL of w A B).length≤5001000020:=by
 unfold askL
 rw[List.length_append,List.length_append]
 have h1:=factsL_len ho a
 have h2:=pairsL_len w B.ps A.ps b.all
 have h3:=seeL_len w 5 A.ret 1 B.ret a.ret
 have h4:B.ps.length*bnd 5≤4*bnd 5:=Nat.mul_le_mul_right _ b.ps
 have h5:bnd 5=4774:=by decide
 omega
section
variable {Q:Nat→Prop} {h:Heap}
theorem asked_spec {W:Wd} {wv:Wdv} {A B:Sch} {va vb:Scv} (ho:∀nm,(lkN nm W.ns).length≤10) (hw:WdAt (fun b=>b<h.size) h W wv) (xa:SchAt (fun b=>b<h.size) h A va) (xb:SchAt (fun b=>b<h.size) h B vb) (sa:SchSm A) (sb:SchSm B) (al:Alike A B) :
  CallsH Try.prog 27 #[.agg (wdv wv),.agg (scv va),.agg (scv vb)] h (fun y h'=>Grow h h'∧∃s:Sv,y=.tuple #[.slice s.a s.n s.c,.bool true]∧Own h' h.size 2 s (prs (askL (fun nm=>lkN nm W.ns) (ofW W.ws) A B))):=by
 apply F27
 unfold L27
 rintro p3 h1 rfl rfl
 have k1:=blk.new h (wdv wv) 33
 have f1:Grow h (h.push (.cells (wdv wv) 33)):=Fr.push _ _ _
 generalize h.push (.cells (wdv wv) 33)=h1 at k1 f1 ⊢
 refine new9 (v:=va) fun h2 b2 f2 z2=>new9 (v:=vb) fun h3 b3 f3 z3=>?_
 have g3:=f1.trans (f2.trans f3)
 have s3:=g3.size
 have B2:=f3.blk b2 fun h=>h
 have K3:=(f2.trans f3).blk k1 fun h=>h
 have hlen:=al.len
 have na:=xa.n
 have nb:=xb.n
 have hps:=sa.ps
 refine⟨_,(Sc9.blk B2).pp,_,(Sc9.blk b3).pp,?_⟩
 refine ifb_iff (q:=A.ps.length≠B.ps.length) (by simp[na,nb];omega) (fun hne=>absurd hlen hne) (fun _=>?_)
 have N2:=Sc9.blk B2
 refine⟨_,_,_,_,_,_,_,_,_,N2.b,N2.o,N2.pp,N2.k,N2.nm,N2.mu,N2.r,N2.rs,N2.az,_,by rw[add_plain,K3.cl];rfl,?_⟩
 refine cal_of (facts_spec (v:=va) ho (sch_up xa g3) (needs_up hw.needs g3) sa) ?_
 rintro _ h4 ⟨f4,s4,rfl,o4⟩
 refine⟨s4,rfl,_,(Sc9.blk (f4.blk B2 fun h=>h)).pp,?_⟩
 have hlA:=askL_len ho (ofW W.ws) sa sb
 have hfl:=factsL_len (of:=fun nm=>lkN nm W.ns) ho sa
 have h5b:bnd 5=4774:=by decide
 have hpl:∀j,(pairsL (ofW W.ws) (B.ps.take j) (A.ps.take j)).length≤4*4774:=fun j=>by
  have q1:=pairsL_len (ofW W.ws) (B.ps.take j) (A.ps.take j) fun b hb=>sb.all b (List.mem_of_mem_take hb)
  have q2:(B.ps.take j).length*bnd 5≤4*bnd 5:=Nat.mul_le_mul_right _ (by simp;omega)
  omega
 have h34:=f4.size
 refine⟨fun l i h'=>∃j:Nat,i=j∧j≤A.ps.length∧Fr (fun b=>h3.size≤b) h3 h'∧Own h' h3.size 2 l (prs (factsL (fun nm=>lkN nm W.ns) A++pairsL (ofW W.ws) (B.ps.take j) (A.ps.take j))),fun _ i _=>A.ps.length - i.toNat,⟨0,rfl,Nat.zero_le _,f4.mono fun _ _ e=>e.elim,by simpa [pairsL] using o4⟩,?_⟩
 rintro l _ h5 ⟨j,rfl,hj,F5,o5⟩
 have G5:Grow h h5:=g3.trans' F5 fun i hi e=>by omega
 have s5:=F5.size
 have K5:=F5.blk K3 (by have:=K3.lt;omega)
 have NA:=Sc9.blk (F5.blk B2 (by have:=B2.lt;omega))
 have NB:=Sc9.blk (F5.blk b3 (by have:=b3.lt;omega))
 have hn5:l.n=(factsL (fun nm=>lkN nm W.ns) A++pairsL (ofW W.ws) (B.ps.take j) (A.ps.take j)).length:=by have:=o5.len;rw[prs_len] at this;omega
 have hplj:=hpl j
 rw[List.length_append] at hn5
 refine ifb_iff (q:=j<A.ps.length) (by simp[na]) (fun hl=>?_) (fun hl=>?_)
 ·refine⟨_,by rw[add_plain,K5.cl];rfl,_,NB.pp,args_get (v:=tNv vb.p) (xb.ps.grow G5) (by omega:j<B.ps.length) fun ub hub=>⟨_,NA.pp,args_get (v:=tNv va.p) (xa.ps.grow G5) hl fun ua hua=>?_⟩⟩
  have up:∀b,b<h.size→b<h5.size→b<h5.size:=fun b _ hb=>hb
  refine cal_of (pairs_spec B.ps[j] A.ps[j] 5 (by omega) (sb.all _ (List.getElem_mem _)) ub ua h5 (hub.weak up) (hua.weak up) (ways_up hw.ways G5)) ?_
  rintro _ h6 ⟨f6,hc⟩
  have hsame:=(al.ps j hl (by omega)).1
  rcases hc with⟨-,s6,rfl,o6⟩|⟨e,-⟩
  ·refine⟨s6,true,rfl,fun e=>(by cases e),fun _=>?_⟩
   have hl6:=seeL_len (ofW W.ws) 5 B.ps[j] 1 A.ps[j] (sb.all _ (List.getElem_mem _))
   have hn6:s6.n=(seeL (ofW W.ws) B.ps[j] 1 A.ps[j]).length:=by have:=o6.len;rw[prs_len] at this;omega
   have s6z:=f6.size
   refine appS_own rfl (o5.frame f6 fun _ _ h=>h) (news:=prs (seeL (ofW W.ws) B.ps[j] 1 A.ps[j])) (by rw[prs_len,hn6]) o6.row (one_prs _) (by omega) (by omega) (by omega) ?_
   intro s7 h7 _ o7 f7 _
   rw[wrap_succ hl (by omega)]
   refine⟨⟨j+1,rfl,hl,(F5.trans (f6.mono fun _ _ e=>e.elim)).trans' f7 fun i hi e=>(o5.ge e).1,?_⟩,by simp;omega⟩
   rw[List.take_succ_eq_append_getElem hl,List.take_succ_eq_append_getElem (by omega:j<B.ps.length),pairsL_snoc _ _ _ _ _ (by simp;omega),←List.append_assoc,prs_app]
   exact o7
  ·rw[hsame] at e;cases e
 ·have hje:j=A.ps.length:=by omega
  subst hje
  rw[List.take_length,hlen,List.take_length] at o5
  rw[List.take_length,hlen,List.take_length] at hn5 hplj
  refine⟨_,by rw[add_plain,K5.cl];rfl,rd6 NA.ret (rd6 NB.ret ?_)⟩
  refine cal_of (pairs_spec A.ret B.ret 5 (by omega) sa.ret va.r vb.r h5 (ty_up xa.ret G5) (ty_up xb.ret G5) (ways_up hw.ways G5)) ?_
  rintro _ h6 ⟨f6,hc⟩
  rcases hc with⟨-,s6,rfl,o6⟩|⟨e,-⟩
  ·refine⟨s6,true,rfl,?_⟩
   have hl6:=seeL_len (ofW W.ws) 5 A.ret 1 B.ret sa.ret
   have hn6:s6.n=(seeL (ofW W.ws) A.ret 1 B.ret).length:=by have:=o6.len;rw[prs_len] at this;omega
   have s6z:=f6.size
   refine appS_own rfl (o5.frame f6 fun _ _ h=>h) (news:=prs (seeL (ofW W.ws) A.ret 1 B.ret)) (by rw[prs_len,hn6]) o6.row (one_prs _) (by omega) (by omega) (by omega) ?_
   intro s7 h7 _ o7 f7 _
   refine⟨(G5.trans f6).trans' f7 fun i hi e=>by have:=(o5.ge e).1;omega,s7,rfl,own_low (B:=h3.size) ?_ s3⟩
   unfold askL
   rw[prs_app]
   exact o7
  ·rw[al.ret] at e;cases e
theorem askedR_spec {W:Wd} {wv:Wdv} {A B:Sch} {va vb:Scv} (ho:∀nm,(lkN nm W.ns).length≤10) (hW:∀nm i,W4 (ofW W.ws nm i)) (hw:WdAt (fun b=>b<h.size) h W wv) (xa:SchAt (fun b=>b<h.size) h A va) (xb:SchAt (fun b=>b<h.size) h B vb) (sa:SchSm A) (sb:SchSm B) (al:Alike A B) :
  CallsH Try.prog 14 #[.agg (wdv wv),.agg (scv va),.agg (scv vb)] h (fun y h'=>Grow h h'∧∃s:Sv,y=.tuple #[.slice s.a s.n s.c,.bool true]∧Own h' h.size 2 s (prs (askL (fun nm=>lkN nm W.ns) (ofW W.ws) A B))):=by
 apply F14
 unfold L14
 rintro p3 h1 rfl rfl
 have k1:=blk.new h (wdv wv) 33
 have f1:Grow h (h.push (.cells (wdv wv) 33)):=Fr.push _ _ _
 generalize h.push (.cells (wdv wv) 33)=h1 at k1 f1 ⊢
 refine new9 (v:=va) fun h2 b2 f2 z2=>new9 (v:=vb) fun h30 b30 f30 z30=>?_
 have g30:=f1.trans (f2.trans f30)
 have B20:=f30.blk b2 fun h=>h
 have hlen:=al.len
 have na:=xa.n
 have nb:=xb.n
 have hps:=sa.ps
 refine⟨_,(Sc9.blk B20).pp,_,(Sc9.blk b30).pp,?_⟩
 refine⟨fun x h'=>x=false∧Grow h30 h',⟨fun e=>?_,fun _=>?_⟩,?_⟩
 ·rw[na,nb,hlen] at e
  simp at e
 ·refine rd6 (Sc9.blk B20).ret (rd6 (Sc9.blk b30).ret ?_)
  refine cal_of (sameR_spec A.ret B.ret 5 (by omega) sa.ret va.r vb.r h30 (xa.ret.grow g30) (xb.ret.grow g30)) ?_
  rintro _ h3 ⟨f3,rfl⟩
  exact⟨_,rfl,by rw[al.ret];rfl,f3⟩
 rintro _ h3 ⟨rfl,f3⟩
 have g3:=g30.trans f3
 have s3:=g3.size
 have B2:=f3.blk B20 fun h=>h
 have b3:=f3.blk b30 fun h=>h
 have K3:=(f2.trans (f30.trans f3)).blk k1 fun h=>h
 refine⟨fun e=>(by cases e),fun _=>?_⟩
 have N2:=Sc9.blk B2
 refine⟨_,_,_,_,by rw[K3.cl];rfl,by rw[add_plain,K3.cl];rfl,by rw[add_plain,K3.cl];rfl,by rw[add_plain,K3.cl];rfl,?_⟩
 refine⟨_,_,_,_,_,_,_,_,_,N2.b,N2.o,N2.pp,N2.k,N2.nm,N2.mu,N2.r,N2.rs,N2.az,?_⟩
 refine cal_of (says_spec (v:=va) (wv:=wv) ho (sch_up xa g3) (wd_up hw g3) sa) ?_
 rintro _ h4 ⟨f4,s4,rfl,o4⟩
 refine⟨s4,rfl,?_⟩
 have hfl:=factsL_len (of:=fun nm=>lkN nm W.ns) ho sa
 have h5b:bnd 5=4774:=by decide
 have hpl:∀j,(pairsL (ofW W.ws) (B.ps.take j) (A.ps.take j)).length≤4*4774:=fun j=>by
  have q1:=pairsL_len (ofW W.ws) (B.ps.take j) (A.ps.take j) fun b hb=>sb.all b (List.mem_of_mem_take hb)
  have q2:(B.ps.take j).length*bnd 5≤4*bnd 5:=Nat.mul_le_mul_right _ (by simp;omega)
  omega
 have h34:=f4.size
 refine⟨fun l i h'=>∃j:Nat,i=j∧j≤A.ps.length∧Fr (fun b=>h3.size≤b) h3 h'∧Own h' h3.size 2 l (prs (factsL (fun nm=>lkN nm W.ns) A++pairsL (ofW W.ws) (B.ps.take j) (A.ps.take j))),fun _ i _=>A.ps.length - i.toNat,⟨0,rfl,Nat.zero_le _,f4.mono fun _ _ e=>e.elim,by simpa [pairsL] using o4⟩,?_⟩
 rintro l _ h5 ⟨j,rfl,hj,F5,o5⟩
 have G5:Grow h h5:=g3.trans' F5 fun i hi e=>by omega
 have s5:=F5.size
 have K5:=F5.blk K3 (by have:=K3.lt;omega)
 have BA:=F5.blk B2 (by have:=B2.lt;omega)
 have BB:=F5.blk b3 (by have:=b3.lt;omega)
 have NA:=Sc9.blk BA
 have NB:=Sc9.blk BB
 have hn5:l.n=(factsL (fun nm=>lkN nm W.ns) A++pairsL (ofW W.ws) (B.ps.take j) (A.ps.take j)).length:=by have:=o5.len;rw[prs_len] at this;omega
 have hplj:=hpl j
 rw[List.length_append] at hn5
 refine⟨_,NA.pp,?_⟩
 refine ifb_iff (q:=j<A.ps.length) (by simp[na]) (fun hl=>?_) (fun hl=>?_)
 ·have hlB:j<B.ps.length:=by omega
  refine⟨_,NA.pp,args_get (v:=tNv va.p) (xa.ps.grow G5) hl fun ua hua=>⟨_,NB.pp,args_get (v:=tNv vb.p) (xb.ps.grow G5) hlB fun ub hub=>?_⟩⟩
  refine cal_of (sameR_spec A.ps[j] B.ps[j] 5 (by omega) (sa.all _ (List.getElem_mem _)) ua ub h5 hua hub) ?_
  rintro _ h8 ⟨f8,rfl⟩
  have hsame:=al.ps j hl hlB
  rw[hsame.2]
  refine⟨_,rfl,fun e=>(by cases e),fun _=>?_⟩
  have G8:=G5.trans f8
  have NA8:=Sc9.blk (f8.blk BA fun h=>h)
  have NB8:=Sc9.blk (f8.blk BB fun h=>h)
  have K8:=f8.blk K5 fun h=>h
  refine⟨_,by rw[add_plain,K8.cl];rfl,_,NB8.pp,args_get (v:=tNv vb.p) (xb.ps.grow G8) hlB fun ub hub=>⟨_,NA8.pp,args_get (v:=tNv va.p) (xa.ps.grow G8) hl fun ua hua=>?_⟩⟩
  have up:∀b,b<h.size→b<h8.size→b<h8.size:=fun b _ hb=>hb
  refine cal_of (pairsR_spec hW B.ps[j] A.ps[j] 5 (by omega) (sb.all _ (List.getElem_mem _)) hsame.1 ub ua h8 1 W4.one (hub.weak up) (hua.weak up) (ways_up hw.ways G8)) ?_
  rintro _ h6 ⟨f6,s6,rfl,o6⟩
  refine⟨s6,rfl,?_⟩
  have hl6:=seeL_len (ofW W.ws) 5 B.ps[j] 1 A.ps[j] (sb.all _ (List.getElem_mem _))
  have hn6:s6.n=(seeL (ofW W.ws) B.ps[j] 1 A.ps[j]).length:=by have:=o6.len;rw[prs_len] at this;omega
  have F6:=f8.trans f6
  have s6z:=F6.size
  refine appS_own rfl (o5.frame F6 fun _ _ h=>h) (news:=prs (seeL (ofW W.ws) B.ps[j] 1 A.ps[j])) (by rw[prs_len,hn6]) o6.row (one_prs _) (by omega) (by omega) (by omega) ?_
  intro s7 h7 _ o7 f7 _
  rw[wrap_succ hl (by omega)]
  refine⟨⟨j+1,rfl,hl,(F5.trans (F6.mono fun _ _ e=>e.elim)).trans' f7 fun i hi e=>(o5.ge e).1,?_⟩,by simp;omega⟩
  rw[List.take_succ_eq_append_getElem hl,List.take_succ_eq_append_getElem hlB,pairsL_snoc _ _ _ _ _ (by simp;omega),←List.append_assoc,prs_app]
  exact o7
 ·have hje:j=A.ps.length:=by omega
  subst hje
  rw[List.take_length,hlen,List.take_length] at o5
  rw[List.take_length,hlen,List.take_length] at hn5 hplj
  refine⟨_,by rw[add_plain,K5.cl];rfl,rd6 NA.ret (rd6 NB.ret ?_)⟩
  refine cal_of (pairsR_spec hW A.ret B.ret 5 (by omega) sa.ret al.ret va.r vb.r h5 1 W4.one (ty_up xa.ret G5) (ty_up xb.ret G5) (ways_up hw.ways G5)) ?_
  rintro _ h6 ⟨f6,s6,rfl,o6⟩
  refine⟨s6,rfl,?_⟩
  have hl6:=seeL_len (ofW W.ws) 5 A.ret 1 B.ret sa.ret
  have hn6:s6.n=(seeL (ofW W.ws) A.ret 1 B.ret).length:=by have:=o6.len;rw[prs_len] at this;omega
  have s6z:=f6.size
  refine appS_own rfl (o5.frame f6 fun _ _ h=>h) (news:=prs (seeL (ofW W.ws) A.ret 1 B.ret)) (by rw[prs_len,hn6]) o6.row (one_prs _) (by omega) (by omega) (by omega) ?_
  intro s7 h7 _ o7 f7 _
  refine⟨(G5.trans f6).trans' f7 fun i hi e=>by have:=(o5.ge e).1;omega,s7,rfl,own_low (B:=h3.size) ?_ s3⟩
  unfold askL
  rw[prs_app]
  exact o7
end
end Go.Proofs.Yteofligmdngdgaa
namespace Go.Proofs.Yteofligmdngdgaa
open Go Go.Lf
set_option linter.unusedVariables false
inductive Rch (L:List (Int×Int)) (a:Int):Int→Prop
 | refl:Rch L a a
 | step {b c:Int}:Rch L a b→(b,c)∈L→Rch L a c
theorem Rch.cases {L:List (Int×Int)} {a b:Int} (h:Rch L a b):b=a∨∃p∈L,b=p.2:=by
 cases h with
 | refl=>exact .inl rfl
 | step _ h=>exact .inr ⟨_,h,rfl⟩
theorem Rch.nonneg {L:List (Int×Int)} {a b:Int} (h:Rch L a b) (ha:0≤a) (hL:∀p∈L,0≤p.1∧0≤p.2):0≤b:=by
 rcases h.cases with rfl|⟨p,hp,rfl⟩
 ·exact ha
 ·exact (hL p hp).2
theorem Rch.least {L:List (Int×Int)} {a b:Int} {D:Int→Prop} (h:Rch L a b) (ha:D a) (hD:∀p∈L,D p.1→D p.2):D b:=by
 induction h with
 | refl=>exact ha
 | step _ hp ih=>exact hD _ hp ih
theorem nodup_len:∀ {xs ys:List Int},xs.Nodup→(∀x∈xs,x∈ys)→xs.length≤ys.length
 | [],_,_,_=>Nat.zero_le _
 | x :: xs,ys,hn,hs=>by
  obtain⟨h1,h2⟩:=List.nodup_cons.1 hn
  have hx:=hs x (by simp)
  have:=nodup_len (ys:=ys.erase x) h2 fun y hy=>(List.mem_erase_of_ne fun e=>h1 (by rw[←e];exact hy)).2 (hs y (by simp[hy]))
  rw[List.length_erase_of_mem hx] at this
  have:=List.length_pos_of_mem hx
  simp only[List.length_cons]
  omega
def TestG (n:Nat) (m:Nat→Nat→Bool) (L:List (Int×Int)):Prop:=∀x y:Nat,x≤n→y≤n→Rch L x y→m x y=true
end Go.Proofs.Yteofligmdngdgaa
namespace Go.Proofs.Yteofligmdngdgaa
open Go Go.Lf
set_option linter.unusedVariables false
section
variable {Q:Nat→Prop} {h:Heap}
theorem contains_spec {s:Sv} {xs:List Int} (x:IntsAt h s xs) (v:Int) (hb:xs.length≤4611686018427387904):CallsH Try.prog 69 #[.slice s.a s.n s.c,.int .i64 v] h (fun y h'=>h=h'∧y=.bool (decide (v∈xs))):=by
 apply F69
 unfold L69
 refine cal_of (J:=fun y h'=>h=h'∧∃i:Int,y=.int .i64 i∧(0≤i↔v∈xs)) ?_ ?_
 ·apply F74
  unfold L74
  refine⟨fun i=>∃j:Nat,i=j∧j≤xs.length∧v∉xs.take j,fun i=>xs.length - i.toNat,⟨0,rfl,Nat.zero_le _,by simp⟩,?_⟩
  rintro _ ⟨j,rfl,hj,hno⟩
  refine ifb_iff (q:=j<xs.length) (by simp[x.len]) (fun hl=>?_) (fun hl=>?_)
  ·refine x.get hl ?_
   refine ifb_iff (q:=v=xs[j]) (by simp) (fun e=>⟨rfl,_,rfl,?_⟩) (fun hne=>?_)
   ·exact⟨fun _=>by rw[e];exact List.getElem_mem hl,fun _=>by omega⟩
   ·rw[wrap_succ hl hb]
    refine⟨⟨j+1,rfl,hl,?_⟩,by simp;omega⟩
    rw[List.take_succ_eq_append_getElem hl]
    exact fun h=>(List.mem_append.1 h).elim hno fun h=>hne (List.mem_singleton.1 h)
  ·have hje:j=xs.length:=by omega
   subst hje
   rw[List.take_length] at hno
   exact⟨rfl,_,rfl,fun h=>absurd h (by omega),fun h=>absurd h hno⟩
 ·rintro _ _ ⟨rfl,i,rfl,hi⟩
  refine⟨_,rfl,rfl,?_⟩
  congr 1
  exact decide_eq_decide.2 hi
theorem reach_spec {l:Sv} {L:List (Int×Int)} {from_:Int} (x:PrQ (fun b=>b<h.size) h l L) (hL:L.length≤10000000000) :
  CallsH Try.prog 50 #[.int .i64 from_,.slice l.a l.n l.c] h (fun y h'=>Grow h h'∧∃(s:Sv) (xs:List Int),y=.slice s.a s.n s.c∧Own h' h.size 1 s (ints xs)∧xs.length≤L.length+1∧∀z,z∈xs↔Rch L from_ z):=by
 apply F50
 unfold L50
 rintro s10 h1 rfl rfl
 have f1:Grow h (h.push (.cells #[Value.int .i64 from_] 3)):=Fr.push _ _ _
 have o1:Own (h.push (.cells #[Value.int .i64 from_] 3)) h.size 1 ⟨some ⟨h.size,0,none⟩,1,1⟩ (ints [from_]):=⟨rfl,.inr ⟨h.size,_,rfl,Nat.le_refl _,blk.new _ _ _,Nat.le_refl _,rfl,rfl⟩⟩
 generalize h.push (.cells #[Value.int .i64 from_] 3)=h1 at f1 o1 ⊢
 have hsub:∀xs:List Int,(∀z∈xs,Rch L from_ z)→∀z∈xs,z∈from_ :: L.map (·.2):=fun xs hx z hz=>by
  rcases (hx z hz).cases with e|⟨p,hp,e⟩
  ·simp[e]
  ·exact List.mem_cons_of_mem _ (List.mem_map.2 ⟨p,hp,e.symm⟩)
 have hlen:∀xs:List Int,xs.Nodup→(∀z∈xs,Rch L from_ z)→xs.length≤L.length+1:=fun xs hn hx=>by
  have:=nodup_len hn (hsub xs hx)
  simpa using this
 refine⟨fun out a h'=>∃(xs:List Int) (k:Nat),a=k∧k≤xs.length∧Grow h h'∧Own h' h.size 1 out (ints xs)∧xs.Nodup∧(∀z∈xs,Rch L from_ z)∧from_∈xs∧∀i (hi:i<xs.length),i<k→∀p∈L,p.1=xs[i]→p.2∈xs,fun _ a _=>L.length+1 - a.toNat,⟨[from_],0,rfl,Nat.zero_le _,f1,o1,by simp,fun z hz=>by simp at hz;subst hz;exact .refl,by simp,fun i hi h=>absurd h (Nat.not_lt_zero _)⟩,?_⟩
 rintro out _ h2 ⟨xs,k,rfl,hk,g2,o2,hnd,hr,hfr,hcl⟩
 have hxl:=hlen xs hnd hr
 have on2:out.n=xs.length:=by have:=o2.len;simp[ints] at this;omega
 refine ifb_iff (q:=k<xs.length) (by simp[on2]) (fun hkl=>?_) (fun hkl=>?_)
 ·refine⟨fun out' i h'=>∃(ys:List Int) (j:Nat),i=j∧j≤L.length∧xs <+: ys∧Grow h h'∧Own h' h.size 1 out' (ints ys)∧ys.Nodup∧(∀z∈ys,Rch L from_ z)∧∀p∈L.take j,p.1=xs[k]→p.2∈ys,fun _ i _=>L.length - i.toNat,⟨xs,0,rfl,Nat.zero_le _,List.prefix_refl _,g2,o2,hnd,hr,fun p hp=>by simp at hp⟩,?_⟩
  rintro out1 _ h3 ⟨ys,j,rfl,hj,hpre,g3,o3,hnd3,hr3,hcl3⟩
  have hyl:=hlen ys hnd3 hr3
  have on3:out1.n=ys.length:=by have:=o3.len;simp[ints] at this;omega
  have hky:k<ys.length:=by have:=hpre.length_le;omega
  have hyk:ys[k]=xs[k]:=(hpre.getElem hkl).symm
  refine ifb_iff (q:=j<L.length) (by simp[x.len]) (fun hl=>?_) (fun hl=>?_)
  ·refine⟨fun out' h'=>∃ys':List Int,xs <+: ys'∧Grow h h'∧Own h' h.size 1 out' (ints ys')∧ys'.Nodup∧(∀z∈ys',Rch L from_ z)∧(∀z∈ys,z∈ys')∧(L[j].1=xs[k]→L[j].2∈ys'),?_,?_⟩
   ·refine (x.fr g3 fun _ _ h=>h).get hl fun q c1 c2=>?_
    rw[Int.toNat_natCast]
    refine⟨_,_,c1,c2,?_⟩
    rintro p8 h4 rfl rfl
    have k4:=blk.new h3 #[Value.int .i64 0,Value.int .i64 0] 56
    refine stoA_i k4 rfl (by simp[Value.oneCell']) fun h5 k5 f5=>?_
    have f35:Grow h3 h5:=(Fr.push (fun _=>False) h3 _).trans' f5 fun i hi e=>by omega
    have g5:=g3.trans f35
    have o5:=o3.frame f35 fun _ _ h=>h
    have I5:=own_ints o5
    refine⟨fun b h'=>Grow h5 h'∧b=(decide (L[j].1=xs[k]) && !decide (L[j].2∈ys)),?_,?_⟩
    ·refine⟨_,by rw[k5.cl];rfl,I5.get hky ?_⟩
     rw[hyk]
     refine ifb_iff (q:=L[j].1=xs[k]) (by simp) (fun e=>?_) (fun e=>⟨Fr.refl _ _,by rw[decide_eq_false e,Bool.false_and]⟩)
     refine⟨_,by rw[add_plain,k5.cl];rfl,cal_of (contains_spec I5 L[j].2 (by omega)) ?_⟩
     rintro _ _ ⟨rfl,rfl⟩
     exact⟨_,rfl,Fr.refl _ _,by rw[decide_eq_true e,Bool.true_and]⟩
    rintro _ h7 ⟨f7,rfl⟩
    have g7:=g5.trans f7
    have o7:=o5.frame f7 fun _ _ h=>h
    refine ifb_iff (q:=L[j].1=xs[k]∧L[j].2∉ys) (by simp) (fun hc=>?_) (fun hc=>?_)
    ·refine⟨_,by rw[add_plain,(f7.blk k5 fun h=>h).cl];rfl,?_⟩
     refine app1 rfl o7 rfl (by simp[Value.oneCell']) g7.size (by omega) (by omega) ?_
     intro s' h9 e9 o9 f9 _
     refine⟨ys++[L[j].2],hpre.trans (List.prefix_append _ _),g7.trans' f9 fun i hi e=>by have:=(o7.ge e).1;omega,by simpa [ints] using o9,?_,?_,fun z hz=>by simp[hz],fun _=>by simp⟩
     ·rw[List.nodup_append]
      exact⟨hnd3,by simp,fun a ha b hb e=>hc.2 (by simp at hb;rw[←hb,←e];exact ha)⟩
     ·intro z hz
      rcases List.mem_append.1 hz with hz|hz
      ·exact hr3 z hz
      ·simp at hz
       subst hz
       refine .step (b:=L[j].1) ?_ (List.getElem_mem hl)
       rw[hc.1]
       exact hr _ (List.getElem_mem hkl)
    ·refine⟨ys,hpre,g7,o7,hnd3,hr3,fun z hz=>hz,fun e=>?_⟩
     apply Classical.byContradiction
     exact fun hn=>hc ⟨e,hn⟩
   ·rintro out2 h10 ⟨ys',hp',g10,o10,hn10,hr10,hin,hlast⟩
    rw[wrap_succ hl (by omega)]
    refine⟨⟨ys',j+1,rfl,hl,hp',g10,o10,hn10,hr10,fun p hp e=>?_⟩,by simp;omega⟩
    rw[List.take_succ_eq_append_getElem hl] at hp
    rcases List.mem_append.1 hp with hp|hp
    ·exact hin _ (hcl3 p hp e)
    ·simp at hp
     subst hp
     exact hlast e
  ·have hje:j=L.length:=by omega
   subst hje
   rw[List.take_length] at hcl3
   rw[wrap_succ hkl (by omega)]
   have hmem:∀z∈xs,z∈ys:=fun z hz=>hpre.subset hz
   refine⟨⟨ys,k+1,rfl,by omega,g3,o3,hnd3,hr3,hmem _ hfr,fun i hi hik p hp e=>?_⟩,by simp;omega⟩
   have hix:i<xs.length:=by omega
   have ey:ys[i]=xs[i]:=(hpre.getElem hix).symm
   rw[ey] at e
   by_cases hik':i<k
   ·exact hmem _ (hcl i hix hik' p hp e)
   ·obtain rfl:i=k:=by omega
    exact hcl3 p hp e
 ·refine⟨g2,out,xs,rfl,o2,hxl,fun z=>⟨hr z,fun hz=>hz.least hfr fun p hp hm=>?_⟩⟩
  obtain⟨i,hi,e⟩:=List.getElem_of_mem hm
  exact hcl i hi (by omega) p hp e.symm
theorem holds_spec {br bo c:Nat} {rb:Nat→Nat} {n:Nat} {m:Nat→Nat→Bool} {l:Sv} {L:List (Int×Int)} (r:RelOk br bo c rb n m h) (hn:n≤300) (x:PrQ (fun b=>b<h.size) h l L) (hL:L.length≤10000000000) (h0:∀p∈L,0≤p.1∧0≤p.2) :
  CallsH Try.prog 29 #[.pointer (some ⟨br,0,none⟩),.slice l.a l.n l.c] h (fun y h'=>Grow h h'∧∃b:Bool,y=.bool b∧(b=true↔TestG n m L)):=by
 apply F29
 unfold L29
 refine⟨fun a h'=>∃k:Nat,a=k∧k≤n+1∧Grow h h'∧∀x y:Nat,x<k→y≤n→Rch L x y→m x y=true,fun a _=>n+1 - a.toNat,⟨0,rfl,Nat.zero_le _,Fr.refl _ _,fun x y hx=>absurd hx (Nat.not_lt_zero _)⟩,?_⟩
 rintro _ h1 ⟨k,rfl,hk,g1,hdone⟩
 refine cal_of (len_spec (r.frame g1 fun _ _ h=>h)) ?_
 rintro _ _ ⟨rfl,rfl⟩
 refine⟨_,rfl,?_⟩
 refine ifb_iff (q:=k≤n) (by simp) (fun hkn=>?_) (fun hkn=>?_)
 ·refine cal_of (reach_spec (from_:=k) (pr_up x g1) hL) ?_
  rintro _ h3 ⟨f3,s3,xs,rfl,o3,hxl,hin⟩
  refine⟨s3,rfl,?_⟩
  have g3:=g1.trans f3
  have I3:=own_ints o3
  refine⟨fun a h'=>∃j:Nat,a=j∧j≤xs.length∧Grow h3 h'∧∀y:Nat,(y:Int)∈xs.take j→y≤n→m k y=true,fun a _=>xs.length - a.toNat,⟨0,rfl,Nat.zero_le _,Fr.refl _ _,fun y hy=>by simp at hy⟩,?_⟩
  rintro _ h4 ⟨j,rfl,hj,f4,hy4⟩
  have g4:=g3.trans f4
  refine ifb_iff (q:=j<xs.length) (by simp[I3.len]) (fun hl=>?_) (fun hl=>?_)
  ·refine (I3.frame f4 fun _ _ h=>h).get hl ?_
   have hz:=(hin _).1 (List.getElem_mem hl)
   have hz0:=hz.nonneg (by omega) h0
   obtain⟨z,ez⟩:=Int.eq_ofNat_of_zero_le hz0
   refine cal_of (len_spec (r.frame g4 fun _ _ h=>h)) ?_
   rintro _ _ ⟨rfl,rfl⟩
   refine⟨_,rfl,?_⟩
   rw[ez] at hz ⊢
   refine⟨fun b h'=>h4=h'∧b=(decide (z≤n) && !m k z),⟨fun e=>?_,fun e=>?_⟩,?_⟩
   ·have hzn:z≤n:=by simpa using e
    refine cal_of (has_spec (r.frame g4 fun _ _ h=>h) k z) ?_
    rintro _ _ ⟨rfl,rfl⟩
    refine⟨_,rfl,rfl,?_⟩
    simp[hasM,inR,hkn,hzn]
   ·have hzn:¬z≤n:=by simpa using e
    exact⟨rfl,by rw[decide_eq_false hzn,Bool.false_and]⟩
   rintro _ _ ⟨rfl,rfl⟩
   refine ifb_iff (q:=z≤n∧m k z=false) (by simp) (fun hc=>?_) (fun hc=>?_)
   ·refine⟨g4,false,rfl,fun e=>(by cases e),fun ht=>?_⟩
    have:=ht k z hkn hc.1 hz
    rw[hc.2] at this
    cases this
   ·rw[wrap_succ hl (by omega)]
    refine⟨⟨j+1,rfl,hl,f4,fun y hy hyn=>?_⟩,by simp;omega⟩
    rw[List.take_succ_eq_append_getElem hl] at hy
    rcases List.mem_append.1 hy with hy|hy
    ·exact hy4 y hy hyn
    ·simp at hy
     rw[ez] at hy
     have:y=z:=by omega
     subst this
     cases hm:m k y with
     | true=>rfl
     | false=>exact absurd ⟨hyn,hm⟩ hc
  ·have hje:j=xs.length:=by omega
   subst hje
   rw[List.take_length] at hy4
   have hw:IntKind.i64.wrap ((k:Int)+1)=((k+1:Nat):Int):=by rw[wrap64_id (by omega) (by omega)];rfl
   rw[hw]
   refine⟨⟨k+1,rfl,by omega,g4,fun x y hx hyn hr=>?_⟩,by simp;omega⟩
   by_cases e:x<k
   ·exact hdone x y e hyn hr
   ·obtain rfl:x=k:=by omega
    exact hy4 y ((hin _).2 hr) hyn
 ·refine⟨g1,true,rfl,fun _ x y hx hy hr=>hdone x y (by omega) hy hr,fun _=>rfl⟩
end
end Go.Proofs.Yteofligmdngdgaa
namespace Go.Proofs.Yteofligmdngdgaa
open Go Go.Lf
set_option linter.unusedVariables false
def zipL:List Int→List Int→List Int→List (Int×Int)
 | w :: ws,x :: xs,y :: ys=>lifeL x y w++zipL ws xs ys
 | _,_,_=>[]
theorem zipL_app:∀(ws ws' xs ys:List Int),ws.length≤xs.length→ws.length≤ys.length→zipL (ws++ws') xs ys=zipL ws xs ys++zipL ws' (xs.drop ws.length) (ys.drop ws.length)
 | [],ws',xs,ys,_,_=>by simp[zipL]
 | w :: ws,ws',[],ys,h,_=>by simp at h
 | w :: ws,ws',x :: xs,[],_,h=>by simp at h
 | w :: ws,ws',x :: xs,y :: ys,h1,h2=>by
  simp only[List.cons_append,zipL,List.length_cons,List.drop_succ_cons]
  rw[zipL_app ws ws' xs ys (by simpa using h1) (by simpa using h2),List.append_assoc]
def argsW (W:Ty→Int→List Int) (f:Nat→Int):Nat→List Ty→List Int
 | _,[]=>[]
 | i,a :: az=>W a (f i)++argsW W f (i+1) az
noncomputable def waysT (of:ByteArray→Nat→Int):Ty→Int→List Int:=
 Ty.rec (motive_1:=fun _=>Int→List Int) (motive_2:=fun _=>(Nat→Int)→Nat→List Int)
  (fun k nm mu _ rs _ ih w=>(if 7≤k∧k≤9 then [if k=9 then 0 else w] else if k=5 then (List.range rs.length).map (fun i=>thr w (of nm i)) else []) ++
   ih (fun i=>if k=5 then thr w (of nm (rs.length+i)) else if k=7∧mu=true then thr w 3 else w) 0)
  (fun _ _=>[]) (fun _ _ ih1 ih2 f i=>ih1 (f i)++ih2 f (i+1))
theorem waysT_rec (of:ByteArray→Nat→Int) (az:List Ty) (f:Nat→Int) (i:Nat):(Ty.rec_1 (motive_1:=fun _=>Int→List Int) (motive_2:=fun _=>(Nat→Int)→Nat→List Int)
  (fun k nm mu _ rs _ ih w=>(if 7≤k∧k≤9 then [if k=9 then 0 else w] else if k=5 then (List.range rs.length).map (fun i=>thr w (of nm i)) else []) ++
   ih (fun i=>if k=5 then thr w (of nm (rs.length+i)) else if k=7∧mu=true then thr w 3 else w) 0)
  (fun _ _=>[]) (fun _ _ ih1 ih2 f i=>ih1 (f i)++ih2 f (i+1)) az:(Nat→Int)→Nat→List Int) f i=argsW (waysT of) f i az:=by
 induction az generalizing i with
 | nil=>rfl
 | cons a az ih=>rw[argsW,←ih (i+1)];rfl
theorem waysT_mk (of:ByteArray→Nat→Int) (k:Int) (nm:ByteArray) (mu:Bool) (r:Int) (rs:List Int) (az:List Ty) (w:Int) :
  waysT of (.mk k nm mu r rs az) w=(if 7≤k∧k≤9 then [if k=9 then 0 else w] else if k=5 then (List.range rs.length).map (fun i=>thr w (of nm i)) else []) ++
   argsW (waysT of) (fun i=>if k=5 then thr w (of nm (rs.length+i)) else if k=7∧mu=true then thr w 3 else w) 0 az:=by
 rw[←waysT_rec];rfl
theorem ownW_len (of:ByteArray→Nat→Int) (k:Int) (nm:ByteArray) (mu:Bool) (r:Int) (rs:List Int) (az:List Ty) (w:Int) :
  (if 7≤k∧k≤9 then [if k=9 then (0:Int) else w] else if k=5 then (List.range rs.length).map (fun i=>thr w (of nm i)) else []).length=(ownL (.mk k nm mu r rs az)).length:=by
 rw[ownL_mk]
 split
 ·rfl
 ·split
  ·simp
  ·rfl
theorem waysT_len (of:ByteArray→Nat→Int) (t:Ty):∀w,(waysT of t w).length=(allT t).length:=by
 refine Ty.ind (P:=fun t=>∀w,(waysT of t w).length=(allT t).length) ?_ t
 intro k nm mu r rs az ih w
 rw[waysT_mk,allT_mk,List.length_append,List.length_append,ownW_len of k nm mu r rs az w]
 congr 1
 have:∀(f:Nat→Int) (i:Nat) (bz:List Ty),(∀b∈bz,b∈az)→(argsW (waysT of) f i bz).length=(bz.flatMap allT).length:=by
  intro f i bz
  induction bz generalizing i with
  | nil=>intro _;rfl
  | cons b bz ihb=>
   intro hb
   simp only[argsW,List.flatMap_cons,List.length_append]
   rw[ihb (i+1) fun x hx=>hb x (by simp[hx]),ih b (hb b (by simp))]
 exact this _ _ _ fun b h=>h
theorem regs_zip (g:Nat→Int):∀(n i:Nat) (xs ys:List Int),n≤xs.length→n≤ys.length→regsL g i (xs.take n) (ys.take n)=zipL ((List.range n).map fun j=>g (i+j)) xs ys
 | 0,i,xs,ys,_,_=>by simp[regsL,zipL]
 | n+1,i,[],ys,h,_=>by simp at h
 | n+1,i,x :: xs,[],_,h=>by simp at h
 | n+1,i,x :: xs,y :: ys,h1,h2=>by
  have:=regs_zip g n (i+1) xs ys (by simpa using h1) (by simpa using h2)
  simp only[List.take_succ_cons,regsL,List.range_succ_eq_map,List.map_cons,List.map_map,zipL]
  rw[this,Nat.add_zero]
  congr 2
  refine List.map_congr_left fun j _=>?_
  show g (i+1+j)=g (i+(j+1))
  congr 1
  omega
theorem see_with (of:ByteArray→Nat→Int) (t:Ty):∀(w:Int) (xs ys:List Int),(allT t).length≤xs.length→(allT t).length≤ys.length→seeL of (withT t xs) w (withT t ys)=zipL (waysT of t w) xs ys:=by
 refine Ty.ind (P:=fun t=>∀(w:Int) (xs ys:List Int),(allT t).length≤xs.length→(allT t).length≤ys.length→seeL of (withT t xs) w (withT t ys)=zipL (waysT of t w) xs ys) ?_ t
 intro k nm mu r rs az ih w xs ys hx hy
 rw[allT_mk,List.length_append] at hx hy
 have hW:=ownW_len of k nm mu r rs az w
 rw[withT_mk,withT_mk,seeL_mk,waysT_mk,zipL_app _ _ _ _ (by omega) (by omega),hW]
 generalize ho:(ownL (.mk k nm mu r rs az)).length=o at hx hy
 have hargs:∀(f:Nat→Int) (i:Nat) (bz:List Ty) (xs ys:List Int),(∀b∈bz,b∈az)→(bz.flatMap allT).length≤xs.length→(bz.flatMap allT).length≤ys.length→seeA (seeL of) f i (withA withT allT bz xs) (withA withT allT bz ys)=zipL (argsW (waysT of) f i bz) xs ys:=by
  intro f i bz
  induction bz generalizing i with
  | nil=>intro xs ys _ _ _;simp[withA,seeA,argsW,zipL]
  | cons b bz ihb=>
   intro xs ys hb h1 h2
   rw[List.flatMap_cons,List.length_append] at h1 h2
   simp only[withA,seeA,argsW]
   rw[zipL_app _ _ _ _ (by rw[waysT_len];omega) (by rw[waysT_len];omega),waysT_len,ih b (hb b (by simp)) _ _ _ (by omega) (by omega),ihb (i+1) _ _ (fun x hx=>hb x (by simp[hx])) (by rw[List.length_drop];omega) (by rw[List.length_drop];omega)]
 have hx':(az.flatMap allT).length≤(xs.drop o).length:=by rw[List.length_drop];omega
 have hy':(az.flatMap allT).length≤(ys.drop o).length:=by rw[List.length_drop];omega
 have hown:=ownL_mk k nm mu r rs az
 by_cases h5:k=5
 ·have h79:¬(7≤k∧k≤9):=by omega
  rw[if_neg h79,if_pos h5] at hown
  have hor:o=rs.length:=by rw[←ho,hown]
  rw[if_pos h5,if_pos h5,if_pos h5,if_neg h79,if_pos h5]
  have hl:(xs.take o).length=rs.length:=by simp;omega
  rw[regs_zip _ o 0 xs ys (by omega) (by omega),hl,hargs _ _ az _ _ (fun _ h=>h) hx' hy',hor]
  congr 1
  ·congr 1
   refine List.map_congr_left fun j _=>?_
   rw[Nat.zero_add]
  ·congr 1
   congr 1
   funext i
   rw[if_pos h5]
 ·rw[if_neg h5,if_neg h5,if_neg h5,if_neg h5]
  have e2:(fun i=>if k=5 then thr w (of nm (rs.length+i)) else if k=7∧mu=true then thr w 3 else w)=fun _:Nat=>if k=7∧mu=true then thr w 3 else w:=by
   funext i;rw[if_neg h5]
  rw[e2,hargs _ _ az _ _ (fun _ h=>h) hx' hy']
  congr 1
  by_cases h79:7≤k∧k≤9
  ·rw[if_pos h79] at hown ⊢
   have ho1:o=1:=by rw[←ho,hown];rfl
   rw[if_pos ho1,if_pos ho1]
   cases xs with
   | nil=>simp at hx;omega
   | cons x xs=>
    cases ys with
    | nil=>simp at hy;omega
    | cons y ys=>
     simp only[zipL,List.append_nil,List.getD_cons_zero]
     by_cases h9:k=9
     ·rw[if_pos h9,life0,if_neg (by omega)]
     ·rw[if_neg h9,if_pos (by omega)]
  ·rw[if_neg h79]
   rw[if_neg (by omega)]
   rfl
theorem same_with (t:Ty):∀(xs ys:List Int),(allT t).length≤xs.length→(allT t).length≤ys.length→same (withT t xs) (withT t ys)=true:=by
 refine Ty.ind (P:=fun t=>∀(xs ys:List Int),(allT t).length≤xs.length→(allT t).length≤ys.length→same (withT t xs) (withT t ys)=true) ?_ t
 intro k nm mu r rs az ih xs ys hx hy
 rw[allT_mk,List.length_append] at hx hy
 rw[withT_mk,withT_mk,same_mk]
 have hargs:∀(bz:List Ty) (xs ys:List Int),(∀b∈bz,b∈az)→(bz.flatMap allT).length≤xs.length→(bz.flatMap allT).length≤ys.length→sameA same (withA withT allT bz xs) (withA withT allT bz ys)=true:=by
  intro bz
  induction bz with
  | nil=>intro xs ys _ _ _;rfl
  | cons b bz ihb=>
   intro xs ys hb h1 h2
   rw[List.flatMap_cons,List.length_append] at h1 h2
   simp only[withA,sameA,Bool.and_eq_true]
   exact⟨ih b (hb b (by simp)) _ _ (by omega) (by omega),ihb _ _ (fun x hx=>hb x (by simp[hx])) (by rw[List.length_drop];omega) (by rw[List.length_drop];omega)⟩
 rw[hargs az _ _ (fun _ h=>h) (by rw[List.length_drop];omega) (by rw[List.length_drop];omega)]
 by_cases h5:k=5
 ·rw[if_pos h5,if_pos h5,List.length_take,List.length_take,Nat.min_eq_left (by omega),Nat.min_eq_left (by omega)]
  simp
 ·have:(k != 5)=true:=by simpa using h5
  rw[this]
  simp
end Go.Proofs.Yteofligmdngdgaa
namespace Go.Proofs.Yteofligmdngdgaa
open Go Go.Lf
set_option linter.unusedVariables false
abbrev pm (f:Int→Int) (p:Int×Int):Int×Int:=(f p.1,f p.2)
noncomputable def mapT (f:Int→Int) (t:Ty):Ty:=withT t ((allT t).map f)
theorem mapT_mk (f:Int→Int) (k:Int) (nm:ByteArray) (mu:Bool) (r:Int) (rs:List Int) (az:List Ty) :
  mapT f (.mk k nm mu r rs az)=.mk k nm mu (if hasOwn (.mk k nm mu r rs az)=true then f r else r) (if k=5 then rs.map f else rs) (az.map (mapT f)):=by
 unfold mapT
 have h:=map_tree (g:=fun (_:Unit)=>f) (nx:=fun s _=>s) k nm mu r rs az () (az.map fun a=>withT a ((allT a).map f)) (by simp) (fun i h1 h2=>by
  rw[List.getElem_map,outs_unit])
 rw[outs_unit] at h
 rw[h]
 unfold ownO regO ownS
 congr 1
 rw[outs_unit]
theorem slotL_in {t:Ty} {i:Int} (h5:∃nm mu r rs az,t=.mk 5 nm mu r rs az):∀x∈slotL t i,x=0∨x∈allT t:=by
 obtain⟨nm,mu,r,rs,az,rfl⟩:=h5
 intro x hx
 rw[slotL_mk] at hx
 split at hx
 ·simp at hx
 ·split at hx
  ·exact .inl (by simpa using hx)
  ·refine .inr ?_
   rw[allT_mk,ownL_mk,if_neg (by omega),if_pos rfl]
   cases hr:rs[i.toNat - 1]? with
   | some y=>
    rw[hr] at hx
    simp at hx
    subst hx
    exact List.mem_append_left _ (List.mem_of_getElem? hr)
   | none=>
    rw[hr] at hx
    simp only at hx
    cases ha:az[i.toNat - rs.length - 1]? with
    | none=>rw[ha] at hx;simp at hx
    | some a=>
     rw[ha] at hx
     exact List.mem_append_right _ (List.mem_flatMap.2 ⟨a,List.mem_of_getElem? ha,hx⟩)
theorem crossL_in {a b:List Int} {p:Int×Int} (h:p∈crossL a b):p.1∈a∧p.2∈b:=by
 unfold crossL at h
 obtain⟨x,hx,hp⟩:=List.mem_flatMap.1 h
 obtain⟨y,hy,rfl⟩:=List.mem_map.1 hp
 exact⟨hx,hy⟩
theorem wfL_in (of:ByteArray→List (Int×Int)) (t:Ty):∀p∈wfL of t,(p.1=0∨p.1∈allT t)∧(p.2=0∨p.2∈allT t):=by
 refine Ty.ind (P:=fun t=>∀p∈wfL of t,(p.1=0∨p.1∈allT t)∧(p.2=0∨p.2∈allT t)) ?_ t
 intro k nm mu r rs az ih p hp
 rw[wfL_mk] at hp
 rcases List.mem_append.1 hp with hp|hp
 ·rw[headW_mk] at hp
  rcases List.mem_append.1 hp with hp|hp
  ·split at hp
   ·rename_i h7
    unfold refL at hp
    obtain⟨a,ha,hp⟩:=List.mem_flatMap.1 hp
    have:=crossL_in hp
    refine⟨.inr ?_,.inr ?_⟩
    ·rw[allT_mk]
     exact List.mem_append_right _ (List.mem_flatMap.2 ⟨a,ha,this.1⟩)
    ·rw[allT_mk,ownL_mk,if_pos (by omega)]
     exact List.mem_append_left _ this.2
   ·simp at hp
  ·split at hp
   ·rename_i h5
    subst h5
    unfold needL at hp
    obtain⟨q,hq,hp⟩:=List.mem_flatMap.1 hp
    have:=crossL_in hp
    exact⟨slotL_in ⟨_,_,_,_,_,rfl⟩ _ this.1,slotL_in ⟨_,_,_,_,_,rfl⟩ _ this.2⟩
   ·simp at hp
 ·obtain⟨a,ha,hp⟩:=List.mem_flatMap.1 hp
  have:=ih a ha p hp
  rw[allT_mk]
  exact⟨this.1.imp id fun h=>List.mem_append_right _ (List.mem_flatMap.2 ⟨a,ha,h⟩),this.2.imp id fun h=>List.mem_append_right _ (List.mem_flatMap.2 ⟨a,ha,h⟩)⟩
theorem lifeL_in {x y w:Int} {p:Int×Int} (h:p∈lifeL x y w):p=(x,y)∨p=(y,x):=by
 unfold lifeL at h
 rcases List.mem_append.1 h with h|h
 ·split at h
  ·exact .inl (by simpa using h)
  ·simp at h
 ·split at h
  ·exact .inr (by simpa using h)
  ·simp at h
theorem zipL_in:∀ {ws xs ys:List Int} {p:Int×Int},p∈zipL ws xs ys→(p.1∈xs∧p.2∈ys)∨(p.1∈ys∧p.2∈xs)
 | [],_,_,_,h=>by simp[zipL] at h
 | _ :: _,[],_,_,h=>by simp[zipL] at h
 | _ :: _,_ :: _,[],_,h=>by simp[zipL] at h
 | w :: ws,x :: xs,y :: ys,p,h=>by
  simp only[zipL] at h
  rcases List.mem_append.1 h with h|h
  ·rcases lifeL_in h with rfl|rfl<;>simp
  ·rcases zipL_in h with⟨h1,h2⟩|⟨h1,h2⟩
   ·exact .inl ⟨by simp[h1],by simp[h2]⟩
   ·exact .inr ⟨by simp[h1],by simp[h2]⟩
theorem withT_all (t:Ty):withT t (allT t)=t:=by
 have h:=mapT_mk id
 have:∀t:Ty,mapT id t=t:=fun t=>by
  refine Ty.ind (P:=fun t=>mapT id t=t) ?_ t
  intro k nm mu r rs az ih
  rw[mapT_mk]
  have:az.map (mapT id)=az:=by
   have:∀bz:List Ty,(∀b∈bz,b∈az)→bz.map (mapT id)=bz:=by
    intro bz hb
    induction bz with
    | nil=>rfl
    | cons b bz ihb=>rw[List.map_cons,ih b (hb b (by simp)),ihb fun x hx=>hb x (by simp[hx])]
   exact this az fun _ h=>h
  rw[this]
  simp
 have h2:=this t
 unfold mapT at h2
 rw[List.map_id] at h2
 exact h2
theorem withT_withT (t:Ty):∀(xs ys:List Int),(allT t).length≤xs.length→(allT t).length≤ys.length→withT (withT t xs) ys=withT t ys:=by
 refine Ty.ind (P:=fun t=>∀(xs ys:List Int),(allT t).length≤xs.length→(allT t).length≤ys.length→withT (withT t xs) ys=withT t ys) ?_ t
 intro k nm mu r rs az ih xs ys hx hy
 rw[allT_mk,List.length_append] at hx hy
 have ho:(ownL (withT (.mk k nm mu r rs az) xs)).length=(ownL (.mk k nm mu r rs az)).length:=by
  rw[withT_mk,ownL_mk]
  have:=ownL_mk k nm mu r rs az
  by_cases h79:7≤k∧k≤9
  ·rw[if_pos h79] at this ⊢;rw[this];rfl
  ·rw[if_neg h79] at this ⊢
   by_cases h5:k=5
   ·rw[if_pos h5] at this ⊢
    rw[if_pos h5,List.length_take]
    omega
   ·rw[if_neg h5] at this ⊢
    rw[this]
 have hA:∀(bz:List Ty) (xs ys:List Int),(∀b∈bz,b∈az)→(bz.flatMap allT).length≤xs.length→(bz.flatMap allT).length≤ys.length→withA withT allT (withA withT allT bz xs) ys=withA withT allT bz ys:=by
  intro bz
  induction bz with
  | nil=>intro xs ys _ _ _;rfl
  | cons b bz ihb=>
   intro xs ys hb h1 h2
   rw[List.flatMap_cons,List.length_append] at h1 h2
   have hl:(allT (withT b xs)).length=(allT b).length:=by rw[allT_wT b xs (by omega),List.length_take];omega
   simp only[withA]
   rw[ih b (hb b (by simp)) _ _ (by omega) (by omega),hl,ihb _ _ (fun x hx=>hb x (by simp[hx])) (by rw[List.length_drop];omega) (by rw[List.length_drop];omega)]
 generalize hoo:(ownL (.mk k nm mu r rs az)).length=o at *
 rw[withT_mk k nm mu r rs az xs] at ho ⊢
 rw[withT_mk,withT_mk k nm mu r rs az ys,ho,hoo,hA az _ _ (fun _ h=>h) (by rw[List.length_drop];omega) (by rw[List.length_drop];omega)]
 congr 1
 ·split
  ·rfl
  ·split
   ·rename_i h1
    cases ys with
    | nil=>simp at hy;omega
    | cons y ys=>rfl
   ·rfl
 ·split<;>rfl
end Go.Proofs.Yteofligmdngdgaa
namespace Go.Proofs.Yteofligmdngdgaa
open Go Go.Lf
set_option linter.unusedVariables false
def Sat (L:List (Int×Int)) (s:Int→Nat→Prop):Prop:=∀p∈L,∀e,s p.2 e→s p.1 e
theorem Sat.app {L M:List (Int×Int)} {s:Int→Nat→Prop}:Sat (L++M) s↔Sat L s∧Sat M s:=
 ⟨fun h=>⟨fun p hp=>h p (List.mem_append_left _ hp),fun p hp=>h p (List.mem_append_right _ hp)⟩,fun h p hp=>(List.mem_append.1 hp).elim (h.1 p) (h.2 p)⟩
theorem Sat.map {L:List (Int×Int)} {s:Int→Nat→Prop} {f:Int→Int}:Sat (L.map (pm f)) s↔Sat L (fun x=>s (f x)):=
 ⟨fun h p hp=>h (pm f p) (List.mem_map.2 ⟨p,hp,rfl⟩),fun h q hq=>by obtain⟨p,hp,rfl⟩:=List.mem_map.1 hq;exact h p hp⟩
theorem Sat.congr {L:List (Int×Int)} {s t:Int→Nat→Prop} (h:∀p∈L,s p.1=t p.1∧s p.2=t p.2):Sat L s↔Sat L t:=
 ⟨fun k p hp e=>by have:=h p hp;rw[←this.1,←this.2];exact k p hp e,fun k p hp e=>by have:=h p hp;rw[this.1,this.2];exact k p hp e⟩
theorem Sat.rch {L:List (Int×Int)} {s:Int→Nat→Prop} (h:Sat L s) {x y:Int} (r:Rch L x y):∀e,s y e→s x e:=by
 induction r with
 | refl=>exact fun _ h=>h
 | step _ hp ih=>exact fun e he=>ih e (h _ hp e he)
def InR (L:List (Int×Int)) (m:Int):Prop:=∀p∈L,(0≤p.1∧p.1≤m)∧0≤p.2∧p.2≤m
theorem InR.ok {n:Nat} {K:List (Int×Int)} (h:InR K n):okP n K=K:=by
 unfold okP
 rw[List.filter_eq_self]
 intro p hp
 have:=h p hp
 simp[inR]
 omega
def top (n:Nat) (K:List (Int×Int)) (x:Int) (e:Nat):Prop:=e≤n→mOf n K x.toNat e=true
theorem top_sat {n:Nat} {K:List (Int×Int)} (hK:InR K n):Sat K (top n K):=by
 intro p hp e he hen
 have hr:=hK p hp
 have C:=Clo.mOf n K
 refine C.trans _ p.2.toNat _ (by omega) (by omega) hen (mOf_mem ?_) (he hen)
 rw[InR.ok hK]
 exact hp
def PlaceOk (w:Int) (u v:Nat→Prop):Prop:=((bitsI .and .i64 w 1 != 0)=true→∀e,v e→u e)∧((bitsI .and .i64 w 2 != 0)=true→∀e,u e→v e)
theorem PlaceOk.refl (w:Int) (u:Nat→Prop):PlaceOk w u u:=⟨fun _ _ h=>h,fun _ _ h=>h⟩
theorem PlaceOk.trans {w:Int} {u v x:Nat→Prop} (h:PlaceOk w u v) (k:PlaceOk w v x):PlaceOk w u x:=
 ⟨fun c e he=>h.1 c e (k.1 c e he),fun c e he=>k.2 c e (h.2 c e he)⟩
def ZipOk:List Int→List (Nat→Prop)→List (Nat→Prop)→Prop
 | w :: ws,u :: us,v :: vs=>PlaceOk w u v∧ZipOk ws us vs
 | _,_,_=>True
theorem ZipOk.refl:∀(ws:List Int) (us:List (Nat→Prop)),ZipOk ws us us
 | [],_=>trivial
 | _ :: _,[]=>trivial
 | w :: ws,u :: us=>⟨PlaceOk.refl w u,ZipOk.refl ws us⟩
theorem ZipOk.trans:∀ {ws:List Int} {us vs xs:List (Nat→Prop)},us.length=vs.length→vs.length=xs.length→ZipOk ws us vs→ZipOk ws vs xs→ZipOk ws us xs
 | [],_,_,_,_,_,_,_=>trivial
 | _ :: _,[],_,_,_,_,_,_=>trivial
 | _ :: _,_ :: _,[],_,h,_,_,_=>by simp at h
 | _ :: _,_ :: _,_ :: _,[],_,h,_,_=>by simp at h
 | w :: ws,u :: us,v :: vs,x :: xs,h1,h2,h,k=>⟨h.1.trans k.1,ZipOk.trans (by simpa using h1) (by simpa using h2) h.2 k.2⟩
structure Raw where
 b:Int
 outs:List (Int×Int)
 xs:List (List Int)
 zs:List Int
structure Fit (ts:List Ty) (rt:Ty) (R:Raw):Prop where
 len:R.xs.length=ts.length
 at_:∀i (h1:i<R.xs.length) (h2:i<ts.length),(R.xs[i]).length=(allT ts[i]).length
 ret:R.zs.length=(allT rt).length
noncomputable def ofR (ts:List Ty) (rt:Ty) (R:Raw):Sch:=⟨R.b,R.outs,List.zipWith withT ts R.xs,withT rt R.zs⟩
def mapR (f:Int→Int) (R:Raw):Raw:=⟨R.b,R.outs.map (pm f),R.xs.map (·.map f),R.zs.map f⟩
section
variable {ts:List Ty} {rt:Ty} {R A B D:Raw}
theorem Fit.map {f:Int→Int} (x:Fit ts rt R):Fit ts rt (mapR f R):=by
 refine⟨by simp[mapR,x.len],fun i h1 h2=>?_,by simp[mapR,x.ret]⟩
 simp only[mapR,List.getElem_map,List.length_map]
 exact x.at_ i (by simpa [mapR] using h1) h2
theorem Fit.ps (x:Fit ts rt R):(ofR ts rt R).ps.length=ts.length:=by simp[ofR,x.len]
theorem Fit.get (x:Fit ts rt R) (i:Nat) (h:i<(ofR ts rt R).ps.length):∃(h1:i<ts.length) (h2:i<R.xs.length),(ofR ts rt R).ps[i]=withT ts[i] R.xs[i]:=by
 have h1:i<ts.length:=by rw[←x.ps];exact h
 exact⟨h1,by rw[x.len];exact h1,by simp[ofR]⟩
theorem mv_ofR (f:Int→Int) (x:Fit ts rt R):(⟨R.b,R.outs.map (pm f),(ofR ts rt R).ps.map (mapT f),mapT f (ofR ts rt R).ret⟩:Sch)=ofR ts rt (mapR f R):=by
 have one:∀(t:Ty) (xs:List Int),xs.length=(allT t).length→mapT f (withT t xs)=withT t (xs.map f):=by
  intro t xs h
  unfold mapT
  rw[allT_wT t xs (by omega),List.take_of_length_le (by omega),withT_withT t _ _ (by omega) (by rw[List.length_map];omega)]
 unfold ofR mapR
 congr 1
 ·apply List.ext_getElem
  ·simp
  ·intro i h1 h2
   simp only[List.getElem_map,List.getElem_zipWith]
   simp at h1
   exact one _ _ (x.at_ i (by omega) (by omega))
 ·exact one _ _ x.ret
theorem alike_ofR (a:Fit ts rt A) (b:Fit ts rt B):Alike (ofR ts rt A) (ofR ts rt B):=by
 refine⟨by rw[a.ps,b.ps],fun i h1 h2=>?_,same_with rt _ _ (by show _≤A.zs.length;rw[a.ret];exact Nat.le_refl _) (by show _≤B.zs.length;rw[b.ret];exact Nat.le_refl _)⟩
 obtain⟨q1,q2,e1⟩:=a.get i h1
 obtain⟨q3,q4,e2⟩:=b.get i h2
 rw[e1,e2]
 have r1:=a.at_ i q2 q1
 have r2:=b.at_ i q4 q3
 exact⟨same_with _ _ _ (by omega) (by omega),same_with _ _ _ (by omega) (by omega)⟩
end
end Go.Proofs.Yteofligmdngdgaa
namespace Go.Proofs.Yteofligmdngdgaa
open Go Go.Lf
set_option linter.unusedVariables false
structure RIn (R:Raw) (m:Int):Prop where
 outs:InR R.outs m
 xs:∀x∈R.xs,∀r∈x,0≤r∧r≤m
 zs:∀r∈R.zs,0≤r∧r≤m
section
variable {ts:List Ty} {rt:Ty} {R A B D:Raw} {m:Int}
theorem sch_in (x:Fit ts rt R) (h:RIn R m):SchIn (ofR ts rt R) m:=by
 refine⟨h.outs,fun t ht r hr=>?_⟩
 rcases List.mem_append.1 ht with ht|ht
 ·obtain⟨i,hi,e⟩:=List.getElem_of_mem ht
  obtain⟨q1,q2,e2⟩:=x.get i hi
  rw[e2] at e
  subst e
  have hl:=x.at_ i q2 q1
  rw[allT_wT _ _ (by omega),List.take_of_length_le (by omega)] at hr
  exact h.xs _ (List.getElem_mem q2) r hr
 ·have e:t=withT rt R.zs:=List.mem_singleton.1 ht
  subst e
  have hl:=x.ret
  rw[allT_wT _ _ (by omega),List.take_of_length_le (by omega)] at hr
  exact h.zs r hr
theorem facts_in {of:ByteArray→List (Int×Int)} {S:Sch} (hm:0≤m) (h:SchIn S m):InR (factsL of S) m:=by
 intro p hp
 unfold factsL at hp
 rcases List.mem_append.1 hp with hp|hp
 ·exact h.outs p hp
 ·obtain⟨t,ht,hp⟩:=List.mem_flatMap.1 hp
  have:=wfL_in of t p hp
  have ha:=h.all t ht
  refine⟨?_,?_⟩
  ·rcases this.1 with e|e
   ·rw[e];omega
   ·exact ha _ e
  ·rcases this.2 with e|e
   ·rw[e];omega
   ·exact ha _ e
theorem mvF_in {fr by_ r:Int} (hf:0≤fr∧fr≤10) (hb:0≤by_∧by_≤10) (hr:0≤r∧r≤30):mvF fr by_ r=if fr<r then r+by_ else r:=by
 unfold mvF
 split
 ·rw[wrap64_id (by omega) (by omega)]
 ·rfl
theorem mapR_in {fr by_ b:Int} (hf:0≤fr∧fr≤10) (hb:0≤by_∧by_≤10) (hbb:0≤b∧b≤10) (h:RIn R (fr+b)):RIn (mapR (mvF fr by_) R) (fr+by_+b):=by
 have key:∀r:Int,(0≤r∧r≤fr+b)→0≤mvF fr by_ r∧mvF fr by_ r≤fr+by_+b:=by
  intro r hr
  rw[mvF_in hf hb (by omega)]
  split<;>omega
 refine⟨fun p hp=>?_,fun x hx r hr=>?_,fun r hr=>?_⟩
 ·obtain⟨q,hq,rfl⟩:=List.mem_map.1 hp
  have:=h.outs q hq
  exact⟨key _ this.1,key _ this.2⟩
 ·obtain⟨y,hy,rfl⟩:=List.mem_map.1 hx
  obtain⟨z,hz,rfl⟩:=List.mem_map.1 hr
  exact key z (h.xs y hy z hz)
 ·obtain⟨z,hz,rfl⟩:=List.mem_map.1 hr
  exact key z (h.zs z hz)
theorem RIn.mono {m':Int} (h:RIn R m) (hm:m≤m'):RIn R m':=
 ⟨fun p hp=>by have:=h.outs p hp;omega,fun x hx r hr=>by have:=h.xs x hx r hr;omega,fun r hr=>by have:=h.zs r hr;omega⟩
theorem pairsL_in (w:ByteArray→Nat→Int) (hm:0≤m):∀(ts:List Ty) (xs ys:List (List Int)),(∀i (h1:i<ts.length) (h2:i<xs.length),(xs[i]).length=(allT ts[i]).length)→(∀i (h1:i<ts.length) (h2:i<ys.length),(ys[i]).length=(allT ts[i]).length) →
  (∀x∈xs,∀r∈x,0≤r∧r≤m)→(∀x∈ys,∀r∈x,0≤r∧r≤m)→InR (pairsL w (List.zipWith withT ts xs) (List.zipWith withT ts ys)) m
 | [],xs,ys,_,_,_,_=>by intro p hp;simp[pairsL] at hp
 | t :: ts,[],ys,_,_,_,_=>by intro p hp;simp[pairsL] at hp
 | t :: ts,_ :: _,[],_,_,_,_=>by intro p hp;simp[pairsL] at hp
 | t :: ts,x :: xs,y :: ys,hx,hy,h1,h2=>by
  intro p hp
  simp only[List.zipWith_cons_cons,pairsL] at hp
  have e1:=hx 0 (by simp) (by simp)
  have e2:=hy 0 (by simp) (by simp)
  simp only[List.getElem_cons_zero] at e1 e2
  rcases List.mem_append.1 hp with hp|hp
  ·rw[see_with w t 1 x y (by omega) (by omega)] at hp
   rcases zipL_in hp with⟨a,b⟩|⟨a,b⟩
   ·exact⟨h1 x (by simp) _ a,h2 y (by simp) _ b⟩
   ·exact⟨h2 y (by simp) _ a,h1 x (by simp) _ b⟩
  ·exact pairsL_in w hm ts xs ys (fun i a b=>hx (i+1) (by simpa using a) (by simpa using b)) (fun i a b=>hy (i+1) (by simpa using a) (by simpa using b)) (fun z hz=>h1 z (by simp[hz])) (fun z hz=>h2 z (by simp[hz])) p hp
theorem ask_in (of:ByteArray→List (Int×Int)) (w:ByteArray→Nat→Int) (hm:0≤m) (a:Fit ts rt A) (b:Fit ts rt B) (ha:RIn A m) (hb:RIn B m):InR (askL of w (ofR ts rt A) (ofR ts rt B)) m:=by
 intro p hp
 unfold askL at hp
 rcases List.mem_append.1 hp with hp|hp
 ·rcases List.mem_append.1 hp with hp|hp
  ·exact facts_in hm (sch_in a ha) p hp
  ·exact pairsL_in w hm ts B.xs A.xs (fun i h1 h2=>b.at_ i h2 h1) (fun i h1 h2=>a.at_ i h2 h1) hb.xs ha.xs p hp
 ·have hp:p∈seeL w (withT rt A.zs) 1 (withT rt B.zs):=hp
  rw[see_with w rt 1 A.zs B.zs (by rw[a.ret];exact Nat.le_refl _) (by rw[b.ret];exact Nat.le_refl _)] at hp
  rcases zipL_in hp with⟨q1,q2⟩|⟨q1,q2⟩
  ·exact⟨ha.zs _ q1,hb.zs _ q2⟩
  ·exact⟨hb.zs _ q1,ha.zs _ q2⟩
end
end Go.Proofs.Yteofligmdngdgaa
namespace Go.Proofs.Yteofligmdngdgaa
open Go Go.Lf
set_option linter.unusedVariables false
structure Good (W:Wd) (A B:Sch) (fr a b:Nat):Prop where
 free:W.free=fr
 hf:fr≤2
 ea:A.b=a
 eb:B.b=b
 ha:a≤3
 hb:b≤3
 sa:SchSm A
 sb:SchSm B
 ia:SchIn A ((fr+a:Nat):Int)
 ib:SchIn B ((fr+b:Nat):Int)
 known:InR W.known (fr:Int)
 kl:W.known.length≤20
 ho:∀nm,(lkN nm W.ns).length≤10
 hW:∀nm i,W4 (ofW W.ws nm i)
 al:Alike (mvS fr b A) B
 ask:InR (askL (fun nm=>lkN nm W.ns) (ofW W.ws) (mvS fr b A) B) ((fr+b+a:Nat):Int)
noncomputable abbrev knownL (W:Wd) (B:Sch):List (Int×Int):=W.known++factsL (fun nm=>lkN nm W.ns) B
noncomputable abbrev askedL (W:Wd) (A B:Sch) (fr b:Nat):List (Int×Int):=askL (fun nm=>lkN nm W.ns) (ofW W.ws) (mvS fr b A) B
def TestP (W:Wd) (A B:Sch) (fr b:Nat):Prop:=TestG (fr+b) (mOf (fr+b) (knownL W B)) (askedL W A B fr b)
section
variable {W:Wd} {A B:Sch} {fr a b:Nat}
theorem Good.knownIn (g:Good W A B fr a b):InR (knownL W B) ((fr+b:Nat):Int):=by
 intro p hp
 rcases List.mem_append.1 hp with hp|hp
 ·have:=g.known p hp;omega
 ·exact facts_in (by omega) g.ib p hp
theorem Good.knownLen (g:Good W A B fr a b):(knownL W B).length≤5000000040:=by
 rw[List.length_append]
 have:=factsL_len (of:=fun nm=>lkN nm W.ns) g.ho g.sb
 have:=g.kl
 omega
theorem mOf_snoc (n:Nat) (K:List (Int×Int)) (p:Int×Int):mOf n (K++[p])=stepP n (mOf n K) p:=by unfold mOf;rw[List.foldl_append];rfl
end
section
variable {Q:Nat→Prop} {h:Heap}
theorem test_spec {W:Wd} {wv:Wdv} {A B:Sch} {va vb:Scv} {fr a b:Nat} (g:Good W A B fr a b) (hw:WdAt (fun b=>b<h.size) h W wv) (xa:SchAt (fun b=>b<h.size) h A va) (xb:SchAt (fun b=>b<h.size) h B vb) :
  CallsH Try.prog 10 #[.agg (wdv wv),.agg (scv va),.agg (scv vb)] h (fun y h'=>Grow h h'∧∃r:Bool,y=.bool r∧(r=true↔TestP W A B fr b)):=by
 apply F10
 unfold L10
 rintro p3 h1 rfl rfl
 have k1:=blk.new h (wdv wv) 33
 have f1:Grow h (h.push (.cells (wdv wv) 33)):=Fr.push _ _ _
 generalize h.push (.cells (wdv wv) 33)=h1 at k1 f1 ⊢
 refine new9 (v:=va) fun h2 b2 f2 z2=>new9 (v:=vb) fun h3 b3 f3 z3=>?_
 have g3:=f1.trans (f2.trans f3)
 have s3:=g3.size
 have B2:=f3.blk b2 fun h=>h
 have K3:=(f2.trans f3).blk k1 fun h=>h
 have hf:=g.hf
 have ha:=g.ha
 have hb:=g.hb
 have efr:wv.free=(fr:Int):=by rw[hw.free,g.free]
 have eva:va.b=(a:Int):=by rw[xa.b,g.ea]
 have evb:vb.b=(b:Int):=by rw[xb.b,g.eb]
 have NA:=Sc9.blk B2
 have NB:=Sc9.blk b3
 refine⟨_,by rw[K3.cl];rfl,?_⟩
 rw[efr]
 refine⟨fun x=>x=false,⟨fun e=>absurd (of_decide_eq_true e) (by omega),fun _=>⟨_,by rw[K3.cl];rfl,by rw[efr];exact decide_eq_false (by omega)⟩⟩,?_⟩
 rintro _ rfl
 refine⟨fun x h'=>x=false∧Grow h3 h',⟨fun e=>(by cases e),fun _=>?_⟩,?_⟩
 ·refine⟨_,_,_,_,_,_,_,_,_,NA.b,NA.o,NA.pp,NA.k,NA.nm,NA.mu,NA.r,NA.rs,NA.az,_,by rw[K3.cl];rfl,?_⟩
  rw[efr]
  refine cal_of (fits_spec (v:=va) (free:=fr) (sch_up xa g3) g.sa (by omega) (by rw[g.ea];omega) (by rw[g.ea];exact g.ia)) ?_
  rintro _ h5 ⟨f5,rfl⟩
  exact⟨_,rfl,rfl,f5⟩
 rintro _ h4 ⟨rfl,f4⟩
 have g4:=g3.trans f4
 have K4:=f4.blk K3 fun h=>h
 have b4:=f4.blk b3 fun h=>h
 have NB:=Sc9.blk b4
 refine⟨fun x h'=>x=false∧Grow h4 h',⟨fun e=>(by cases e),fun _=>?_⟩,?_⟩
 ·refine⟨_,_,_,_,_,_,_,_,_,NB.b,NB.o,NB.pp,NB.k,NB.nm,NB.mu,NB.r,NB.rs,NB.az,_,by rw[K4.cl];rfl,?_⟩
  rw[efr]
  refine cal_of (fits_spec (v:=vb) (free:=fr) (sch_up xb g4) g.sb (by omega) (by rw[g.eb];omega) (by rw[g.eb];exact g.ib)) ?_
  rintro _ h5 ⟨f5,rfl⟩
  exact⟨_,rfl,rfl,f5⟩
 rintro _ h6 ⟨rfl,f6⟩
 have g6:=g4.trans f6
 have K6:=f6.blk K4 fun h=>h
 have b6:=f6.blk b4 fun h=>h
 have a6:=(f4.trans f6).blk B2 fun h=>h
 refine⟨fun e=>(by cases e),fun _=>?_⟩
 refine⟨_,by rw[K6.cl];rfl,_,(Sc9.blk b6).b,?_⟩
 rw[efr,evb]
 have hw1:IntKind.i64.wrap ((fr:Int)+(b:Int))=((fr+b:Nat):Int):=by rw[wrap64_id (by omega) (by omega)];rfl
 dsimp only
 rw[hw1]
 refine cal_of (new_spec (fr+b) h6 (by omega)) ?_
 rintro _ h8 ⟨br,bo,c,rb,rfl,rel,f8,hrel⟩
 refine⟨_,_,rfl,fun e=>(by cases e),fun _=>?_⟩
 have g8:=g6.trans f8
 have K8:=f8.blk K6 fun h=>h
 have b8:=f8.blk b6 fun h=>h
 have a8:=f8.blk a6 fun h=>h
 have hlt8:∀q,RelB br bo rb (fr+b) q→q<h8.size:=fun q hq=>rel.lt hq
 have up:∀h',Grow h8 h'→blk h' h.size (wdv wv)∧Sc9 h' ⟨h2.size,0,none⟩ vb:=fun h' f=>⟨f.blk K8 fun h=>h,Sc9.blk (f.blk b8 fun h=>h)⟩
 refine⟨fun h'=>Grow h8 h',Fr.refl _ _,_,by rw[add_plain,K8.cl];rfl,_,_,_,_,_,_,_,_,_,fun h' f=>(up h' f).2.b,fun h' f=>(up h' f).2.o,fun h' f=>(up h' f).2.pp,fun h' f=>(up h' f).2.k,fun h' f=>(up h' f).2.nm,fun h' f=>(up h' f).2.mu,fun h' f=>(up h' f).2.r,fun h' f=>(up h' f).2.rs,fun h' f=>(up h' f).2.az,_,fun h' f=>by rw[add_plain,(up h' f).1.cl];rfl,?_⟩
 have hkl:=g.kl
 refine cal_of (cloneP_spec (hw.known.fr g8 fun _ _ h=>h) (by omega)) ?_
 rintro _ h9 ⟨f9,s9,rfl,o9⟩
 refine⟨s9,rfl,f9,?_⟩
 have g9:=g8.trans f9
 refine cal_of (facts_spec (v:=vb) g.ho (sch_up xb g9) (needs_up hw.needs g9) g.sb) ?_
 rintro _ h10 ⟨f10,s10,rfl,o10⟩
 refine⟨s10,rfl,?_⟩
 have hfl:=factsL_len (of:=fun nm=>lkN nm W.ns) g.ho g.sb
 have hn9:s9.n=W.known.length:=by have:=o9.len;rw[prs_len] at this;omega
 have hn10:s10.n=(factsL (fun nm=>lkN nm W.ns) B).length:=by have:=o10.len;rw[prs_len] at this;omega
 have s9z:=f9.size
 have s10z:=f10.size
 refine appS_own rfl (o9.frame f10 fun _ _ h=>h) (news:=prs (factsL (fun nm=>lkN nm W.ns) B)) (by rw[prs_len,hn10]) o10.row (one_prs _) (by omega) (by omega) (by omega) ?_
 intro s53 h11 _ o11 f11 _
 have F11:Grow h8 h11:=(f9.trans f10).trans' f11 fun i hi e=>by have:=(o9.ge e).1;omega
 rw[←prs_app] at o11
 have hkn:=g.knownLen
 have hin:=g.knownIn
 change Own h11 h8.size 2 s53 (prs (knownL W B)) at o11
 have hKw:(W.known++factsL (fun nm=>lkN nm W.ns) B)=knownL W B:=rfl
 have hn53:s53.n=(knownL W B).length:=by have:=o11.len;rw[prs_len] at this;omega
 have hTP:TestP W A B fr b=TestG (fr+b) (mOf (fr+b) (knownL W B)) (askedL W A B fr b):=rfl
 rw[hTP]
 generalize knownL W B=K at *
 have s11z:=F11.size
 refine⟨fun i h'=>∃j:Nat,i=j∧j≤K.length∧Fr (fun q=>RelB br bo rb (fr+b) q∨h11.size≤q) h11 h'∧RelOk br bo c rb (fr+b) (mOf (fr+b) (K.take j)) h',fun i _=>K.length - i.toNat,⟨0,rfl,Nat.zero_le _,Fr.refl _ _,rel.frame F11 fun _ _ h=>h⟩,?_⟩
 rintro _ h12 ⟨j,rfl,hj,F12,rel12⟩
 have s12z:=F12.size
 refine ifb_iff (q:=j<K.length) (by simp[hn53]) (fun hl=>?_) (fun hl=>?_)
 ·have o12:=o11.frame F12 fun q hq e=>by
   have:=o11.ge hq
   rcases e with e|e
   ·have:=hlt8 q e;omega
   ·omega
  refine (own_prs o12).get hl fun q c1 c2=>?_
  rw[Int.toNat_natCast]
  refine⟨_,_,c1,c2,?_⟩
  rintro p10 h13 rfl rfl
  have k13:=blk.new h12 #[Value.int .i64 0,Value.int .i64 0] 56
  refine stoA_i k13 rfl (by simp[Value.oneCell']) fun h14 k14 f14=>?_
  have g14:Grow h12 h14:=(Fr.push (fun _=>False) h12 _).trans' f14 fun i hi e=>by omega
  refine⟨_,by rw[k14.cl];rfl,_,by rw[add_plain,k14.cl];rfl,?_⟩
  have hp:=hin _ (List.getElem_mem hl)
  have hs:stepP (fr+b) (mOf (fr+b) (K.take j)) K[j]=addM (mOf (fr+b) (K.take j)) K[j].1.toNat K[j].2.toNat:=by
   unfold stepP
   rw[if_pos]
   simp[inR]
   omega
  obtain⟨x,ex⟩:=Int.eq_ofNat_of_zero_le hp.1.1
  obtain⟨y,ey⟩:=Int.eq_ofNat_of_zero_le hp.2.1
  rw[ex,ey] at hs ⊢
  refine cal_of (add_spec (rel12.frame g14 fun _ _ h=>h) (Clo.mOf _ _) x y (by omega) (by omega) (by omega)) ?_
  rintro _ h15 ⟨rfl,rel15,f15⟩
  refine⟨_,rfl,fun e=>(by cases e),fun _=>?_⟩
  rw[wrap_succ hl (by omega)]
  refine⟨⟨j+1,rfl,hl,(F12.trans (g14.mono fun _ _ e=>e.elim)).trans (f15.mono fun q _ e=>.inl e),?_⟩,by simp;omega⟩
  rw[List.take_succ_eq_append_getElem hl,mOf_snoc,hs]
  exact rel15
 ·have hje:j=K.length:=by omega
  subst hje
  rw[List.take_length] at rel12
  have G12:Fr (fun q=>h.size<q) h h12:=by
   have a0:Fr (fun q=>h.size<q) h h11:=(g8.trans F11).mono fun _ _ e=>e.elim
   exact a0.trans' F12 fun i hi e=>by
    rcases e with e|e
    ·have:=hrel i e;have:=(f4.trans f6).size;have:=f1.size;omega
    ·have:=(f4.trans f6).size;have:=f8.size;have:=f1.size;omega
  have G:Grow h h12:=⟨G12.size,fun q hq _=>G12.same q hq (by omega)⟩
  have hno:∀q,q<h6.size→¬(RelB br bo rb (fr+b) q∨h11.size≤q):=fun q hq e=>by
   rcases e with e|e
   ·have:=hrel q e;omega
   ·have:=f8.size;omega
  have K12:=F12.blk (F11.blk K8 fun h=>h) (hno _ K6.lt)
  have b12:=F12.blk (F11.blk b8 fun h=>h) (hno _ b6.lt)
  have a12:=F12.blk (F11.blk a8 fun h=>h) (hno _ a6.lt)
  have NA:=Sc9.blk a12
  refine⟨fun h'=>Grow h12 h',Fr.refl _ _,_,_,_,_,_,_,_,_,_,NA.b,NA.o,NA.pp,NA.k,NA.nm,NA.mu,NA.r,NA.rs,NA.az,_,by rw[K12.cl];rfl,_,(Sc9.blk b12).b,?_⟩
  have up:∀h',Grow h12 h'→blk h' h.size (wdv wv)∧Sc9 h' ⟨h2.size,0,none⟩ vb:=fun h' f=>⟨f.blk K12 fun h=>h,Sc9.blk (f.blk b12 fun h=>h)⟩
  refine⟨_,_,_,_,fun h' f=>by rw[(up h' f).1.cl];rfl,fun h' f=>by rw[add_plain,(up h' f).1.cl];rfl,fun h' f=>by rw[add_plain,(up h' f).1.cl];rfl,fun h' f=>by rw[add_plain,(up h' f).1.cl];rfl,_,_,_,_,_,_,_,_,_,fun h' f=>(up h' f).2.b,fun h' f=>(up h' f).2.o,fun h' f=>(up h' f).2.pp,fun h' f=>(up h' f).2.k,fun h' f=>(up h' f).2.nm,fun h' f=>(up h' f).2.mu,fun h' f=>(up h' f).2.r,fun h' f=>(up h' f).2.rs,fun h' f=>(up h' f).2.az,?_⟩
  refine cal_of (moved_spec (v:=va) (free:=wv.free) (by_:=vb.b) (sch_up xa G) g.sa) ?_
  rintro _ h16 ⟨f16,va',rfl,xa'⟩
  rw[efr,evb] at xa'
  refine⟨_,_,_,_,_,_,_,_,_,rfl,f16,?_⟩
  have G16:=G.trans f16
  refine cal_of (asked_spec (wv:=wv) (va:=va') (vb:=vb) g.ho (wd_up hw G16) xa' (sch_up xb G16) (mvS_sm g.sa) g.sb g.al) ?_
  rintro _ h17 ⟨f17,s17,rfl,o17⟩
  refine⟨s17,true,rfl,fun x h'=>Grow h17 h'∧(x=true↔TestG (fr+b) (mOf (fr+b) K) (askedL W A B fr b)),⟨fun _=>?_,fun e=>(by cases e)⟩,?_⟩
  ·have hal:=askL_len g.ho (ofW W.ws) (mvS_sm (free:=fr) (by_:=b) g.sa) g.sb
   refine cal_of (holds_spec (rel12.frame (f16.trans f17) fun _ _ h=>h) (by omega) ((own_prs o17).weak fun q _ hq=>hq) (L:=askedL W A B fr b) (by show (askL _ _ _ _).length≤_;omega) fun p hp=>?_) ?_
   ·have:=g.ask p hp
    omega
   ·rintro _ h19 ⟨f19,r,rfl,hr⟩
    exact⟨_,rfl,f19,hr⟩
  rintro x h18 ⟨f18,hx⟩
  exact⟨G16.trans (f17.trans f18),x,rfl,hx⟩
end
end Go.Proofs.Yteofligmdngdgaa
namespace Go.Proofs.Yteofligmdngdgaa
open Go Go.Lf
set_option linter.unusedVariables false
def um (x most:Int):Int:=(IntKind.u64.wrap x).tmod (most+1)
theorem um_in (x:Int) {most:Int} (hm:0≤most):0≤um x most∧um x most≤most:=by
 unfold um
 have hu:0≤IntKind.u64.wrap x:=by rw[IntKind.wrap_u64];omega
 rw[Int.tmod_eq_emod_of_nonneg hu]
 have:=Int.emod_nonneg (IntKind.u64.wrap x) (b:=most+1) (by omega)
 have:=Int.emod_lt_of_pos (IntKind.u64.wrap x) (b:=most+1) (by omega)
 omega
theorem um_wrap (x:Int) {most:Int} (hm:0≤most∧most≤100):IntKind.u64.wrap (IntKind.i64.wrap (most+1))≠0∧IntKind.i64.wrap ((IntKind.u64.wrap x).tmod (IntKind.u64.wrap (IntKind.i64.wrap (most+1))))=um x most:=by
 have h1:IntKind.i64.wrap (most+1)=most+1:=wrap64_id (by omega) (by omega)
 have h2:IntKind.u64.wrap (most+1)=most+1:=by rw[IntKind.wrap_u64];omega
 rw[h1,h2]
 have:=um_in x hm.1
 refine⟨by omega,?_⟩
 show IntKind.i64.wrap (um x most)=um x most
 exact wrap64_id (by omega) (by omega)
def rg (ls:List Int) (at_:Nat) (most:Int) (i:Nat):Int:=if 0<ls.length then um ((ls[(at_+i) % ls.length]?).getD 0) most else 0
def rgs (ls:List Int) (at_:Nat) (most:Int) (n:Nat):List Int:=(List.range n).map (rg ls at_ most)
theorem rgs_succ (ls:List Int) (at_:Nat) (most:Int) (n:Nat):rgs ls at_ most (n+1)=rgs ls at_ most n++[rg ls at_ most n]:=by unfold rgs;rw[List.range_succ];simp
theorem rgs_len (ls:List Int) (at_:Nat) (most:Int) (n:Nat):(rgs ls at_ most n).length=n:=by simp[rgs]
theorem rg_in (ls:List Int) (at_:Nat) {most:Int} (hm:0≤most) (i:Nat):0≤rg ls at_ most i∧rg ls at_ most i≤most:=by
 unfold rg
 split
 ·exact um_in _ hm
 ·omega
theorem rgs_in (ls:List Int) (at_:Nat) {most:Int} (hm:0≤most) (n:Nat):∀r∈rgs ls at_ most n,0≤r∧r≤most:=by
 intro r hr
 obtain⟨i,_,rfl⟩:=List.mem_map.1 hr
 exact rg_in ls at_ hm i
section
variable {Q:Nat→Prop} {h:Heap}
def refT (r:Int):Ty:=.mk 7 ⟨#[]⟩ false r [] [.mk 1 ⟨#[]⟩ false 0 [] []]
theorem bare_at (k:Int) (nm:ByteArray) (mu:Bool) (r:Int):TyAt Q h (.mk k nm mu r [] []) ⟨k,nm,mu,r,⟨none,0,0⟩,⟨none,0,0⟩⟩:=
 tyAt_iff.2 ⟨rfl,rfl,rfl,rfl,IntsC.nil _ _,rfl,fun i hi=>by simp at hi⟩
theorem ref_spec (r:Int) (h:Heap):CallsH Try.prog 21 #[.int .i64 r] h (fun x h'=>Grow h h'∧∃v,x=.agg (tvs v)∧TyAt (fun b=>b<h'.size) h' (refT r) v):=by
 apply F21
 unfold L21
 refine newz fun h1 b1 f1 z1=>?_
 rintro s5 h2 rfl rfl
 have f2:Grow h1 (h1.push (.cells (tvs ⟨1,⟨#[]⟩,false,0,⟨none,0,0⟩,⟨none,0,0⟩⟩) 35)):=Fr.push _ _ _
 have k2:=blk.new h1 (tvs ⟨1,⟨#[]⟩,false,0,⟨none,0,0⟩,⟨none,0,0⟩⟩) 35
 have z2:(h1.push (.cells (tvs ⟨1,⟨#[]⟩,false,0,⟨none,0,0⟩,⟨none,0,0⟩⟩) 35)).size=h1.size+1:=by simp
 change stoA (h1.push (.cells (tvs ⟨1,⟨#[]⟩,false,0,⟨none,0,0⟩,⟨none,0,0⟩⟩) 35)) _ _ _
 generalize h1.push (.cells (tvs ⟨1,⟨#[]⟩,false,0,⟨none,0,0⟩,⟨none,0,0⟩⟩) 35)=h2 at f2 k2 z2 ⊢
 refine sto6 (v:=⟨7,⟨#[]⟩,false,r,⟨none,0,0⟩,⟨some ⟨h1.size,0,none⟩,1,1⟩⟩) (f2.blk b1 fun h=>h) rfl fun h3 b3 f3=>?_
 refine rd6 (Tv6.blk b3) ?_
 have s3:=f3.size
 refine⟨(f1.trans f2).trans' f3 fun i hi e=>by omega,_,rfl,?_⟩
 have k3:=f3.blk k2 (by omega)
 refine tyAt_iff.2 ⟨rfl,rfl,rfl,rfl,IntsC.nil _ _,rfl,fun j hj=>?_⟩
 obtain rfl:j=0:=by simp at hj;omega
 refine⟨_,⟨1,⟨#[]⟩,false,0,⟨none,0,0⟩,⟨none,0,0⟩⟩,rfl,by dsimp only;omega,?_,bare_at _ _ _ _⟩
 rw[Nat.zero_mul,add_plain]
 exact Tv6.blk k3
theorem pairs_mod {l:Sv} {L:List (Int×Int)} {most:Int} (x:PrQ Q h l L) (hm:0≤most∧most≤100) (hl:L.length≤1000000) :
  CallsH Try.prog 19 #[.slice l.a l.n l.c,.int .i64 most] h (fun y h'=>Grow h h'∧∃s:Sv,y=.slice s.a s.n s.c∧Own h' h.size 2 s (prs (L.map (pm fun x=>um x most)))):=by
 apply F19
 unfold L19
 refine⟨fun out i h'=>∃j:Nat,i=j∧j≤L.length∧Grow h h'∧Own h' h.size 2 out (prs ((L.take j).map (pm fun x=>um x most))),fun _ i _=>L.length - i.toNat,⟨0,rfl,Nat.zero_le _,Fr.refl _ _,Own.nil _ _ _⟩,?_⟩
 rintro out _ h1 ⟨j,rfl,hj,f1,o1⟩
 have x1:=x.fr f1 fun _ _ h=>h
 have hn1:out.n=j:=by have:=o1.len;rw[prs_len,List.length_map,List.length_take] at this;omega
 refine ifb_iff (q:=j<L.length) (by simp[x.len]) (fun hlt=>?_) (fun hge=>?_)
 ·refine x1.get hlt fun q c1 c2=>?_
  rw[Int.toNat_natCast]
  refine⟨_,c1,(um_wrap L[j].1 hm).1,x1.get hlt fun q c1 c2=>?_⟩
  refine⟨_,c2,(um_wrap L[j].1 hm).1,?_⟩
  rw[(um_wrap L[j].1 hm).2,(um_wrap L[j].2 hm).2]
  refine app1 rfl o1 rfl (by simp[Value.oneCell']) f1.size (by omega) (by omega) fun s' h3 e1 o3 f3 own3=>?_
  rw[wrap_succ hlt (by omega)]
  refine⟨⟨j+1,rfl,hlt,f1.trans' f3 fun i hi e=>by have:=(o1.ge e).1;omega,?_⟩,by simp;omega⟩
  rw[List.take_succ_eq_append_getElem hlt,List.map_append,prs_app]
  exact o3
 ·have hje:j=L.length:=by omega
  subst hje
  rw[List.take_length] at o1
  exact⟨f1,out,rfl,o1⟩
theorem regions_spec (t:Ty) (hsm:small 5 t=true) (Q:Nat→Prop) (v:Tv) (h:Heap) (l:Sv) (ls:List Int) (at_:Nat) (most:Int) (hQ:∀b,Q b→b<h.size) (hv:TyAt Q h t v) (hl:IntsAt h l ls) (hm:0≤most∧most≤100) (ha:at_≤100) :
  CallsH Try.prog 37 #[.agg (tvs v),.slice l.a l.n l.c,.int .i64 at_,.int .i64 most] h (fun x h'=>Grow h h'∧∃v',x=.agg (tvs v')∧TyAt (fun b=>Q b∨h.size≤b) h' (withT t (rgs ls at_ most (allT t).length)) v'):=by
 apply F37
 unfold L37
 have hal:=allT_len 5 t hsm
 have hb:=bnd8 (n:=5) (by omega)
 refine new6 (v:=v) fun h1 b1 f1 z1=>newz fun h2 b2 f2 z2=>?_
 have g2:=f1.trans f2
 have B1:=f2.blk b1 (fun h=>h)
 refine rd6 (Tv6.blk B1) ?_
 refine cal_of (all_spec t 5 (by omega) hsm v h2 (hv.grow g2)) ?_
 rintro _ h3 ⟨f3,s12,rfl,o12⟩
 have hn12:s12.n=(allT t).length:=by have:=o12.len;simp[ints] at this;omega
 refine⟨s12,rfl,?_⟩
 have g3:=g2.trans f3
 refine⟨fun all i h'=>∃j:Nat,i=j∧j≤(allT t).length∧Grow h3 h'∧Own h' h3.size 1 all (ints (rgs ls at_ most j)),fun _ i _=>(allT t).length - i.toNat,⟨0,rfl,Nat.zero_le _,Fr.refl _ _,Own.nil _ _ _⟩,?_⟩
 rintro all _ h4 ⟨j,rfl,hj,f4,o4⟩
 dsimp only
 rw[hn12]
 have g4:=g3.trans f4
 have hn4:all.n=j:=by have:=o4.len;simp[ints,rgs_len] at this;omega
 refine ifb_iff (q:=j<(allT t).length) (by simp) (fun hlt=>?_) (fun hge=>?_)
 ·refine⟨fun r h'=>r=rg ls at_ most j∧h'=h4,?_,?_⟩
  ·rw[hl.len]
   refine ifb_iff (q:=0<ls.length) (by simp) (fun hp=>?_) (fun hp=>⟨by unfold rg;rw[if_neg hp],rfl⟩)
   have hw:IntKind.i64.wrap ((at_:Int)+(j:Int))=((at_+j:Nat):Int):=by rw[wrap64_id (by omega) (by omega)];rfl
   rw[hw]
   have hm':((at_+j:Nat):Int).tmod (ls.length:Int)=(((at_+j) % ls.length:Nat):Int):=by rw[Int.tmod_eq_emod_of_nonneg (by omega)];rfl
   have hml:(at_+j) % ls.length<ls.length:=Nat.mod_lt _ hp
   rw[hm']
   refine⟨by omega,(hl.keep g4 (fun _ _ h=>h)).get hml ⟨(um_wrap 0 hm).1,?_,rfl⟩⟩
   unfold rg
   rw[if_pos hp,List.getElem?_eq_getElem hml]
   exact (um_wrap _ hm).2
  ·rintro _ _ ⟨rfl,rfl⟩
   refine app1 rfl o4 rfl (by simp[Value.oneCell']) f4.size (by omega) (by omega) fun s' h7 e1 o' f' hown=>?_
   rw[wrap_succ hlt (by omega)]
   refine⟨⟨j+1,rfl,hlt,f4.trans' f' fun i hi e=>by have:=(o4.ge e).1;omega,?_⟩,by simp;omega⟩
   rw[rgs_succ]
   simpa [ints] using o'
 ·have hje:j=(allT t).length:=by omega
  have B4:=(f3.trans f4).blk B1 (fun h=>h)
  refine rd6 (Tv6.blk B4) ?_
  have i4:IntsQ (fun b=>b<h4.size) h4 all (rgs ls at_ most j):=IntsQ.of (own_ints o4) fun b _ hb=>hb
  refine cal_of (with_spec t 5 (by omega) hsm Q (fun b=>b<h4.size) v h4 all (rgs ls at_ most j) (fun b hb=>by have:=hQ b hb;have:=g4.size;omega) (fun _ h=>h) (hv.grow g4) i4 (own_cap o4) (by rw[rgs_len];omega)) ?_
  rintro _ h8 ⟨f8,v',l',rfl,t8,_,_⟩
  refine⟨_,_,_,_,_,_,_,rfl,?_⟩
  refine newz fun h9 b9 f9 z9=>?_
  refine sto6 (v:=v') b9 rfl fun h10 b10 f10=>?_
  refine rd6 (Tv6.blk b10) ?_
  have p10:Grow h8 h10:=f9.trans' f10 fun i hi e=>by omega
  have C2:=(f3.trans (f4.trans (f8.trans p10))).blk b2 (fun h=>h)
  refine sto6 (v:=v') C2 rfl fun h11 b11 f11=>?_
  refine rd6 (Tv6.blk b11) ?_
  have g8:=g4.trans f8
  have g10:=g8.trans p10
  refine⟨g10.trans' f11 fun i hi e=>by have:=f1.size;omega,v',rfl,?_⟩
  have s4:=(f2.trans (f3.trans f4)).size
  have s3:=(f3.trans f4).size
  rw[hje] at t8
  refine ((t8.grow p10).fr f11 fun b hb e=>?_).weak fun b hb _=>hb.imp id fun e=>by have:=g4.size;omega
  rcases hb with hb|hb
  ·have:=hQ b hb;have:=f1.size;omega
  ·omega
end
end Go.Proofs.Yteofligmdngdgaa
namespace Go.Proofs.Yteofligmdngdgaa
open Go Go.Lf
set_option linter.unusedVariables false
structure Cs where
 free:Int
 known:List (Int×Int)
 src:Int
 needs:List (Int×Int)
 shapes:List Ty
 a:List Int
 b:List Int
 ab:Int
 bb:Int
 ao:List (Int×Int)
 bo:List (Int×Int)
structure Cv where
 free:Int
 known:Sv
 src:Int
 needs:Sv
 shapes:Sv
 a:Sv
 b:Sv
 ab:Int
 bb:Int
 ao:Sv
 bo:Sv
abbrev csv (c:Cv):Array Value:=#[.int .i64 c.free,.slice c.known.a c.known.n c.known.c,.int .u64 c.src,.slice c.needs.a c.needs.n c.needs.c,.slice c.shapes.a c.shapes.n c.shapes.c,.slice c.a.a c.a.n c.a.c,.slice c.b.a c.b.n c.b.c,.int .i64 c.ab,.int .i64 c.bb,.slice c.ao.a c.ao.n c.ao.c,.slice c.bo.a c.bo.n c.bo.c]
structure CsAt (Q:Nat→Prop) (h:Heap) (C:Cs) (v:Cv):Prop where
 free:v.free=C.free
 known:PrQ Q h v.known C.known
 src:v.src=C.src
 needs:PrQ Q h v.needs C.needs
 shapes:TyAt Q h (tN C.shapes) (tNv v.shapes)
 a:IntsQ Q h v.a C.a
 b:IntsQ Q h v.b C.b
 ab:v.ab=C.ab
 bb:v.bb=C.bb
 ao:PrQ Q h v.ao C.ao
 bo:PrQ Q h v.bo C.bo
theorem CsAt.fr {Q T:Nat→Prop} {h h':Heap} {C:Cs} {v:Cv} (x:CsAt Q h C v) (f:Fr T h h') (hT:∀b,Q b→¬T b):CsAt Q h' C v:=
 ⟨x.free,x.known.fr f hT,x.src,x.needs.fr f hT,x.shapes.fr f hT,x.a.fr f hT,x.b.fr f hT,x.ab,x.bb,x.ao.fr f hT,x.bo.fr f hT⟩
theorem CsAt.grow {Q:Nat→Prop} {h h':Heap} {C:Cs} {v:Cv} (x:CsAt Q h C v) (f:Grow h h'):CsAt Q h' C v:=x.fr f fun _ _ h=>h
structure Cs11 (h:Heap) (p:Addr) (c:Cv):Prop where
 free:cl h p=some (.int .i64 c.free)
 known:cl h (p.add 1)=some (.slice c.known.a c.known.n c.known.c)
 src:cl h (p.add 2)=some (.int .u64 c.src)
 needs:cl h (p.add 3)=some (.slice c.needs.a c.needs.n c.needs.c)
 shapes:cl h (p.add 4)=some (.slice c.shapes.a c.shapes.n c.shapes.c)
 a:cl h (p.add 5)=some (.slice c.a.a c.a.n c.a.c)
 b:cl h (p.add 6)=some (.slice c.b.a c.b.n c.b.c)
 ab:cl h (p.add 7)=some (.int .i64 c.ab)
 bb:cl h (p.add 8)=some (.int .i64 c.bb)
 ao:cl h (p.add 9)=some (.slice c.ao.a c.ao.n c.ao.c)
 bo:cl h (p.add 10)=some (.slice c.bo.a c.bo.n c.bo.c)
theorem Cs11.blk {h:Heap} {b:Nat} {c:Cv} (k:blk h b (csv c)):Cs11 h ⟨b,0,none⟩ c:=by
 refine⟨by rw[k.cl];rfl,?_,?_,?_,?_,?_,?_,?_,?_,?_,?_⟩<;>(rw[add_plain,k.cl];rfl)
theorem new11 {h:Heap} {v:Cv} {K:Addr→Heap→Prop} (k:∀h',blk h' h.size (csv v)→Grow h h'→h'.size=h.size+1→K ⟨h.size,0,none⟩ h'):new 27 (csv v) h K:=by
 rintro p h' rfl rfl
 exact k _ (blk.new h _ _) (Fr.push _ _ _) (by simp)
theorem stoA_off {h:Heap} {b o:Nat} {cs:Array Value} {vs:List Value} {K:Heap→Prop} (kk:blk h b cs) (ho:o+vs.length≤cs.size) (h1:∀v∈vs,v.oneCell'=true)
  (k:∀h',blk h' b ((vs.zipIdx o).foldl (fun c p=>c.setIfInBounds p.2 p.1) cs)→Fr (fun q=>q=b) h h'→K h'):stoA h ⟨b,o,none⟩ vs K:=by
 refine⟨h1,fun j hj=>?_,?_⟩
 ·rw[add_plain]
  refine⟨?_,kk.fz _⟩
  rw[kk.cl]
  have:o+j<cs.size:=by omega
  simp[this]
 ·rintro h' rfl
  have:=scs_blk b vs h cs o 0 kk
  simp only[Nat.add_zero] at this
  exact k _ this.1 this.2
theorem GRow.ty2 {Q0:Nat→Prop} {h:Heap} {B B':Nat} {s:Sv} {ts:List Ty} {us:List Tv} (x:GRow Q0 h B s ts us) (hB:B'≤B):TyAt (fun b=>Q0 b∨(B'≤b∧b<h.size)) h (tN ts) (tNv s):=by
 refine tyAt_iff.2 ⟨rfl,rfl,rfl,rfl,IntsC.nil _ _,x.n,fun j hj=>?_⟩
 have hl:=x.len
 obtain⟨p,ea,ho,T⟩:=own6 x.own (i:=j) (by omega)
 have:=x.own.ge ho
 exact⟨p,us[j],ea,.inr ⟨by omega,this.2⟩,T,(x.at_ j (by omega) hj).weak fun b hb hlt=>hb.imp id fun hb=>⟨by omega,hlt⟩⟩
def unitT:Ty:=.mk 4 ⟨#[]⟩ false 0 [] []
abbrev unitV:Tv:=⟨4,⟨#[]⟩,false,0,⟨none,0,0⟩,⟨none,0,0⟩⟩
noncomputable def tyOf (sh:List Ty) (ls:List Int) (most:Int) (i:Nat):Ty:=withT (sh.getD i unitT) (rgs ls (3*i) most (allT (sh.getD i unitT)).length)
noncomputable def rawOf (sh:List Ty) (ls:List Int) (bound most:Int) (outs:List (Int×Int)):Raw:=
 ⟨bound,outs.map (pm fun x=>um x most),(List.range (sh.length - 1)).map fun i=>rgs ls (3*i) most (allT (sh.getD i unitT)).length,rgs ls (3*(sh.length - 1)) most (allT (sh.getD (sh.length - 1) unitT)).length⟩
theorem allT_unit:allT unitT=[]:=by unfold unitT;rw[allT_mk,ownL_mk];simp
theorem fit_raw (sh:List Ty) (ls:List Int) (bound most:Int) (outs:List (Int×Int)):Fit sh.dropLast (sh.getD (sh.length - 1) unitT) (rawOf sh ls bound most outs):=by
 refine⟨by simp[rawOf],fun i h1 h2=>?_,by simp[rawOf,rgs_len]⟩
 simp only[rawOf,List.getElem_map,List.getElem_range,rgs_len]
 rw[List.getElem_dropLast]
 have:i<sh.length:=by simp at h2;omega
 simp[this]
theorem in_raw (sh:List Ty) (ls:List Int) (bound:Int) {most:Int} (hm:0≤most) (outs:List (Int×Int)):RIn (rawOf sh ls bound most outs) most:=by
 refine⟨fun p hp=>?_,fun x hx r hr=>?_,fun r hr=>rgs_in _ _ hm _ r hr⟩
 ·obtain⟨q,_,rfl⟩:=List.mem_map.1 hp
  exact⟨um_in _ hm,um_in _ hm⟩
 ·obtain⟨i,_,rfl⟩:=List.mem_map.1 hx
  exact rgs_in _ _ hm _ r hr
theorem raw_ps (sh:List Ty) (ls:List Int) (bound most:Int) (outs:List (Int×Int)):(ofR sh.dropLast (sh.getD (sh.length - 1) unitT) (rawOf sh ls bound most outs)).ps=(List.range (sh.length - 1)).map (tyOf sh ls most):=by
 apply List.ext_getElem
 ·simp[ofR,rawOf]
 ·intro i h1 h2
  simp only[ofR,rawOf,List.getElem_zipWith,List.getElem_map,List.getElem_range,tyOf]
  have:i<sh.length:=by simp at h2;omega
  rw[List.getElem_dropLast]
  simp[this]
noncomputable abbrev schOf (sh:List Ty) (ls:List Int) (bound most:Int) (outs:List (Int×Int)):Sch:=ofR sh.dropLast (sh.getD (sh.length - 1) unitT) (rawOf sh ls bound most outs)
section
variable {Q:Nat→Prop} {h:Heap}
theorem scheme_spec {C:Cs} {v:Cv} {l o:Sv} {ls:List Int} {bound:Int} {L:List (Int×Int)} {Q0:Nat→Prop} (hQ:∀b,Q0 b→b<h.size) (x:CsAt Q0 h C v) (hl:IntsQ Q0 h l ls) (ho:PrQ Q0 h o L)
  (hf:0≤C.free∧C.free≤2) (hb:0≤bound∧bound≤3) (hL:L.length≤20) (hs:C.shapes.length≤4) (hsm:∀t∈C.shapes,small 5 t=true) :
  CallsH Try.prog 20 #[.agg (csv v),.slice l.a l.n l.c,.int .i64 bound,.slice o.a o.n o.c] h (fun y h'=>Grow h h'∧∃sv,y=.agg (scv sv)∧SchAt (fun b=>Q0 b∨(h.size≤b∧b<h'.size)) h' (schOf C.shapes ls bound (C.free+bound) L) sv):=by
 have hQ2:∀ {b:Nat} {P:Prop},Q0 b∨P→b<h.size∨P:=fun e=>e.imp (hQ _) id
 apply F20
 unfold L20
 refine new11 (v:=v) fun h1 b1 f1 z1=>new9 (v:=zsc) fun h2 b2 f2 z2=>?_
 have g2:=f1.trans f2
 have B2:=f2.blk b1 fun h=>h
 refine⟨_,(Cs11.blk B2).free,?_⟩
 have efr:=x.free
 have hw1:IntKind.i64.wrap (v.free+bound)=C.free+bound:=by rw[efr,wrap64_id (by omega) (by omega)]
 dsimp only
 rw[hw1]
 refine cal_of (pairs_mod (ho.fr g2 fun _ _ h=>h) (most:=C.free+bound) (by omega) (by omega)) ?_
 rintro _ h3 ⟨f3,s18,rfl,o3⟩
 refine⟨s18,rfl,?_⟩
 have s3:=f3.size
 refine new9 (v:=zsc) fun h4 b4 f4 z4=>?_
 have g4:=g2.trans (f3.trans f4)
 refine sto9 (v:=⟨bound,s18,⟨none,0,0⟩,unitV⟩) b4 rfl fun h5 b5 f5=>?_
 have s5:=f5.size
 have g5:Grow h h5:=g4.trans' f5 fun i hi e=>by have:=g2.size;omega
 have o5:=((o3.frame f4 fun _ _ h=>h).frame f5 fun b hb e=>by have:=(o3.ge hb).2;omega)
 have B5:=f5.blk ((f3.trans f4).blk B2 fun h=>h) (by have:=B2.lt;omega)
 have b2_5:=f5.blk ((f3.trans f4).blk b2 fun h=>h) (by have:=b2.lt;omega)
 have s1:=g2.size
 obtain⟨n,hn⟩:∃n,n=C.shapes.length:=⟨_,rfl⟩
 have hxn:v.shapes.n=n:=by rw[hn];exact (tyAt_iff.1 x.shapes).2.2.2.2.2.1
 let ty:Nat→Ty:=tyOf C.shapes ls (C.free+bound)
 let Inv:Nat→Heap→Prop:=fun j h'=>∃(q:Sv) (us:List Tv) (r:Tv),Fr (fun b=>h5.size≤b∨b=h3.size) h5 h'∧blk h' h3.size (scv ⟨bound,s18,q,r⟩)∧GRow Q0 h' h5.size q ((List.range (min j (n - 1))).map ty) us ∧
  TyAt (fun b=>Q0 b∨(h5.size≤b∧b<h'.size∧¬q.own b)) h' (if j=n∧0<n then ty (n - 1) else unitT) r
 refine⟨fun i h'=>∃j:Nat,i=j∧j≤n∧Inv j h',fun i _=>n - i.toNat,⟨0,rfl,Nat.zero_le _,⟨none,0,0⟩,[],unitV,Fr.refl _ _,b5,?_,?_⟩,?_⟩
 ·rw[Nat.zero_min]
  exact GRow.nil _ _ _
 ·rw[if_neg (by omega)]
  exact bare_at _ _ _ _
 rintro _ h6 ⟨j,rfl,hj,q,us,r,F6,b6,G6,R6⟩
 have s6:=F6.size
 have x6:CsAt Q0 h6 C v:=(x.grow g5).fr F6 fun b hb e=>by have:=hQ b hb;omega
 have B6:=F6.blk B5 fun e=>by have:=B2.lt;omega
 refine⟨_,(Cs11.blk B6).shapes,?_⟩
 refine ifb_iff (q:=j<n) (by simp[hxn]) (fun hl'=>?_) (fun hl'=>?_)
 ·refine⟨Inv (j+1),?_,fun h29 hi=>?_⟩
  rotate_left
  ·rw[wrap_succ hl' (by omega)]
   exact⟨⟨j+1,rfl,hl',hi⟩,by simp;omega⟩
  have hjs:j<C.shapes.length:=by omega
  obtain⟨p,u,ea,hq,T6,hu⟩:=(tyAt_iff.1 x6.shapes).2.2.2.2.2.2 j hjs
  have hgd:C.shapes.getD j unitT=C.shapes[j]:=by simp[hjs]
  refine⟨fun a b=>Grow a b,Pre.grow,_,fun h' f=>(Cs11.blk (f.blk B6 fun h=>h)).shapes,_,fun h' f=>(Cs11.blk (f.blk B6 fun h=>h)).free,?_⟩
  refine⟨fun a _=>a=p,fun _ _ _ _ e=>e,fun k nm mu r rs az _=>(⟨k,nm,mu,r,rs,az⟩:Tv)=u,fun _ _ _ _ _ _ _ _ _ e=>e,fun k nm mu r rs az lo hi h'=>h6.size≤lo∧TyAt (fun b=>Q0 b∨(lo≤b∧b<hi)) h' (ty j) ⟨k,nm,mu,r,rs,az⟩,fun _ _ _ _ _ _ lo hi _ _ f e=>⟨e.1,e.2.grow f⟩,fun a lo hi h'=>a=⟨lo,0,none⟩∧hi=lo+1∧blk h' lo z6,fun a lo hi _ _ f e=>⟨e.1,e.2.1,f.blk e.2.2 fun h=>h⟩,?_,?_,?_,?_,?_⟩
  ·intro h7 f7
   exact⟨p,ea,by omega,by rw[hxn];omega,rfl⟩
  ·rintro _ h9 f9 rfl
   rw[Int.toNat_natCast]
   exact rd6 (T6.fr f9 fun h=>h) rfl
  ·intro q31 k nm mu rr rs az h13 f13 _ e
   have e1:k=u.k∧nm=u.nm∧mu=u.mu∧rr=u.r∧rs=u.rs∧az=u.az:=by rw[←e];exact⟨rfl,rfl,rfl,rfl,rfl,rfl⟩
   obtain⟨rfl,rfl,rfl,rfl,rfl,rfl⟩:=e1
   have hw3:IntKind.i64.wrap (3*(j:Int))=((3*j:Nat):Int):=by rw[wrap64_id (by omega) (by omega)];omega
   rw[hw3,hw1]
   have g13:Grow h6 h13:=f13
   have s13:=g13.size
   have gh:h.size≤h13.size:=by have:=g5.size;omega
   have hl13:IntsAt h13 l ls:=(((hl.fr g5 fun _ _ h=>h).fr F6 fun b hb e=>by have:=hQ b hb;omega).fr g13 fun _ _ h=>h).ints
   refine cal_of (regions_spec C.shapes[j] (hsm _ (List.getElem_mem hjs)) Q0 u h13 l ls (3*j) (C.free+bound) (fun b hb=>by have:=hQ b hb;omega) (hu.grow g13) hl13 (by omega) (by omega)) ?_
   rintro _ h14 ⟨f14,v',rfl,t14⟩
   refine⟨v'.k,v'.nm,v'.mu,v'.r,v'.rs,v'.az,rfl,f14,by omega,?_⟩
   have:ty j=withT C.shapes[j] (rgs ls (3*j) (C.free+bound) (allT C.shapes[j]).length):=by show tyOf _ _ _ _=_;unfold tyOf;rw[hgd]
   rw[this]
   exact t14.weak fun b hb hlt=>hb.imp id fun hb=>⟨hb,hlt⟩
  ·intro h17 f17
   exact newz fun h18 b18 f18 z18=>⟨f18,rfl,z18,b18⟩
  intro q31 _ _ _ _ _ _ k nm mu rr rs az lo12 hi12 p11 lo13 hi13 h21 f21 hD _ _ hT hP
  obtain⟨rfl,rfl,b21⟩:=hP
  obtain⟨⟨d1,d2,d3,d4,-⟩,⟨d5,d6,d7,-⟩,-⟩:=hD
  dsimp only at d1 d2 d3 d4 d5 d6 d7
  obtain⟨-,t21⟩:=hT
  refine sto6 (v:=⟨k,nm,mu,rr,rs,az⟩) b21 rfl fun h22 b22 f22=>?_
  have g22:Grow h6 h22:=f21.trans' f22 fun i hi e=>by omega
  have s22:=g22.size
  have t22:TyAt (fun b=>Q0 b∨(lo12≤b∧b<hi12)) h22 (ty j) ⟨k,nm,mu,rr,rs,az⟩:=t21.fr f22 fun b hb e=>by have hb:=hQ2 hb;have:=g5.size;omega
  have c22:=g22.blk b6 fun h=>h
  refine⟨_,(Cs11.blk (g22.blk B6 fun h=>h)).shapes,?_⟩
  rw[wrap_succ hl' (by omega)]
  have hh3:h3.size<h5.size:=by omega
  refine ifb_iff (q:=j+1=n) (by rw[hxn];simp;omega) (fun hlast=>?_) (fun hnl=>?_)
  ·refine rd6 (Tv6.blk b22) ?_
   rw[add_plain]
   refine stoA_off (vs:=(tvs ⟨k,nm,mu,rr,rs,az⟩).toList) c22 (by show 0+3+6≤9;omega) (one_c6 _) fun h23 b23 f23=>?_
   have b23':blk h23 h3.size (scv ⟨bound,s18,q,⟨k,nm,mu,rr,rs,az⟩⟩):=b23
   refine⟨q,us,⟨k,nm,mu,rr,rs,az⟩,(F6.trans (g22.mono fun _ _ e=>e.elim)).trans (f23.mono fun _ _ e=>.inr e),b23',?_,?_⟩
   ·have e1:min (j+1) (n - 1)=min j (n - 1):=by omega
    rw[e1]
    exact (G6.fr g22 fun b e=>e.elim).fr f23 fun b e=>⟨fun hb=>by have:=hQ b hb;omega,by omega⟩
   ·rw[if_pos ⟨hlast,by omega⟩]
    have e2:n - 1=j:=by omega
    rw[e2]
    refine (t22.fr f23 fun b hb e=>by have hb:=hQ2 hb;have:=g5.size;omega).weak fun b hb hlt=>hb.imp id fun hb=>⟨by omega,hlt,fun e=>?_⟩
    have:=(G6.own.ge e).2
    omega
  ·refine⟨_,(Sc9.blk c22).pp,rd6 (Tv6.blk b22) ?_⟩
   rintro s52 h24 rfl rfl
   have f24:Grow h22 (h22.push (.cells (tvs ⟨k,nm,mu,rr,rs,az⟩) 35)):=Fr.push _ _ _
   have r24:=row_new h22 (tvs ⟨k,nm,mu,rr,rs,az⟩) 35
   generalize h22.push (.cells (tvs ⟨k,nm,mu,rr,rs,az⟩) 35)=h24 at f24 r24 ⊢
   have g24:=g22.trans f24
   have s24:=f24.size
   refine G6.app (u:=⟨k,nm,mu,rr,rs,az⟩) (t:=ty j) g24 (fun b e=>e.elim) ((t22.grow f24).weak fun b hb hlt=>hb.imp id fun hb=>⟨by omega,hlt⟩) rfl r24 (fun b hb=>by have:=hQ b hb;have:=g5.size;omega) s6 (by simp;omega) ?_
   intro s53 h25 G25 f25 own25
   have s25:=f25.size
   have hq3:¬q.own h3.size:=fun e=>by have:=(G6.own.ge e).1;omega
   have b25:=f25.blk (g24.blk b6 fun h=>h) hq3
   refine sto_i b25 (by simp) ?_
   have b26:=b25.sc 2 (Value.slice s53.a s53.n s53.c)
   have f26:=Fr.scb h25 h3.size 2 (Value.slice s53.a s53.n s53.c)
   have G26:=G25.fr f26 fun b e=>⟨fun hb=>by have:=hQ b hb;omega,by omega⟩
   have R25:=((R6.grow g24).fr f25 fun b hb e=>?_)
   rotate_left
   ·have:=(G6.own.ge e).1
    rcases hb with hb|hb
    ·have:=hQ b hb;have:=g5.size;omega
    ·exact hb.2.2 e
   have R26:=R25.fr f26 fun b hb e=>by have hb:=hQ2 hb;have:=g5.size;omega
   generalize sc h25 ⟨h3.size,2,none⟩ (Value.slice s53.a s53.n s53.c)=h26 at b26 f26 G26 R26 ⊢
   refine⟨s53,us++[⟨k,nm,mu,rr,rs,az⟩],r,?_,b26,?_,?_⟩
   ·have a1:Fr (fun b=>h5.size≤b∨b=h3.size) h5 h24:=F6.trans (g24.mono fun _ _ e=>e.elim)
    have a2:Fr (fun b=>h5.size≤b∨b=h3.size) h5 h25:=a1.trans' f25 fun i hi e=>by have:=(G6.own.ge e).1;omega
    exact a2.trans (f26.mono fun _ _ e=>.inr e)
   ·have e1:min (j+1) (n - 1)=j+1:=by omega
    have e2:min j (n - 1)=j:=by omega
    rw[e2] at G26
    rw[e1,List.range_succ,List.map_append]
    exact G26
   ·rw[if_neg (by omega)] at R26 ⊢
    refine R26.weak fun b hb hlt=>hb.imp id fun hb=>⟨hb.1,hlt,fun e=>?_⟩
    rcases own25 b e with e|e
    ·exact hb.2.2 e
    ·omega
 have hje:j=n:=by omega
 have N6:=Sc9.blk b6
 refine⟨_,_,_,_,_,_,_,_,_,N6.b,N6.o,N6.pp,N6.k,N6.nm,N6.mu,N6.r,N6.rs,N6.az,?_⟩
 have b2_6:=F6.blk b2_5 fun e=>by have:=b2.lt;omega
 refine sto9 (v:=⟨bound,s18,q,r⟩) b2_6 rfl fun h30 b30 f30=>?_
 have N30:=Sc9.blk b30
 refine⟨_,_,_,_,_,_,_,_,_,N30.b,N30.o,N30.pp,N30.k,N30.nm,N30.mu,N30.r,N30.rs,N30.az,?_⟩
 have s30:=f30.size
 have hh1:h.size<h1.size:=by omega
 have hG:Grow h h30:=by
  have a0:Fr (fun b=>h.size<b) h h5:=g5.mono fun _ _ e=>e.elim
  have a1:Fr (fun b=>h.size<b) h h6:=a0.trans' F6 fun i hi e=>by omega
  refine⟨by have:=a1.size;omega,fun b hb _=>?_⟩
  rw[f30.same b (by have:=a1.size;omega) (by omega)]
  exact a1.same b hb (by omega)
 refine⟨hG,⟨bound,s18,q,r⟩,rfl,rfl,?_,?_,?_⟩
 ·have ho6:=o5.frame F6 fun b hb e=>by have:=o3.ge hb;omega
  have ho30:=ho6.frame f30 fun b hb e=>by have:=(o3.ge hb).1;omega
  exact (own_prs ho30).weak fun b hb hlt=>.inr ⟨by have:=(ho30.ge hb).1;have:=g2.size;omega,hlt⟩
 ·have e1:min j (n - 1)=C.shapes.length - 1:=by omega
  rw[e1] at G6
  rw[raw_ps]
  exact (G6.fr f30 fun b e=>⟨fun hb=>by have:=hQ b hb;omega,by omega⟩).ty2 (by have:=g5.size;omega)
 ·have:(if j=n∧0<n then ty (n - 1) else unitT)=(schOf C.shapes ls bound (C.free+bound) L).ret:=by
   by_cases h0:0<n
   ·rw[if_pos ⟨hje,h0⟩,hn]
    rfl
   ·rw[if_neg (by omega)]
    have hnil:C.shapes=[]:=List.eq_nil_of_length_eq_zero (by omega)
    show unitT=withT (C.shapes.getD (C.shapes.length - 1) unitT) (rgs ls (3*(C.shapes.length - 1)) (C.free+bound) (allT (C.shapes.getD (C.shapes.length - 1) unitT)).length)
    rw[hnil]
    show unitT=withT unitT (rgs ls (3*(0 - 1)) (C.free+bound) (allT unitT).length)
    rw[allT_unit]
    have:=withT_all unitT
    rw[allT_unit] at this
    exact this.symm
  rw[this] at R6
  refine (R6.fr f30 fun b hb e=>by have hb:=hQ2 hb;omega).weak fun b hb hlt=>hb.imp id fun hb=>⟨by have:=g5.size;omega,hlt⟩
end
end Go.Proofs.Yteofligmdngdgaa
namespace Go.Proofs.Yteofligmdngdgaa
open Go Go.Lf
set_option linter.unusedVariables false
def W0:Wd:=⟨0,[],[],[]⟩
def SA:Sch:=⟨1,[],[refT 1],refT 1⟩
def SB:Sch:=⟨1,[],[refT 0],refT 1⟩
theorem asked_AB:askedL W0 SA SB 0 1=[(0,2),(2,1)]:=by kernel_rfl
theorem asked_BA:askedL W0 SB SA 0 1=[(1,0),(2,1)]:=by kernel_rfl
theorem known_A:knownL W0 SA=[]:=by kernel_rfl
theorem known_B:knownL W0 SB=[]:=by kernel_rfl
theorem allT_ref (r:Int):allT (refT r)=[r]:=by unfold refT;rw[allT_mk,ownL_mk];simp[allT_mk,ownL_mk]
theorem same_ref (r s:Int):same (refT r) (refT s)=true:=by kernel_rfl
theorem mvT_ref (free by_ r:Int):mvT free by_ (refT r)=refT (mvF free by_ r):=by unfold mvT;rw[allT_ref];kernel_rfl
theorem sm_SA:SchSm SA:=⟨by decide,fun t ht=>by simp[SA] at ht;subst ht;rfl,rfl,by decide⟩
theorem sm_SB:SchSm SB:=⟨by decide,fun t ht=>by simp[SB] at ht;subst ht;rfl,rfl,by decide⟩
theorem in_SA:SchIn SA ((0+1:Nat):Int):=⟨fun p hp=>by simp[SA] at hp,fun t ht r hr=>by simp[SA] at ht;subst ht;rw[allT_ref] at hr;simp at hr;omega⟩
theorem in_SB:SchIn SB ((0+1:Nat):Int):=⟨fun p hp=>by simp[SB] at hp,fun t ht r hr=>by simp[SB] at ht;rcases ht with rfl|rfl<;>(rw[allT_ref] at hr;simp at hr;omega)⟩
theorem good_AB:Good W0 SA SB 0 1 1:=by
 refine⟨rfl,by omega,rfl,rfl,by omega,by omega,sm_SA,sm_SB,in_SA,in_SB,fun p hp=>by simp[W0] at hp,by simp[W0],fun nm=>by simp[W0,lkN],fun nm i=>by simp[W0,ofW,lkL,W4],⟨rfl,fun i h1 h2=>?_,?_⟩,?_⟩
 ·obtain rfl:i=0:=by simp[SB] at h2;omega
  show same (refT 0) (mvT 0 1 (refT 1))=true∧same (mvT 0 1 (refT 1)) (refT 0)=true
  rw[mvT_ref]
  exact⟨same_ref _ _,same_ref _ _⟩
 ·show same (mvT 0 1 (refT 1)) (refT 1)=true
  rw[mvT_ref]
  exact same_ref _ _
 ·show InR (askedL W0 SA SB 0 1) _
  rw[asked_AB]
  intro p hp
  simp at hp
  rcases hp with rfl|rfl<;>simp
theorem good_BA:Good W0 SB SA 0 1 1:=by
 refine⟨rfl,by omega,rfl,rfl,by omega,by omega,sm_SB,sm_SA,in_SB,in_SA,fun p hp=>by simp[W0] at hp,by simp[W0],fun nm=>by simp[W0,lkN],fun nm i=>by simp[W0,ofW,lkL,W4],⟨rfl,fun i h1 h2=>?_,?_⟩,?_⟩
 ·obtain rfl:i=0:=by simp[SA] at h2;omega
  show same (refT 1) (mvT 0 1 (refT 0))=true∧same (mvT 0 1 (refT 0)) (refT 1)=true
  rw[mvT_ref]
  exact⟨same_ref _ _,same_ref _ _⟩
 ·show same (mvT 0 1 (refT 1)) (refT 1)=true
  rw[mvT_ref]
  exact same_ref _ _
 ·show InR (askedL W0 SB SA 0 1) _
  rw[asked_BA]
  intro p hp
  simp at hp
  rcases hp with rfl|rfl<;>simp
theorem yes_AB:TestP W0 SA SB 0 1:=by
 show TestG (0+1) (mOf (0+1) (knownL W0 SB)) (askedL W0 SA SB 0 1)
 rw[known_B,asked_AB]
 intro x y hx hy hr
 have hxy:(x=0∨x=1)∧(y=0∨y=1):=by omega
 rcases hxy with⟨rfl|rfl,rfl|rfl⟩
 ·rfl
 ·rfl
 ·have:=hr.least (D:=fun z:Int=>z=1) rfl (fun p hp hd=>by
   simp at hp
   rcases hp with rfl|rfl<;>simp at hd ⊢)
  simp at this
 ·rfl
theorem no_BA:¬TestP W0 SB SA 0 1:=by
 intro h
 have h:TestG (0+1) (mOf (0+1) (knownL W0 SA)) (askedL W0 SB SA 0 1):=h
 rw[known_A,asked_BA] at h
 have:=h 1 0 (by omega) (by omega) (.step .refl (by simp))
 cases this
section
variable {Q:Nat→Prop} {h:Heap}
theorem nil_ways:WaysAt Q h none []:=⟨[],rfl,.inl ⟨rfl,rfl⟩,fun r hr=>(by cases hr),fun e he=>(by cases he)⟩
theorem W0_at:WdAt Q h W0 ⟨0,⟨none,0,0⟩,none,none⟩:=⟨rfl,PrQ.nil _ _ _ _,nil_ways,needs_nil _ _⟩
theorem one_at {g:Nat} {t:Ty} {u:Tv} (k:blk h g (tvs u)) (hu:TyAt (fun b=>b<h.size) h t u):TyAt (fun b=>b<h.size) h (tN [t]) (tNv ⟨some ⟨g,0,none⟩,1,1⟩):=by
 refine tyAt_iff.2 ⟨rfl,rfl,rfl,rfl,IntsC.nil _ _,rfl,fun j hj=>?_⟩
 obtain rfl:j=0:=by simp at hj;omega
 exact⟨_,u,rfl,k.lt,by rw[Nat.zero_mul,add_plain];exact Tv6.blk k,hu⟩
theorem tested_spec (h:Heap):CallsH Try.prog 9 #[] h (fun x h'=>Grow h h'∧x=.bool true):=by
 apply F9
 unfold L9
 refine cal_of (ref_spec 1 h) ?_
 rintro _ h1 ⟨f1,u1,rfl,t1⟩
 refine⟨_,_,_,_,_,_,rfl,?_⟩
 rintro s4 h2 rfl rfl
 have k2:=blk.new h1 (tvs u1) 35
 have f2:Grow h1 (h1.push (.cells (tvs u1) 35)):=Fr.push _ _ _
 generalize h1.push (.cells (tvs u1) 35)=h2 at k2 f2 ⊢
 refine cal_of (ref_spec 1 h2) ?_
 rintro _ h3 ⟨f3,u3,rfl,t3⟩
 refine⟨_,_,_,_,_,_,rfl,?_⟩
 refine new9 (v:=zsc) fun h4 b4 f4 z4=>?_
 refine sto9 (v:=⟨1,⟨none,0,0⟩,⟨some ⟨h1.size,0,none⟩,1,1⟩,u3⟩) b4 rfl fun h5 b5 f5=>?_
 have g35:Grow h3 h5:=f4.trans' f5 fun i hi e=>by omega
 refine cal_of (ref_spec 0 h5) ?_
 rintro _ h6 ⟨f6,u6,rfl,t6⟩
 refine⟨_,_,_,_,_,_,rfl,?_⟩
 rintro s8 h7 rfl rfl
 have k7:=blk.new h6 (tvs u6) 35
 have f7:Grow h6 (h6.push (.cells (tvs u6) 35)):=Fr.push _ _ _
 generalize h6.push (.cells (tvs u6) 35)=h7 at k7 f7 ⊢
 refine cal_of (ref_spec 1 h7) ?_
 rintro _ h8 ⟨f8,u8,rfl,t8⟩
 refine⟨_,_,_,_,_,_,rfl,?_⟩
 refine new9 (v:=zsc) fun h9 b9 f9 z9=>?_
 refine sto9 (v:=⟨1,⟨none,0,0⟩,⟨some ⟨h6.size,0,none⟩,1,1⟩,u8⟩) b9 rfl fun h10 b10 f10=>?_
 have g810:Grow h8 h10:=f9.trans' f10 fun i hi e=>by omega
 have g510:Grow h5 h10:=f6.trans (f7.trans (f8.trans g810))
 have B5:=g510.blk b5 fun h=>h
 have g310:=g35.trans g510
 have g210:=f3.trans g310
 have g110:=f2.trans g210
 have xA:SchAt (fun b=>b<h10.size) h10 SA ⟨1,⟨none,0,0⟩,⟨some ⟨h1.size,0,none⟩,1,1⟩,u3⟩:=⟨rfl,PrQ.nil _ _ _ _,one_at (g210.blk k2 fun h=>h) (ty_up t1 g110),ty_up t3 g310⟩
 have xB:SchAt (fun b=>b<h10.size) h10 SB ⟨1,⟨none,0,0⟩,⟨some ⟨h6.size,0,none⟩,1,1⟩,u8⟩:=⟨rfl,PrQ.nil _ _ _ _,one_at ((f8.trans g810).blk k7 fun h=>h) (ty_up t6 (f7.trans (f8.trans g810))),ty_up t8 g810⟩
 have NA:=Sc9.blk B5
 have NB:=Sc9.blk b10
 have G:Grow h h10:=f1.trans g110
 refine⟨_,_,_,_,_,_,_,_,_,NA.b,NA.o,NA.pp,NA.k,NA.nm,NA.mu,NA.r,NA.rs,NA.az,_,_,_,_,_,_,_,_,_,NB.b,NB.o,NB.pp,NB.k,NB.nm,NB.mu,NB.r,NB.rs,NB.az,?_⟩
 refine cal_of (test_spec (wv:=⟨0,⟨none,0,0⟩,none,none⟩) good_AB W0_at xA xB) ?_
 rintro _ h11 ⟨f11,r,rfl,hr⟩
 obtain rfl:r=true:=hr.2 yes_AB
 refine⟨_,rfl,fun x h'=>x=true∧Grow h11 h',⟨fun _=>?_,fun e=>(by cases e)⟩,?_⟩
 ·have NA:=Sc9.blk (f11.blk B5 fun h=>h)
  have NB:=Sc9.blk (f11.blk b10 fun h=>h)
  refine⟨_,_,_,_,_,_,_,_,_,NB.b,NB.o,NB.pp,NB.k,NB.nm,NB.mu,NB.r,NB.rs,NB.az,_,_,_,_,_,_,_,_,_,NA.b,NA.o,NA.pp,NA.k,NA.nm,NA.mu,NA.r,NA.rs,NA.az,?_⟩
  refine cal_of (test_spec (wv:=⟨0,⟨none,0,0⟩,none,none⟩) good_BA W0_at (sch_up xB f11) (sch_up xA f11)) ?_
  rintro _ h12 ⟨f12,r,rfl,hr⟩
  refine⟨_,rfl,?_,f12⟩
  cases r with
  | false=>rfl
  | true=>exact absurd (hr.1 rfl) no_BA
 ·rintro _ h12 ⟨rfl,f12⟩
  exact⟨G.trans (f11.trans f12),rfl⟩
end
end Go.Proofs.Yteofligmdngdgaa
namespace Go.Proofs.Yteofligmdngdgaa
open Go Go.Lf
set_option linter.unusedVariables false
def frOf (C:Cs):Int:=um C.free 2
def aOf (C:Cs):Int:=um C.ab 3
def bOf (C:Cs):Int:=um C.bb 3
def dg (f:Int) (i:Nat):Int:=IntKind.i64.wrap ((f.fdiv (2 ^ (min (IntKind.i64.wrap (2*(i:Int)):Int).toNat IntKind.u64.bits))).tmod 4)
def dgs (f:Int) (n:Nat):List Int:=(List.range n).map (dg f)
theorem dgs_succ (f:Int) (n:Nat):dgs f (n+1)=dgs f n++[dg f n]:=by unfold dgs;rw[List.range_succ];simp
theorem dg_in {f:Int} (hf:0≤f) (i:Nat):W4 (dg f i):=by
 unfold dg
 have h0:0≤f.fdiv (2 ^ (min (IntKind.i64.wrap (2*(i:Int)):Int).toNat IntKind.u64.bits)):=by
  rw[Int.fdiv_eq_ediv_of_nonneg _ (Int.le_of_lt (Int.pow_pos (by omega)))]
  exact Int.ediv_nonneg hf (Int.le_of_lt (Int.pow_pos (by omega)))
 generalize f.fdiv (2 ^ (min (IntKind.i64.wrap (2*(i:Int)):Int).toNat IntKind.u64.bits))=z at h0
 rw[Int.tmod_eq_emod_of_nonneg h0,wrap64_id (by omega) (by omega)]
 unfold W4
 omega
noncomputable def wOf (C:Cs):Wd:=⟨frOf C,C.known.map (pm fun x=>um x (frOf C)),[(⟨#[83]⟩,dgs C.src 8)],[(⟨#[83]⟩,C.needs)]⟩
noncomputable def saOf (C:Cs):Sch:=schOf C.shapes C.a (aOf C) (frOf C+aOf C) C.ao
noncomputable def sbOf (C:Cs):Sch:=schOf C.shapes C.b (bOf C) (frOf C+bOf C) C.bo
structure CsOk (C:Cs):Prop where
 sum:C.known.length+C.ao.length+C.bo.length≤20
 needs:C.needs.length≤5
 shapes:C.shapes.length≤4
 ab:C.a.length+C.b.length≤60
 small:∀t∈C.shapes,small 5 t=true
structure CsSz (C:Cs):Prop where
 known:C.known.length≤1000000000000000
 ao:C.ao.length≤1000000000000000
 bo:C.bo.length≤1000000000000000
 a:C.a.length≤1000000000000000
 b:C.b.length≤1000000000000000
 inN:∀p∈C.needs,inI p.1∧inI p.2
 src:0≤C.src
abbrev zwd:Wdv:=⟨0,⟨none,0,0⟩,none,none⟩
theorem fr_in (C:Cs):0≤frOf C∧frOf C≤2:=um_in _ (by omega)
theorem a_in (C:Cs):0≤aOf C∧aOf C≤3:=um_in _ (by omega)
theorem b_in (C:Cs):0≤bOf C∧bOf C≤3:=um_in _ (by omega)
theorem one_wd (v:Wdv):∀u∈(wdv v).toList,u.oneCell'=true:=by
 intro u hu
 simp at hu
 rcases hu with rfl|rfl|rfl|rfl<;>rfl
theorem sto4 {h:Heap} {b:Nat} {cs:Array Value} {v:Wdv} {K:Heap→Prop} (kk:blk h b cs) (hs:cs.size=4) (k:∀h',blk h' b (wdv v)→Fr (fun q=>q=b) h h'→K h'):stoA h ⟨b,0,none⟩ (wdv v).toList K:=
 stoA_i kk (by rw[hs];rfl) (one_wd v) k
theorem set_fr (h:Heap) (r:Nat) (o:Obj):Fr (fun b=>b=r) h (h.setIfInBounds r o):=
 ⟨by simp,fun b hb hne=>by rw[Array.getElem?_setIfInBounds,if_neg (fun e=>hne e.symm)]⟩
theorem own_nomap {h:Heap} {B sz:Nat} {s:Sv} {xs:List Value} (o:Own h B sz s xs) {r:Nat} {L:Array MapEntry} {c:Nat} (hr:h[r]?=some (.map L c)):¬s.own r:=by
 rintro ⟨a,e1,e2⟩
 rcases o.mem with⟨e,_⟩|⟨g,cur,e,_,⟨E,k⟩,_⟩
 ·rw[e] at e1;cases e1
 ·rw[e] at e1
  simp only[Option.some.injEq] at e1
  subst e1
  simp only at e2
  subst e2
  rw[hr] at k
  cases k
theorem blk_nomap {h:Heap} {b:Nat} {cs:Array Value} (k:blk h b cs) {r:Nat} {L:Array MapEntry} {c:Nat} (hr:h[r]?=some (.map L c)):b≠r:=by
 rintro rfl
 obtain⟨E,k⟩:=k
 rw[hr] at k
 cases k
def MpAt (B:Nat) (h:Heap) (m:Nat) (full:Bool) (v:Value):Prop:=B≤m∧∃L c,h[m]?=some (.map L c)∧mapEs L.toList=if full then [(.string ⟨#[83]⟩,v)] else []
theorem MpAt.fr {B:Nat} {h h':Heap} {m:Nat} {full:Bool} {v:Value} {T:Nat→Prop} (x:MpAt B h m full v) (f:Fr T h h') (hT:¬T m):MpAt B h' m full v:=by
 obtain⟨hB,L,c,e,k⟩:=x
 have hlt:m<h.size:=by
  rcases Nat.lt_or_ge m h.size with e'|e'
  ·exact e'
  ·simp[Array.getElem?_eq_none e'] at e
 exact⟨hB,L,c,by rw[f.same m hlt hT];exact e,k⟩
theorem MpAt.lt {B:Nat} {h:Heap} {m:Nat} {full:Bool} {v:Value} (x:MpAt B h m full v):m<h.size:=by
 obtain⟨_,L,c,e,_⟩:=x
 rcases Nat.lt_or_ge m h.size with e'|e'
 ·exact e'
 ·simp[Array.getElem?_eq_none e'] at e
theorem newM_at {B:Nat} {h:Heap} (hB:B≤h.size) (v:Value):MpAt B (h.push (.map #[] 0)) h.size false v:=⟨hB,#[],0,by simp,rfl⟩
theorem ins_at {B:Nat} {h:Heap} {m:Nat} {v:Value} (x:MpAt B h m false v) {K:Heap→Prop} (k:∀h',MpAt B h' m true v→Fr (fun b=>b=m) h h'→K h'):insS h (.map (some m)) (⟨#[83]⟩:ByteArray) v K:=by
 obtain⟨hB,L,c,e,k1⟩:=x
 have hlt:=MpAt.lt (v:=v) (full:=false) ⟨hB,L,c,e,k1⟩
 refine⟨m,L,c,[],rfl,e,k1,rfl,?_⟩
 rintro h' L' c' rfl hL
 refine k _ ⟨hB,L',c',?_,hL⟩ (set_fr _ _ _)
 rw[Array.getElem?_setIfInBounds,if_pos rfl,if_pos hlt]
section
variable {Q:Nat→Prop} {h:Heap}
def MadeQ (C:Cs) (Q0:Nat→Prop) (h:Heap) (y:Value) (h':Heap):Prop:=
 Grow h h'∧∃wv va vb,∃ok:Bool,y=.tuple #[.agg (wdv wv),.agg (scv va),.agg (scv vb),.bool ok] ∧
  (ok=true→CsOk C∧WdAt (fun b=>Q0 b∨(h.size≤b∧b<h'.size)) h' (wOf C) wv∧SchAt (fun b=>Q0 b∨(h.size≤b∧b<h'.size)) h' (saOf C) va∧SchAt (fun b=>Q0 b∨(h.size≤b∧b<h'.size)) h' (sbOf C) vb)
def MadeR (C:Cs) (h:Heap) (y:Value) (h':Heap):Prop:=
 Grow h h'∧∃wv va vb,∃ok:Bool,y=.tuple #[.agg (wdv wv),.agg (scv va),.agg (scv vb),.bool ok] ∧
  (ok=true→CsOk C∧WdAt (fun b=>b<h'.size) h' (wOf C) wv∧SchAt (fun b=>b<h'.size) h' (saOf C) va∧SchAt (fun b=>b<h'.size) h' (sbOf C) vb)
theorem three {hh:Heap} {p2 p3 p4:Nat} {c2 c3 c4:Array Value} {w:Wdv} {a b:Scv} {K:Heap→Prop} (hp:p2<p3∧p3<p4) (k2:blk hh p2 c2) (k3:blk hh p3 c3) (k4:blk hh p4 c4) (z2:c2.size=4) (z3:c3.size=9) (z4:c4.size=9)
  (k:∀h7,Fr (fun q=>q=p2∨q=p3∨q=p4) hh h7→blk h7 p2 (wdv w)→blk h7 p3 (scv a)→blk h7 p4 (scv b)→K h7) :
  stoA hh ⟨p2,0,none⟩ (wdv w).toList fun h5=>stoA h5 ⟨p3,0,none⟩ (scv a).toList fun h6=>stoA h6 ⟨p4,0,none⟩ (scv b).toList fun h7=>K h7:=by
 refine sto4 (v:=w) k2 z2 fun h5 b5 f5=>?_
 refine sto9 (v:=a) (f5.blk k3 (by omega)) z3 fun h6 b6 f6=>?_
 refine sto9 (v:=b) (f6.blk (f5.blk k4 (by omega)) (by omega)) z4 fun h7 b7 f7=>?_
 exact k h7 (((f5.mono fun _ _ e=>.inl e).trans (f6.mono fun _ _ e=>.inr (.inl e))).trans (f7.mono fun _ _ e=>.inr (.inr e))) (f7.blk (f6.blk b5 (by omega)) (by omega)) (f7.blk b6 (by omega)) b7
structure Wd4 (h:Heap) (p:Addr) (v:Wdv):Prop where
 free:cl h p=some (.int .i64 v.free)
 k:cl h (p.add 1)=some (.slice v.k.a v.k.n v.k.c)
 w:cl h (p.add 2)=some (.map v.w)
 n:cl h (p.add 3)=some (.map v.n)
theorem Wd4.blk {h:Heap} {b:Nat} {v:Wdv} (k:blk h b (wdv v)):Wd4 h ⟨b,0,none⟩ v:=by
 refine⟨by rw[k.cl];rfl,?_,?_,?_⟩<;>(rw[add_plain,k.cl];rfl)
theorem made_specQ {Q0:Nat→Prop} (hQ:∀b,Q0 b→b<h.size) {C:Cs} {v:Cv} (x:CsAt Q0 h C v) (sz:CsSz C):CallsH Try.prog 8 #[.agg (csv v)] h (MadeQ C Q0 h):=by
 apply F8
 unfold L8
 refine new11 (v:=v) fun h1 b1 f1 z1=>?_
 rintro p2 h2 rfl rfl
 have b2:=blk.new h1 (wdv zwd) 33
 have f2:Grow h1 (h1.push (.cells (wdv zwd) 33)):=Fr.push _ _ _
 have z2:(h1.push (.cells (wdv zwd) 33)).size=h1.size+1:=by simp
 change new 37 (scv zsc) (h1.push (.cells (wdv zwd) 33)) _
 generalize h1.push (.cells (wdv zwd) 33)=h2 at b2 f2 z2 ⊢
 refine new9 (v:=zsc) fun h3 b3 f3 z3=>new9 (v:=zsc) fun h4 b4 f4 z4=>?_
 have B1:=(f2.trans (f3.trans f4)).blk b1 fun h=>h
 have B2:=(f3.trans f4).blk b2 fun h=>h
 have B3:=f4.blk b3 fun h=>h
 have g4:Grow h h4:=f1.trans (f2.trans (f3.trans f4))
 have N1:=Cs11.blk B1
 have ek:=x.known.len
 have ea:=x.a.len
 have eb:=x.b.len
 have eo:=x.ao.len
 have ep:=x.bo.len
 have en:=x.needs.len
 have es:v.shapes.n=C.shapes.length:=(tyAt_iff.1 x.shapes).2.2.2.2.2.1
 have hk:=sz.known
 have hao:=sz.ao
 have hbo:=sz.bo
 have hza:=sz.a
 have hzb:=sz.b
 have hw1:IntKind.i64.wrap (IntKind.i64.wrap ((v.known.n:Int)+(v.ao.n:Int))+(v.bo.n:Int))=((C.known.length+C.ao.length+C.bo.length:Nat):Int):=by
  rw[ek,eo,ep,wrap64_id (x:=(C.known.length:Int)+C.ao.length) (by omega) (by omega),wrap64_id (by omega) (by omega)];omega
 have hw2:IntKind.i64.wrap ((v.a.n:Int)+(v.b.n:Int))=((C.a.length+C.b.length:Nat):Int):=by
  rw[ea,eb,wrap64_id (by omega) (by omega)];omega
 have fin:∀(hh:Heap),Grow h hh→blk hh h1.size (wdv zwd)→blk hh h2.size (scv zsc)→blk hh h3.size (scv zsc)→∀y h',h'=hh→y=.tuple #[.agg (wdv zwd),.agg (scv zsc),.agg (scv zsc),.bool false]→MadeQ C Q0 h y h':=by
  rintro hh g _ _ _ _ _ rfl rfl
  exact⟨g,zwd,zsc,zsc,false,rfl,fun e=>(by cases e)⟩
 refine⟨_,N1.known,_,N1.ao,_,N1.bo,?_⟩
 refine⟨fun q=>q=(decide (20<C.known.length+C.ao.length+C.bo.length) || decide (5<C.needs.length)),⟨fun e=>?_,fun e=>⟨_,N1.needs,?_⟩⟩,?_⟩
 ·rw[hw1] at e
  have:20<C.known.length+C.ao.length+C.bo.length:=by have:=of_decide_eq_true e;omega
  rw[decide_eq_true this];rfl
 ·rw[hw1] at e
  dsimp only
  have:¬20<C.known.length+C.ao.length+C.bo.length:=by have:=of_decide_eq_false e;omega
  rw[decide_eq_false this,en,Bool.false_or,Bool.eq_iff_iff]
  simp
  omega
 rintro _ rfl
 refine⟨fun q=>q=((decide (20<C.known.length+C.ao.length+C.bo.length) || decide (5<C.needs.length)) || decide (4<C.shapes.length)),⟨fun e=>by rw[e];rfl,fun e=>⟨_,N1.shapes,?_⟩⟩,?_⟩
 ·dsimp only
  rw[e,Bool.false_or,es,Bool.eq_iff_iff]
  simp
  omega
 rintro _ rfl
 refine⟨fun q=>q=(((decide (20<C.known.length+C.ao.length+C.bo.length) || decide (5<C.needs.length)) || decide (4<C.shapes.length)) || decide (60<C.a.length+C.b.length)),⟨fun e=>by rw[e];rfl,fun e=>⟨_,N1.a,_,N1.b,?_⟩⟩,?_⟩
 ·dsimp only
  rw[e,Bool.false_or,hw2,Bool.eq_iff_iff]
  simp
  omega
 rintro _ rfl
 refine⟨fun hbad=>?_,fun hgood=>?_⟩
 ·refine three (w:=zwd) (a:=zsc) (b:=zsc) (by omega) B2 B3 b4 rfl rfl rfl fun h7 f7 q2 q3 q4=>?_
  have M2:=Wd4.blk q2
  have M3:=Sc9.blk q3
  have M4:=Sc9.blk q4
  refine⟨_,_,_,_,M2.free,M2.k,M2.w,M2.n,_,_,_,_,_,_,_,_,_,M3.b,M3.o,M3.pp,M3.k,M3.nm,M3.mu,M3.r,M3.rs,M3.az,_,_,_,_,_,_,_,_,_,M4.b,M4.o,M4.pp,M4.k,M4.nm,M4.mu,M4.r,M4.rs,M4.az,?_⟩
  exact⟨g4.trans' f7 fun i hi e=>by have:=f1.size;omega,zwd,zsc,zsc,false,rfl,fun e=>(by cases e)⟩
 simp only[Bool.or_eq_false_iff,decide_eq_false_iff_not] at hgood
 obtain⟨⟨⟨q1,q2⟩,q3⟩,q4⟩:=hgood
 have s1:=f1.size
 refine⟨fun i h'=>∃j:Nat,i=j∧j≤C.shapes.length∧Grow h4 h'∧∀t∈C.shapes.take j,small 5 t=true,fun i _=>C.shapes.length - i.toNat,⟨0,rfl,Nat.zero_le _,Fr.refl _ _,fun t ht=>by simp at ht⟩,?_⟩
 rintro _ h8 ⟨j,rfl,hj,f8,hsm⟩
 have g8:=g4.trans f8
 have N8:=Cs11.blk (f8.blk B1 fun h=>h)
 refine⟨_,N8.shapes,?_⟩
 refine ifb_iff (q:=j<C.shapes.length) (by simp[es]) (fun hl=>?_) (fun hl=>?_)
 ·refine⟨_,N8.shapes,args_get (v:=tNv v.shapes) (x.shapes.grow g8) hl fun u hu=>?_⟩
  refine cal_of (small_spec 5 (by omega) _ u h8 hu) ?_
  rintro _ h9 ⟨f9,rfl⟩
  have g9:=f8.trans f9
  refine⟨_,rfl,fun e=>?_,fun e=>?_⟩
  ·refine three (w:=zwd) (a:=zsc) (b:=zsc) (by omega) (g9.blk B2 fun h=>h) (g9.blk B3 fun h=>h) (g9.blk b4 fun h=>h) rfl rfl rfl fun h7 f7 q2 q3 q4=>?_
   have M2:=Wd4.blk q2
   have M3:=Sc9.blk q3
   have M4:=Sc9.blk q4
   refine⟨_,_,_,_,M2.free,M2.k,M2.w,M2.n,_,_,_,_,_,_,_,_,_,M3.b,M3.o,M3.pp,M3.k,M3.nm,M3.mu,M3.r,M3.rs,M3.az,_,_,_,_,_,_,_,_,_,M4.b,M4.o,M4.pp,M4.k,M4.nm,M4.mu,M4.r,M4.rs,M4.az,?_⟩
   exact⟨(g4.trans g9).trans' f7 fun i hi e=>by omega,zwd,zsc,zsc,false,rfl,fun e=>(by cases e)⟩
  ·rw[wrap_succ hl (by omega)]
   refine⟨⟨j+1,rfl,hl,g9,fun t ht=>?_⟩,by simp;omega⟩
   rw[List.take_succ_eq_append_getElem hl] at ht
   rcases List.mem_append.1 ht with ht|ht
   ·exact hsm t ht
   ·rw[List.mem_singleton.1 ht]
    simpa using e
 have hje:j=C.shapes.length:=by omega
 subst hje
 rw[List.take_length] at hsm
 have ok:CsOk C:=⟨by omega,by omega,by omega,by omega,hsm⟩
 have hfr:=fr_in C
 have haf:=a_in C
 have hbf:=b_in C
 have c8:=f8.blk B1 fun h=>h
 refine⟨_,N8.free,?_⟩
 have e1:IntKind.i64.wrap ((IntKind.u64.wrap v.free).tmod 3)=frOf C:=by rw[x.free];exact (um_wrap C.free (most:=2) (by omega)).2
 have e2:IntKind.i64.wrap ((IntKind.u64.wrap v.ab).tmod 4)=aOf C:=by rw[x.ab];exact (um_wrap C.ab (most:=3) (by omega)).2
 have e3:IntKind.i64.wrap ((IntKind.u64.wrap v.bb).tmod 4)=bOf C:=by rw[x.bb];exact (um_wrap C.bb (most:=3) (by omega)).2
 dsimp only
 rw[e1]
 refine sto_i c8 (by simp) ?_
 have c13:blk (sc h8 ⟨h.size,0,none⟩ (.int .i64 (frOf C))) h.size (csv { v with free:=frOf C }):=c8.sc 0 _
 have F13:=Fr.scb h8 h.size 0 (.int .i64 (frOf C))
 generalize sc h8 ⟨h.size,0,none⟩ (.int .i64 (frOf C))=h13 at c13 F13 ⊢
 have N13:=Cs11.blk c13
 refine⟨_,N13.ab,_,N13.bb,?_⟩
 dsimp only
 rw[e2,e3]
 refine sto_i (b:=h.size) (o:=7) c13 (by simp) ?_
 have c14:blk (sc h13 ⟨h.size,7,none⟩ (.int .i64 (aOf C))) h.size (csv { v with free:=frOf C,ab:=aOf C }):=c13.sc 7 _
 have F14:=Fr.scb h13 h.size 7 (.int .i64 (aOf C))
 generalize sc h13 ⟨h.size,7,none⟩ (.int .i64 (aOf C))=h14 at c14 F14 ⊢
 refine sto_i (b:=h.size) (o:=8) c14 (by simp) ?_
 have c15:blk (sc h14 ⟨h.size,8,none⟩ (.int .i64 (bOf C))) h.size (csv { v with free:=frOf C,ab:=aOf C,bb:=bOf C }):=c14.sc 8 _
 have F15:=Fr.scb h14 h.size 8 (.int .i64 (bOf C))
 generalize sc h14 ⟨h.size,8,none⟩ (.int .i64 (bOf C))=h15 at c15 F15 ⊢
 have F815:Fr (fun b=>b=h.size) h8 h15:=(F13.trans F14).trans F15
 have d2:=F815.blk (f8.blk B2 fun h=>h) (by omega)
 have d3:=F815.blk (f8.blk B3 fun h=>h) (by omega)
 have d4:=F815.blk (f8.blk b4 fun h=>h) (by omega)
 have g15:Grow h h15:=g8.trans' F815 fun i hi e=>by omega
 have s15:h4.size≤h15.size:=by have:=f8.size;have:=F815.size;omega
 clear c8 c13 c14 F13 F14 F15 F815 N8 N13 f8 g8
 let v':Cv:={ v with free:=frOf C,ab:=aOf C,bb:=bOf C }
 let C':Cs:={ C with free:=frOf C,ab:=aOf C,bb:=bOf C }
 have x15:CsAt Q0 h15 C' v':=by
  have y:=x.grow g15
  exact⟨rfl,y.known,y.src,y.needs,y.shapes,y.a,y.b,rfl,rfl,y.ao,y.bo⟩
 change blk h15 h.size (csv v') at c15
 have hsrc:v'.src=C.src:=x.src
 refine⟨fun w i h'=>∃j:Nat,i=j∧j≤8∧Grow h15 h'∧Own h' h15.size 1 w (ints (dgs C.src j)),fun _ i _=>8 - i.toNat,⟨0,rfl,by omega,Fr.refl _ _,Own.nil _ _ _⟩,?_⟩
 rintro ways _ h16 ⟨j,rfl,hj8,g16,ow⟩
 have s16:=g16.size
 have hnw:ways.n=j:=by have:=ow.len;simp[ints,dgs] at this;omega
 refine ifb_iff (q:=j<8) (by simp;omega) (fun hl8=>?_) (fun hl8=>?_)
 ·refine⟨_,(Cs11.blk (g16.blk c15 fun h=>h)).src,?_,?_⟩
  ·rw[wrap64_id (by omega) (by omega)];omega
  dsimp only
  rw[hsrc]
  show newS _ #[.int .i64 (dg C.src j)] 1 h16 _
  refine app1 rfl ow rfl (by simp[Value.oneCell']) s16 (by omega) (by omega) fun s' h18 e18 o18 f18 _=>?_
  rw[wrap_succ hl8 (by omega)]
  refine⟨⟨j+1,rfl,by omega,g16.trans' f18 fun i hi e=>by have:=(ow.ge e).1;omega,?_⟩,by simp;omega⟩
  rw[dgs_succ]
  simpa [ints] using o18
 obtain rfl:j=8:=by omega
 have c16:=g16.blk c15 fun h=>h
 have d2:=g16.blk d2 fun h=>h
 have d3:=g16.blk d3 fun h=>h
 have d4:=g16.blk d4 fun h=>h
 have x16:=x15.grow g16
 have g016:=g15.trans g16
 clear hl8 hj8 hnw
 let KN:List (Int×Int):=C.known.map (pm fun x=>um x (frOf C))
 let wV:Value:=.slice ways.a ways.n ways.c
 let nV:Value:=.slice v'.needs.a v'.needs.n v'.needs.c
 let IJ:Bool→Bool→Bool→Bool→Bool→Bool→Sv→Nat→Nat→Addr→Heap→Prop:=fun b6 b7 b9 b11 b14 b17 s m1 m2 p hh=>
  Grow h16 hh∧(b6=true→Own hh h16.size 2 s (prs KN))∧(b7=true→MpAt h16.size hh m1 b9 wV)∧(b11=true→MpAt h16.size hh m2 b14 nV)∧(b17=true→∃n,p=⟨n,0,none⟩∧h16.size≤n∧blk hh n (wdv zwd))∧(b7=true→b11=true→m1≠m2)∧(b7=false→b9=false)∧(b11=false→b14=false)∧(b6=true→b17=true→¬s.own p.block)
 have up:∀ {hh:Heap},Grow h16 hh→Cs11 hh ⟨h.size,0,none⟩ v':=fun f=>Cs11.blk (f.blk c16 fun h=>h)
 refine⟨IJ,fun hh=>Grow h16 hh,fun _ _ _ _ _ _ _ _ _ _ _ e=>e.1,fun _ _ _ _=>⟨Fr.refl _ _,fun e=>(by cases e),fun e=>(by cases e),fun e=>(by cases e),fun e=>(by cases e),fun e=>(by cases e),fun _=>rfl,fun _=>rfl,fun e=>(by cases e)⟩,?_⟩
 refine⟨_,fun hh f=>(up f).free,_,fun hh f=>(up f).known,_,fun hh f=>(up f).free,_,fun hh f=>(up f).needs,?_,?_,?_,?_,?_,?_,?_⟩
 ·
  rintro b6 b7 b9 b11 b14 b17 _ m1 m2 p hh ⟨f,i1,i2,i3,i4,i5,i6,i7,i8⟩ rfl
  refine cal_of (pairs_mod (x16.known.fr f fun _ _ h=>h) (most:=frOf C) (by omega) (by show C.known.length≤_;omega)) ?_
  rintro _ h20 ⟨f20,s,rfl,o⟩
  refine⟨s,rfl,f.trans f20,fun _=>own_low o f.size,fun e=>(i2 e).fr f20 fun h=>h,fun e=>(i3 e).fr f20 fun h=>h,fun e=>?_,i5,i6,i7,fun _ e=>?_⟩
  ·obtain⟨n,a1,a2,a3⟩:=i4 e
   exact⟨n,a1,a2,f20.blk a3 fun h=>h⟩
  ·obtain⟨n,rfl,a2,a3⟩:=i4 e
   exact fun e2=>by have q:hh.size≤n:=(o.ge e2).1;have:=a3.lt;omega
 ·
  rintro b6 b7 b9 b11 b14 b17 s _ m2 p hh ⟨f,i1,i2,i3,i4,i5,i6,i7,i8⟩ rfl
  rintro m h24 rfl rfl
  have f24:Grow hh (hh.push (.map #[] 0)):=Fr.push _ _ _
  have hb9:=i6 rfl
  refine⟨f.trans f24,fun e=>(i1 e).frame f24 fun _ _ h=>h,fun _=>by rw[hb9];exact newM_at f.size _,fun e=>(i3 e).fr f24 fun h=>h,fun e=>?_,fun _ e=>?_,fun e=>(by cases e),i7,i8⟩
  ·obtain⟨n,a1,a2,a3⟩:=i4 e
   exact⟨n,a1,a2,f24.blk a3 fun h=>h⟩
  ·have:=(i3 e).lt
   omega
 ·
  rintro b6 b7 b9 b11 b14 b17 s m1 m2 p hh ⟨f,i1,i2,i3,i4,i5,i6,i7,i8⟩ rfl rfl
  have hM:=i2 rfl
  refine ins_at hM fun h28 hM2 f28=>?_
  obtain⟨hge,L,c,eL,-⟩:=hM
  refine⟨f.trans' f28 fun i hi e=>by omega,fun e=>(i1 e).frame f28 fun b hb e2=>own_nomap (i1 e) eL (by rw[←e2];exact hb),fun _=>hM2,fun e=>(i3 e).fr f28 fun e2=>i5 rfl e e2.symm,fun e=>?_,i5,fun e=>(by cases e),i7,i8⟩
  obtain⟨n,a1,a2,a3⟩:=i4 e
  exact⟨n,a1,a2,f28.blk a3 (blk_nomap a3 eL)⟩
 ·rintro b6 b7 b9 b11 b14 b17 s m1 _ p hh ⟨f,i1,i2,i3,i4,i5,i6,i7,i8⟩ rfl
  rintro m h24 rfl rfl
  have f24:Grow hh (hh.push (.map #[] 0)):=Fr.push _ _ _
  have hb14:=i7 rfl
  refine⟨f.trans f24,fun e=>(i1 e).frame f24 fun _ _ h=>h,fun e=>(i2 e).fr f24 fun h=>h,fun _=>by rw[hb14];exact newM_at f.size _,fun e=>?_,fun e _=>?_,i6,fun e=>(by cases e),i8⟩
  ·obtain⟨n,a1,a2,a3⟩:=i4 e
   exact⟨n,a1,a2,f24.blk a3 fun h=>h⟩
  ·have:=(i2 e).lt
   omega
 ·rintro b6 b7 b9 b11 b14 b17 s m1 m2 p hh ⟨f,i1,i2,i3,i4,i5,i6,i7,i8⟩ rfl rfl
  have hM:=i3 rfl
  refine ins_at hM fun h28 hM2 f28=>?_
  obtain⟨hge,L,c,eL,-⟩:=hM
  refine⟨f.trans' f28 fun i hi e=>by omega,fun e=>(i1 e).frame f28 fun b hb e2=>own_nomap (i1 e) eL (by rw[←e2];exact hb),fun e=>(i2 e).fr f28 fun e2=>i5 e rfl e2,fun _=>hM2,fun e=>?_,i5,i6,fun e=>(by cases e),i8⟩
  obtain⟨n,a1,a2,a3⟩:=i4 e
  exact⟨n,a1,a2,f28.blk a3 (blk_nomap a3 eL)⟩
 ·rintro b6 b7 b9 b11 b14 b17 s m1 m2 _ hh ⟨f,i1,i2,i3,i4,i5,i6,i7,i8⟩ rfl
  rintro p43 h43 rfl rfl
  have f43:Grow hh (hh.push (.cells (wdv zwd) 33)):=Fr.push _ _ _
  exact⟨f.trans f43,fun e=>(i1 e).frame f43 fun _ _ h=>h,fun e=>(i2 e).fr f43 fun h=>h,fun e=>(i3 e).fr f43 fun h=>h,fun _=>⟨hh.size,rfl,f.size,blk.new _ _ _⟩,i5,i6,i7,fun e _ e2=>by have:=((i1 e).ge e2).2;dsimp only at this;omega⟩
 rintro xs m1 m2 p46 h46 ⟨f46,i1,i2,i3,i4,i5,i6,i7,i8⟩
 have oK:=i1 rfl
 have M1:=i2 rfl
 have M2:=i3 rfl
 have hne:=i5 rfl rfl
 obtain⟨np,rfl,hnp,bp⟩:=i4 rfl
 refine sto4 (v:=⟨frOf C,xs,some m1,some m2⟩) bp rfl fun h47 b47 f47=>?_
 have g47:Grow h16 h47:=f46.trans' f47 fun i hi e=>by omega
 have hno:=i8 rfl rfl
 have oK:=oK.frame f47 fun b hb e=>hno (by rw[←e];exact hb)
 have hm1:m1≠np:=fun e=>by
  obtain⟨_,L,c,eL,_⟩:=M1
  exact blk_nomap bp eL e.symm
 have hm2:m2≠np:=fun e=>by
  obtain⟨_,L,c,eL,_⟩:=M2
  exact blk_nomap bp eL e.symm
 have M1:=M1.fr f47 hm1
 have M2:=M2.fr f47 hm2
 have G47:=g016.trans g47
 have N47:=up g47
 have sh:h16.size≤h47.size:=g47.size
 have hh16:h.size≤h16.size:=g016.size
 refine⟨fun hh=>Grow h47 hh,Fr.refl _ _,?_⟩
 refine⟨_,_,_,_,_,_,_,_,_,_,_,N47.free,N47.known,N47.src,N47.needs,N47.shapes,N47.a,N47.b,N47.ab,N47.bb,N47.ao,N47.bo,_,N47.a,_,N47.ab,_,N47.ao,?_⟩
 have uw:∀ {hh:Heap},Grow h47 hh→Wd4 hh ⟨np,0,none⟩ ⟨frOf C,xs,some m1,some m2⟩:=fun f=>Wd4.blk (f.blk b47 fun h=>h)
 refine⟨_,_,_,_,fun hh f=>(uw f).free,fun hh f=>(uw f).k,fun hh f=>(uw f).w,fun hh f=>(uw f).n,?_⟩
 have uc:∀ {hh:Heap},Grow h47 hh→Cs11 hh ⟨h.size,0,none⟩ v':=fun f=>up (g47.trans f)
 refine⟨_,_,_,_,_,_,_,_,_,_,_,fun hh f=>(uc f).free,fun hh f=>(uc f).known,fun hh f=>(uc f).src,fun hh f=>(uc f).needs,fun hh f=>(uc f).shapes,fun hh f=>(uc f).a,fun hh f=>(uc f).b,fun hh f=>(uc f).ab,fun hh f=>(uc f).bb,fun hh f=>(uc f).ao,fun hh f=>(uc f).bo,?_⟩
 refine⟨_,fun hh f=>(uc f).b,_,fun hh f=>(uc f).bb,_,fun hh f=>(uc f).bo,?_⟩
 have hq47:∀b,Q0 b→b<h47.size:=fun b hb=>by have:=hQ b hb;omega
 have y47:=x16.grow g47
 refine cal_of (scheme_spec (C:=C') (v:=v') (l:=v'.a) (o:=v'.ao) (ls:=C.a) (bound:=aOf C) (L:=C.ao) hq47 y47 y47.a y47.ao hfr haf (by omega) ok.shapes ok.small) ?_
 rintro _ h48 ⟨f48,sva,rfl,ta⟩
 refine⟨_,_,_,_,_,_,_,_,_,rfl,f48,?_⟩
 have y48:=y47.grow f48
 refine cal_of (scheme_spec (C:=C') (v:=v') (l:=v'.b) (o:=v'.bo) (ls:=C.b) (bound:=bOf C) (L:=C.bo) (fun b hb=>by have:=hq47 b hb;have:=f48.size;omega) y48 y48.b y48.bo hfr hbf (by omega) ok.shapes ok.small) ?_
 rintro _ h49 ⟨f49,svb,rfl,tb⟩
 refine⟨_,_,_,_,_,_,_,_,_,rfl,f48.trans f49,?_⟩
 have F49:=f48.trans f49
 have G49:=g47.trans F49
 have ta:=ta.grow f49
 refine three (w:=⟨frOf C,xs,some m1,some m2⟩) (a:=sva) (b:=svb) (by omega) (G49.blk d2 fun h=>h) (G49.blk d3 fun h=>h) (G49.blk d4 fun h=>h) rfl rfl rfl fun h52 f52 q2 q3 q4=>?_
 have Q2:=Wd4.blk q2
 have Q3:=Sc9.blk q3
 have Q4:=Sc9.blk q4
 refine⟨_,_,_,_,Q2.free,Q2.k,Q2.w,Q2.n,_,_,_,_,_,_,_,_,_,Q3.b,Q3.o,Q3.pp,Q3.k,Q3.nm,Q3.mu,Q3.r,Q3.rs,Q3.az,_,_,_,_,_,_,_,_,_,Q4.b,Q4.o,Q4.pp,Q4.k,Q4.nm,Q4.mu,Q4.r,Q4.rs,Q4.az,?_⟩
 have hlow:∀ {b},b=h1.size∨b=h2.size∨b=h3.size→h.size<b∧b<h15.size:=fun e=>by omega
 have Gf:Grow h h52:=(g016.trans G49).trans' f52 fun i hi e=>by have:=hlow e;omega
 have Ff:Fr (fun b=>h.size<b∧b<h15.size) h49 h52:=f52.mono fun _ _ e=>hlow e
 have s4952:=f52.size
 refine⟨Gf,⟨frOf C,xs,some m1,some m2⟩,sva,svb,true,rfl,fun _=>⟨ok,?_,?_,?_⟩⟩
 ·refine⟨rfl,?_,?_,?_⟩
  ·have o1:=(oK.frame F49 fun _ _ h=>h).frame Ff fun b hb e=>by have:=(oK.ge hb).1;omega
   exact (own_prs o1).weak fun b hb hl=>.inr ⟨by have:=(o1.ge hb).1;omega,hl⟩
  ·have M:=(M1.fr F49 fun h=>h).fr Ff fun e=>by have:=M1.1;omega
   obtain⟨_,L,c,e,k⟩:=M
   refine⟨[(⟨#[83]⟩,ways,dgs C.src 8)],rfl,.inr ⟨m1,L,c,rfl,e,k⟩,fun r hr=>?_,fun e he=>?_⟩
   ·simp only[Option.some.injEq] at hr
    subst hr
    exact .inr ⟨by have:=M1.1;omega,MpAt.lt (v:=wV) (full:=true) (B:=h16.size) ⟨M1.1,L,c,e,k⟩⟩
   ·simp only[List.mem_singleton] at he
    subst he
    have o1:=((ow.frame G49 fun _ _ h=>h).frame Ff fun b hb e=>by have:=(ow.ge hb).1;omega)
    exact IntsQ.of (own_ints o1) fun b hb hl=>.inr ⟨by have:=(o1.ge hb).1;omega,hl⟩
  ·have M:=(M2.fr F49 fun h=>h).fr Ff fun e=>by have:=M2.1;omega
   obtain⟨_,L,c,e,k⟩:=M
   refine⟨[(⟨#[83]⟩,v.needs,C.needs)],rfl,.inr ⟨m2,L,c,rfl,e,k⟩,fun r hr=>?_,fun e he=>?_⟩
   ·simp only[Option.some.injEq] at hr
    subst hr
    exact .inr ⟨by have:=M2.1;omega,MpAt.lt (v:=nV) (full:=true) (B:=h16.size) ⟨M2.1,L,c,e,k⟩⟩
   ·simp only[List.mem_singleton] at he
    subst he
    have hn:=ok.needs
    refine⟨(x.needs.fr Gf fun _ _ h=>h).weak fun b hb _=>.inl hb,sz.inN,by show C.needs.length≤10;omega⟩
 ·refine (ta.fr Ff fun b hb e=>?_).weak fun b hb hlt=>hb.imp id fun hb=>⟨by omega,hlt⟩
  rcases hb with hb|hb
  ·have:=hQ b hb;omega
  ·omega
 ·have s48:=f48.size
  refine (tb.fr Ff fun b hb e=>?_).weak fun b hb hlt=>hb.imp id fun hb=>⟨by omega,hlt⟩
  rcases hb with hb|hb
  ·have:=hQ b hb;omega
  ·omega
theorem made_spec {C:Cs} {v:Cv} (x:CsAt (fun b=>b<h.size) h C v) (sz:CsSz C):CallsH Try.prog 8 #[.agg (csv v)] h (MadeR C h):=by
 refine (made_specQ (fun _ hb=>hb) x sz).mono ?_
 rintro y h' ⟨f,wv,va,vb,ok,e,k⟩
 exact⟨f,wv,va,vb,ok,e,fun e=>(k e).imp id fun ⟨a,b,c⟩=>⟨a.weak fun _ _ hl=>hl,b.weak fun _ _ hl=>hl,c.weak fun _ _ hl=>hl⟩⟩
end
end Go.Proofs.Yteofligmdngdgaa
namespace Go.Lf
open Go
section
variable {P:Program} {h:Heap} {t e tt ti tsn tb tl ta:TypeId} {fuel:Nat}
theorem rd_string {cs:List Value} (hu:P.underlying t=some .string) (hr:rd P h fuel t cs):∃s,cs=[.string s]:=by
 cases fuel with
 | zero=>exact hr.elim
 | succ fuel=>
  unfold rd at hr
  rw[hu] at hr
  obtain⟨s,e,_⟩:=hr
  exact⟨s,e⟩
theorem rd_fieldS {cs:List Value} {fs:Array Field} (hu:P.underlying t=some (.struct fs)) (hr:rd P h (fuel+1) t cs) (i:Nat) {f:Field} (hf:fs[i]?=some f) {n:Nat} (hn:P.cellsOf f.type=n):rd P h fuel f.type ((cs.drop f.offset).take n):=by
 unfold rd at hr
 rw[hu] at hr
 rw[←hn]
 exact hr.2 i f hf
theorem rd_elemsS {s:Sv} (hu:P.underlying t=some (.slice e)) (hr:rd P h (fuel+1) t [s.v]):∀i,i<s.n→∃a,s.a=some a∧∃cs':List Value,cs'.length=P.cellsOf e∧(∀j,j<P.cellsOf e→cl h ((a.add (i*P.cellsOf e)).add j)=cs'[j]?)∧rd P h fuel e cs':=by
 unfold rd at hr
 rw[hu] at hr
 obtain⟨sa,sn,sc⟩:=s
 rcases hr with hr|⟨a,n,c,hr,h1,h2,hall⟩
 ·simp[Sv.v] at hr
  obtain⟨rfl,rfl,rfl⟩:=hr
  intro i hi
  simp at hi
 ·simp[Sv.v] at hr
  obtain⟨rfl,rfl,rfl⟩:=hr
  intro i hi
  refine⟨a,rfl,?_⟩
  obtain⟨cs',q1,q2,q3⟩:=hall i (by simp at hi;omega)
  exact⟨cs',q1,q2,q3⟩
theorem ty_rd {fs:Array Field} (hT:P.underlying tt=some (.struct fs)) (c6:P.cellsOf tt=6)
  (f0:∃f,fs[0]?=some f∧f.offset=0∧f.type=ti) (f1:∃f,fs[1]?=some f∧f.offset=1∧f.type=tsn) (f2:∃f,fs[2]?=some f∧f.offset=2∧f.type=tb)
  (f3:∃f,fs[3]?=some f∧f.offset=3∧f.type=ti) (f4:∃f,fs[4]?=some f∧f.offset=4∧f.type=tl) (f5:∃f,fs[5]?=some f∧f.offset=5∧f.type=ta)
  (hi:P.underlying ti=some (.int .i64)) (hs:P.underlying tsn=some .string) (hb:P.underlying tb=some .bool) (hl:P.underlying tl=some (.slice ti)) (ha:P.underlying ta=some (.slice tt))
  (ci:P.cellsOf ti=1) (cs1:P.cellsOf tsn=1) (cb:P.cellsOf tb=1) (cl1:P.cellsOf tl=1) (ca:P.cellsOf ta=1) :
  ∀(fuel:Nat) (cs:List Value),rd P h fuel tt cs→∃(v:Tv) (y:Ty),cs=(tvs v).toList∧TyAt (fun b=>b<h.size) h y v:=by
 obtain⟨f0,g0,o0,t0⟩:=f0
 obtain⟨f1,g1,o1,t1⟩:=f1
 obtain⟨f2,g2,o2,t2⟩:=f2
 obtain⟨f3,g3,o3,t3⟩:=f3
 obtain⟨f4,g4,o4,t4⟩:=f4
 obtain⟨f5,g5,o5,t5⟩:=f5
 intro fuel
 induction fuel using Nat.strongRecOn with
 | _ fuel ih=>
  intro cs hr
  cases fuel with
  | zero=>exact hr.elim
  | succ f=>
   have hln:=rd_len hT hr
   rw[c6] at hln
   match cs,hln with
   | [u0,u1,u2,u3,u4,u5],_=>
    have r0:=rd_fieldS hT hr 0 g0 (n:=1) (by rw[t0];exact ci)
    have r1:=rd_fieldS hT hr 1 g1 (n:=1) (by rw[t1];exact cs1)
    have r2:=rd_fieldS hT hr 2 g2 (n:=1) (by rw[t2];exact cb)
    have r3:=rd_fieldS hT hr 3 g3 (n:=1) (by rw[t3];exact ci)
    have r4:=rd_fieldS hT hr 4 g4 (n:=1) (by rw[t4];exact cl1)
    have r5:=rd_fieldS hT hr 5 g5 (n:=1) (by rw[t5];exact ca)
    rw[t0,o0] at r0
    rw[t1,o1] at r1
    rw[t2,o2] at r2
    rw[t3,o3] at r3
    rw[t4,o4] at r4
    rw[t5,o5] at r5
    obtain⟨k,e0,_⟩:=rd_int hi r0
    obtain⟨nm,e1⟩:=rd_string hs r1
    obtain⟨mu,e2⟩:=rd_bool hb r2
    obtain⟨r,e3,_⟩:=rd_int hi r3
    obtain⟨rs,e4⟩:=rd_slice hl r4
    obtain⟨az,e5⟩:=rd_slice ha r5
    simp at e0 e1 e2 e3 e4 e5
    subst e0 e1 e2 e3 e4 e5
    obtain⟨xs,hx⟩:=rd_ints hl hi ci r4
    cases f with
    | zero=>exact r5.elim
    | succ g=>
     have hel:=rd_elemsS ha r5
     have key:∀i,i<az.n→∃y:Ty,∃p v,az.a=some p∧p.block<h.size∧Tv6 h (p.add (i*6)) v∧TyAt (fun b=>b<h.size) h y v:=by
      intro i hi'
      obtain⟨a,ea,cs',q1,q2,q3⟩:=hel i hi'
      obtain⟨v,y,rfl,hy⟩:=ih g (by omega) cs' q3
      rw[c6] at q2
      have T6:Tv6 h (a.add (i*6)) v:=by
       have c0:=q2 0 (by omega)
       rw[add_zero] at c0
       exact⟨c0,q2 1 (by omega),q2 2 (by omega),q2 3 (by omega),q2 4 (by omega),q2 5 (by omega)⟩
      exact⟨y,a,v,ea,by have:=T6.lt;rwa [add_block] at this,T6,hy⟩
     have:∃ys:List Ty,ys.length=az.n∧∀j (hj:j<ys.length),∃p u,az.a=some p∧p.block<h.size∧Tv6 h (p.add (j*6)) u∧TyAt (fun b=>b<h.size) h ys[j] u:=by
      refine⟨(List.range az.n).attach.map fun i=>Classical.choose (key i.1 (by simpa using i.2)),by simp,fun j hj=>?_⟩
      simp only[List.getElem_map,List.getElem_attach,List.getElem_range]
      exact Classical.choose_spec (key j (by simpa using hj))
     obtain⟨ys,hy1,hy2⟩:=this
     exact⟨⟨k,nm,mu,r,rs,az⟩,.mk k nm mu r xs ys,rfl,tyAt_iff.2 ⟨rfl,rfl,rfl,rfl,⟨IntsQ.of hx fun b _ hb=>hb,rd_cap hl r4⟩,hy1.symm,hy2⟩⟩
end
end Go.Lf
namespace Go.Proofs.Yteofligmdngdgaa
open Go Go.Lf
set_option linter.unusedVariables false
theorem mvS_ofR (fr by_:Int) {ts:List Ty} {rt:Ty} {R:Raw} (x:Fit ts rt R):mvS fr by_ (ofR ts rt R)=ofR ts rt (mapR (mvF fr by_) R):=mv_ofR (mvF fr by_) x
theorem small_unit:small 5 unitT=true:=by rfl
theorem sm_sch {sh:List Ty} (hs:sh.length≤4) (hsm:∀t∈sh,small 5 t=true) (ls:List Int) (bound most:Int) {outs:List (Int×Int)} (ho:outs.length≤20):SchSm (schOf sh ls bound most outs):=by
 have key:∀i,small 5 (tyOf sh ls most i)=true:=fun i=>by
  refine small_wT 5 _ _ ?_
  by_cases h:i<sh.length
  ·have:sh.getD i unitT=sh[i]:=by simp[h]
   rw[this]
   exact hsm _ (List.getElem_mem h)
  ·have:sh.getD i unitT=unitT:=by simp[List.getElem?_eq_none (Nat.le_of_not_lt h)]
   rw[this]
   exact small_unit
 refine⟨?_,fun t ht=>?_,key _,by show (outs.map _).length≤20;rw[List.length_map];exact ho⟩
 ·rw[raw_ps,List.length_map,List.length_range];omega
 ·rw[raw_ps] at ht
  obtain⟨i,_,rfl⟩:=List.mem_map.1 ht
  exact key i
noncomputable def wK (C:Cs) (K:List (Int×Int)):Wd:=⟨frOf C,K,[(⟨#[83]⟩,dgs C.src 8)],[(⟨#[83]⟩,C.needs)]⟩
theorem ok_ns {C:Cs} (ok:CsOk C) (K:List (Int×Int)) (nm:ByteArray):(lkN nm (wK C K).ns).length≤10:=by
 have:=ok.needs
 show (if nm=⟨#[83]⟩ then C.needs else []).length≤10
 split
 ·omega
 ·simp
theorem ok_ws {C:Cs} (sz:CsSz C) (K:List (Int×Int)) (nm:ByteArray) (i:Nat):W4 (ofW (wK C K).ws nm i):=by
 show W4 (((if nm=⟨#[83]⟩ then dgs C.src 8 else [])[i]?).getD 3)
 have h3:W4 3:=by unfold W4;omega
 split
 ·by_cases h:i<(dgs C.src 8).length
  ·rw[List.getElem?_eq_getElem h]
   have hm:=List.getElem_mem h
   obtain⟨k,_,e⟩:=List.mem_map.1 hm
   rw[Option.getD_some,←e]
   exact dg_in sz.src k
  ·rw[List.getElem?_eq_none (Nat.le_of_not_lt h)];exact h3
 ·exact h3
theorem good_of {C:Cs} (ok:CsOk C) (sz:CsSz C) {K:List (Int×Int)} (hK:InR K (frOf C)) (hKl:K.length≤20) {fr a b:Nat} (efr:frOf C=fr) (ha:a≤3) (hb:b≤3) (la lb:List Int) {oa ob:List (Int×Int)} (hoa:oa.length≤20) (hob:ob.length≤20) :
  Good (wK C K) (schOf C.shapes la a (frOf C+a) oa) (schOf C.shapes lb b (frOf C+b) ob) fr a b:=by
 have hf:=fr_in C
 have xa:=fit_raw C.shapes la a (frOf C+a) oa
 have xb:=fit_raw C.shapes lb b (frOf C+b) ob
 have ia:=in_raw C.shapes la (a:Int) (most:=frOf C+a) (by omega) oa
 have ib:=in_raw C.shapes lb (b:Int) (most:=frOf C+b) (by omega) ob
 refine⟨efr,by omega,rfl,rfl,ha,hb,sm_sch ok.shapes ok.small _ _ _ hoa,sm_sch ok.shapes ok.small _ _ _ hob,sch_in xa (ia.mono (by omega)),sch_in xb (ib.mono (by omega)),by rw[←efr];exact hK,hKl,ok_ns ok K,ok_ws sz K,?_,?_⟩
 ·rw[mvS_ofR _ _ xa]
  exact alike_ofR xa.map xb
 ·rw[mvS_ofR _ _ xa]
  refine ask_in _ _ (by omega) xa.map xb ?_ (ib.mono (by omega))
  have:=mapR_in (fr:=fr) (by_:=b) (b:=a) (R:=rawOf C.shapes la a (frOf C+a) oa) (by omega) (by omega) (by omega) (ia.mono (by omega))
  exact this.mono (by omega)
theorem wOf_K (C:Cs):wOf C=wK C (C.known.map (pm fun x=>um x (frOf C))):=rfl
theorem known_in (C:Cs):InR (C.known.map (pm fun x=>um x (frOf C))) (frOf C):=by
 have hf:=fr_in C
 intro p hp
 obtain⟨q,_,rfl⟩:=List.mem_map.1 hp
 exact⟨um_in _ hf.1,um_in _ hf.1⟩
theorem good_made {C:Cs} (ok:CsOk C) (sz:CsSz C) {fr a b:Nat} (efr:frOf C=fr) (ea:aOf C=a) (eb:bOf C=b):Good (wOf C) (saOf C) (sbOf C) fr a b:=by
 have haf:=a_in C
 have hbf:=b_in C
 have hsum:=ok.sum
 rw[wOf_K]
 unfold saOf sbOf
 rw[ea,eb]
 exact good_of ok sz (known_in C) (by rw[List.length_map];omega) efr (by omega) (by omega) C.a C.b (by omega) (by omega)
end Go.Proofs.Yteofligmdngdgaa
namespace Go.Proofs.Yteofligmdngdgaa
open Go Go.Lf
set_option linter.unusedVariables false
def bv (bs:List Int) (x:Int) (e:Nat):Bool:=Nat.testBit (bs.getD x.toNat 0).toNat e
theorem bv_app {bs ext:List Int} {x:Int} (hx:x.toNat<bs.length) (e:Nat):bv (bs++ext) x e=bv bs x e:=by
 unfold bv
 rw[List.getD_eq_getElem?_getD,List.getD_eq_getElem?_getD,List.getElem?_append_left hx]
def u64s (xs:List Int):List Value:=xs.map (.int .u64)
theorem own_us {h:Heap} {B:Nat} {s:Sv} {xs:List Int} (o:Own h B 1 s (u64s xs)):USAt h s xs:=by
 have hl:s.n=xs.length:=by have:=o.len;simp[u64s] at this;omega
 refine⟨hl,fun i hi=>?_⟩
 rcases o.mem with⟨_,e,_⟩|⟨g,cur,e,_⟩
 ·omega
 ·have hr:=o.row
  rw[e] at hr
  exact⟨_,e,by have:=hr i (.int .u64 xs[i]) (by simp[u64s,hi]);rwa [Nat.mul_one]⟩
end Go.Proofs.Yteofligmdngdgaa
namespace Go.Proofs.Yteofligmdngdgaa
open Go Go.Lf
set_option linter.unusedVariables false
theorem sub64:∀a b:Fin 64,(bitsI .andNot .u64 (b.val:Int) (a.val:Int) == 0)=decide (∀e:Fin 6,Nat.testBit b.val e.val=true→Nat.testBit a.val e.val=true):=by decide +kernel
theorem or64:∀a b:Fin 64,bitsI .or .u64 (a.val:Int) (b.val:Int)=((a.val ||| b.val:Nat):Int):=by decide +kernel
theorem one64:∀y:Fin 6,IntKind.u64.wrap (1*2 ^ (min ((y.val:Int)).toNat IntKind.u64.bits))=((2 ^ y.val:Nat):Int):=by decide +kernel
theorem relB_iff64 {bs:List Int} (h8:∀x∈bs,0≤x∧x<64) {x y:Int} (hx:0≤x∧x<bs.length) (hy:0≤y∧y<bs.length):relB bs x y=true↔∀e,e<6→bv bs y e=true→bv bs x e=true:=by
 obtain⟨x,rfl⟩:=Int.eq_ofNat_of_zero_le hx.1
 obtain⟨y,rfl⟩:=Int.eq_ofNat_of_zero_le hy.1
 have hx:x<bs.length:=by omega
 have hy:y<bs.length:=by omega
 have ha:=h8 _ (List.getElem_mem hx)
 have hb:=h8 _ (List.getElem_mem hy)
 unfold relB bv
 simp only[Int.toNat_natCast,List.getD_eq_getElem?_getD,List.getElem?_eq_getElem hx,List.getElem?_eq_getElem hy,Option.getD_some]
 generalize bs[x]=a at ha ⊢
 generalize bs[y]=b at hb ⊢
 obtain⟨a,rfl⟩:=Int.eq_ofNat_of_zero_le ha.1
 obtain⟨b,rfl⟩:=Int.eq_ofNat_of_zero_le hb.1
 have:=sub64 ⟨a,by omega⟩ ⟨b,by omega⟩
 simp only at this
 rw[this,decide_eq_true (show (0:Int)≤x by omega),decide_eq_true (show (0:Int)≤y by omega)]
 simp only[Bool.true_and,decide_eq_true_eq,Int.toNat_natCast]
 exact⟨fun h e he=>h ⟨e,he⟩,fun h e=>h e.val e.isLt⟩
def orL (us:List Nat):Nat:=us.foldl (fun s y=>s ||| 2 ^ y) 0
theorem orL_snoc (us:List Nat) (y:Nat):orL (us++[y])=orL us ||| 2 ^ y:=by unfold orL;rw[List.foldl_append];rfl
theorem orL_lt:∀(us:List Nat),(∀y∈us,y<6)→orL us<64:=by
 intro us
 have key:∀(us:List Nat) (s:Nat),s<2 ^ 6→(∀y∈us,y<6)→us.foldl (fun s y=>s ||| 2 ^ y) s<2 ^ 6:=by
  intro us
  induction us with
  | nil=>exact fun s hs _=>hs
  | cons y us ih=>
   intro s hs hy
   refine ih _ (Nat.or_lt_two_pow hs ?_) fun z hz=>hy z (by simp[hz])
   exact Nat.pow_lt_pow_right (by omega) (hy y (by simp))
 exact fun h=>key us 0 (by omega) h
theorem orL_bit (us:List Nat) (e:Nat):Nat.testBit (orL us) e=decide (e∈us):=by
 have key:∀(us:List Nat) (s:Nat),Nat.testBit (us.foldl (fun s y=>s ||| 2 ^ y) s) e=(Nat.testBit s e || decide (e∈us)):=by
  intro us
  induction us with
  | nil=>intro s;simp
  | cons y us ih=>
   intro s
   rw[List.foldl_cons,ih,Nat.testBit_or,Nat.testBit_two_pow]
   by_cases h:y=e
   ·simp[h]
   ·have:e≠y:=fun h'=>h h'.symm
    simp[h,this]
 unfold orL
 rw[key]
 simp
def Base (n:Nat) (K:List (Int×Int)) (bs:List Int):Prop:=(∀x∈bs,0≤x∧x<64)∧∀x:Nat,x≤n→∀e,e<6→(bv bs x e=true↔e≤n∧mOf n K x e=true)
theorem base_facts {n:Nat} {K:List (Int×Int)} {bs:List Int} (hn:n≤5) (hK:InR K n) (hl:n+1≤bs.length) (b:Base n K bs):(K.all fun p=>relB bs p.1 p.2)=true:=by
 refine List.all_eq_true.2 fun p hp=>?_
 have hr:=hK p hp
 refine (relB_iff64 b.1 (by omega) (by omega)).2 fun e he h=>?_
 obtain⟨x,hx⟩:=Int.eq_ofNat_of_zero_le hr.1.1
 obtain⟨y,hy⟩:=Int.eq_ofNat_of_zero_le hr.2.1
 rw[hx] at hr ⊢
 rw[hy] at hr h
 have h:=(b.2 y (by omega) e he).1 h
 refine (b.2 x (by omega) e he).2 ⟨h.1,?_⟩
 have:=top_sat hK p hp e (fun _=>by rw[hy];exact h.2) h.1
 rw[hx] at this
 exact this
theorem base_test {n m:Nat} {K L:List (Int×Int)} {bs:List Int} (hn:n≤5) (hL:InR L (m:Int)) (hl:bs.length=m+1) (hnm:n≤m) (b:Base n K bs) (ha:(L.all fun p=>relB bs p.1 p.2)=true):TestG n (mOf n K) L:=by
 have hs:Sat L (fun x e=>0≤x→x≤(m:Int)→e<6→bv bs x e=true):=by
  intro p hp e h h0 hm he
  have hr:=hL p hp
  exact (relB_iff64 b.1 (by omega) (by omega)).1 (List.all_eq_true.1 ha p hp) e he (h hr.2.1 hr.2.2 he)
 intro x y hx hy hr
 have h:=hs.rch hr y (fun _ _ he=>(b.2 y hy y he).2 ⟨hy,(Clo.mOf n K).refl y hy⟩) (by omega) (by omega) (by omega)
 exact ((b.2 x hx y (by omega)).1 h).2
noncomputable def setN (n:Nat) (K:List (Int×Int)) (x:Nat):Nat:=orL ((List.range (n+1)).filter (mOf n K x))
noncomputable def baseL (n:Nat) (K:List (Int×Int)) (j:Nat):List Int:=(List.range j).map fun x=>((setN n K x:Nat):Int)
theorem setN_lt {n:Nat} (hn:n≤5) (K:List (Int×Int)) (x:Nat):setN n K x<64:=
 orL_lt _ fun y hy=>by have:=List.mem_range.1 (List.mem_filter.1 hy).1;omega
theorem baseL_in {n:Nat} (hn:n≤5) (K:List (Int×Int)) (j:Nat):∀x∈baseL n K j,0≤x∧x<64:=fun x hx=>by
 obtain⟨i,_,rfl⟩:=List.mem_map.1 hx
 have:=setN_lt hn K i
 omega
theorem baseL_succ (n:Nat) (K:List (Int×Int)) (j:Nat):baseL n K (j+1)=baseL n K j++[((setN n K j:Nat):Int)]:=by
 unfold baseL
 rw[List.range_succ,List.map_append]
 rfl
theorem base_L {n:Nat} (hn:n≤5) (K:List (Int×Int)):Base n K (baseL n K (n+1)):=by
 refine⟨baseL_in hn K _,fun x hx e he=>?_⟩
 have:bv (baseL n K (n+1)) x e=Nat.testBit (setN n K x) e:=by
  unfold bv baseL
  rw[List.getD_eq_getElem?_getD,Int.toNat_natCast]
  simp[show x<n+1 by omega]
 rw[this]
 unfold setN
 rw[orL_bit]
 simp[List.mem_filter]
 omega
theorem base_app {n:Nat} {K:List (Int×Int)} {bs:List Int} (hl:n+1≤bs.length) (b:Base n K bs) {v:Int} (hv:0≤v∧v<64):Base n K (bs++[v]):=by
 refine⟨fun x hx=>?_,fun x hx e he=>?_⟩
 ·rcases List.mem_append.1 hx with hx|hx
  ·exact b.1 x hx
  ·rw[List.mem_singleton.1 hx];exact hv
 ·rw[bv_app (by omega)]
  exact b.2 x hx e he
theorem base_set {n:Nat} {K:List (Int×Int)} {bs:List Int} {i:Nat} (hi:n<i) (hl:i<bs.length) (b:Base n K bs) {v:Int} (hv:0≤v∧v<64):Base n K (bs.take i++[v]++bs.drop (i+1)):=by
 refine⟨fun x hx=>?_,fun x hx e he=>?_⟩
 ·simp only[List.mem_append,List.mem_singleton] at hx
  rcases hx with (hx|rfl)|hx
  ·exact b.1 x (List.mem_of_mem_take hx)
  ·exact hv
  ·exact b.1 x (List.mem_of_mem_drop hx)
 ·have:bv (bs.take i++[v]++bs.drop (i+1)) x e=bv bs x e:=by
   unfold bv
   rw[List.getD_eq_getElem?_getD,List.getD_eq_getElem?_getD,Int.toNat_natCast,List.append_assoc,List.getElem?_append_left (by rw[List.length_take];omega),List.getElem?_take,if_pos (by omega)]
  rw[this]
  exact b.2 x hx e he
end Go.Proofs.Yteofligmdngdgaa

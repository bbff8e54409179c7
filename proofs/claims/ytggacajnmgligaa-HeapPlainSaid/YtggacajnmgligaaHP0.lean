/- HeapPlain: for every input that its row covers the law returns true, and its arguments read as they did; under no other conditions. This text is joined by a program of ours out of smaller ones. -/
import Derived.WalkKit
import Derived.KernelRfl
import Derived.ProofKit
import Derived.OpenShut
import Derived.Deep.Slices
import Derived.Carry
import Derived.OrdersHeld
import Derived.Test.YtggacajnmgligaaRows
import Derived.Test.YtggacajnmgligaaProg
namespace Go.Lf
open Go
abbrev Heap:=Array Obj
structure Sv where
 a:Option Addr
 n:Nat
 c:Nat
abbrev Sv.v (s:Sv):Value:=.slice s.a s.n s.c
def cl (h:Heap) (a:Addr):Option Value:=
 match h[a.block]? with
 | some (.cells c _ _)=>if a.spot.isSome then none else c[a.off]?
 | _=>none
def fz (h:Heap) (a:Addr):Bool:=
 match h[a.block]? with
 | some (.cells _ _ (lo,hi))=>lo≤a.off && a.off<hi
 | _=>false
def putC (a:Addr) (v:Value):Obj→Obj
 | .cells c elem frozen=>.cells (if a.spot.isSome then c else c.setIfInBounds a.off v) elem frozen
 | o=>o
def sc (h:Heap) (a:Addr) (v:Value):Heap:=h.modify a.block (putC a v)
theorem sc_get (h:Heap) (q:Addr) (v:Value) (b:Nat):(sc h q v)[b]?=if q.block=b then (h[b]?).map (putC q v) else h[b]?:=by
 unfold sc;rw[Array.getElem?_modify]
theorem sc_size (h:Heap) (q:Addr) (v:Value):(sc h q v).size=h.size:=by simp[sc]
theorem cell?_eq (w:World) (a:Addr):w.cell? a=cl w.heap a:=rfl
theorem setCell_heap (w:World) (a:Addr) (v:Value):(w.setCell a v).heap=sc w.heap a v:=rfl
structure Rest (w w':World):Prop where
 os:w'.os=w.os
 tape:w'.tape=w.tape
 output:w'.output=w.output
theorem Rest.refl (w:World):Rest w w:=⟨rfl,rfl,rfl⟩
theorem Rest.trans {a b c:World} (h:Rest a b) (k:Rest b c):Rest a c:=⟨k.os.trans h.os,k.tape.trans h.tape,k.output.trans h.output⟩
def CallsH (P:Program) (f:FuncId) (args:Array Value) (h:Heap) (R:Value→Heap→Prop):Prop:=
 ∀w:World,w.heap=h→Calls P f args w (fun e w'=>∃v,e=.returned v∧R v w'.heap∧Rest w w')
theorem CallsH.mono {P:Program} {f:FuncId} {args:Array Value} {h:Heap} {R R':Value→Heap→Prop} (c:CallsH P f args h R)
  (hr:∀v h',R v h'→R' v h'):CallsH P f args h R':=
 fun w hw=>(c w hw).mono fun _ _ ⟨v,e,r,t⟩=>⟨v,e,hr _ _ r,t⟩
def lk:List (Nat×Value)→Nat→Option Value
 | [],_=>none
 | (s,v) :: E,t=>bif Nat.beq s t then some v else lk E t
def evo (E:List (Nat×Value)):Operand→Option Value
 | .tmp t=>lk E t
 | .const v=>some v
 | .global g=>some (.pointer (some ⟨g,0,none⟩))
 | .func f=>some (.func (.func f) #[] #[])
def evs (E:List (Nat×Value)):List Operand→Option (List Value)
 | []=>some []
 | x :: xs=>match evo E x,evs E xs with
  | some v,some vs=>some (v :: vs)
  | _,_=>none
structure St (n:Nat) (E:List (Nat×Value)) (h:Heap) (w0:World) (a:Act) (w:World):Prop where
 size:a.tmps.size=n
 at_:∀t v,lk E t=some v→a.tmps[t]?=some v
 defers:a.defers=[]
 heap:w.heap=h
 rest:Rest w0 w
theorem St.ev {n E h w0 a w} (S:St n E h w0 a w) {x:Operand} {v:Value} (hx:evo E x=some v):a.eval x=v:=by
 cases x with
 | tmp t=>simp[Act.eval,Array.getD_eq_getD_getElem?,S.at_ t v hx]
 | const u=>simpa [evo,Act.eval] using hx
 | global g=>simpa [evo,Act.eval] using hx
 | func f=>simpa [evo,Act.eval] using hx
theorem St.evl {n E h w0 a w} (S:St n E h w0 a w):∀ {xs:List Operand} {vs:List Value},evs E xs=some vs→xs.map a.eval=vs
 | [],vs,hx=>by simp[evs] at hx;simp[hx]
 | x :: xs,vs,hx=>by
  simp only[evs] at hx
  split at hx
  ·rename_i v us h1 h2
   simp at hx
   subst hx
   simp[S.ev h1,S.evl h2]
  ·simp at hx
theorem St.put {n E h w0 a w} (S:St n E h w0 a w) {d:Nat} (hd:d<n) (v:Value) {w':World} {h':Heap} (hh:w'.heap=h') (hr:Rest w w') :
  St n ((d,v) :: E) h' w0 (a.put (some d) v) w':=by
 refine⟨by simp[Act.put,S.size],fun t u ht=>?_,S.defers,hh,S.rest.trans hr⟩
 simp only[lk] at ht
 by_cases hdt:d=t
 ·subst hdt
  have:Nat.beq d d=true:=Nat.beq_refl d
  simp only[this,cond_true,Option.some.injEq] at ht
  subst ht
  simp[Act.put,S.size,hd]
 ·have:Nat.beq d t=false:=by cases hb:Nat.beq d t with|false=>rfl|true=>exact absurd (Nat.eq_of_beq_eq_true hb) hdt
  simp only[this,cond_false] at ht
  simp only[Act.put]
  rw[Array.getElem?_setIfInBounds_ne hdt]
  exact S.at_ t u ht
theorem St.put_none {n E h w0 a w} (S:St n E h w0 a w) (v:Value) {w':World} {h':Heap} (hh:w'.heap=h') (hr:Rest w w') :
  St n E h' w0 (a.put none v) w':=⟨S.size,S.at_,S.defers,hh,S.rest.trans hr⟩
def SubL (E:List (Nat×Value)):List (Nat×Value)→Prop
 | []=>True
 | (t,v) :: r=>lk E t=some v∧SubL E r
theorem St.sub {n E h w0 a w} (S:St n E h w0 a w) (E':List (Nat×Value)) (hs:SubL E E'):St n E' h w0 a w:=by
 refine⟨S.size,fun t v ht=>?_,S.defers,S.heap,S.rest⟩
 refine S.at_ t v ?_
 induction E' with
 | nil=>simp[lk] at ht
 | cons p r ih=>
  obtain⟨s,u⟩:=p
  simp only[SubL] at hs
  simp only[lk] at ht
  cases hb:Nat.beq s t with
  | true=>
   simp only[hb,cond_true,Option.some.injEq] at ht
   have:=Nat.eq_of_beq_eq_true hb
   subst this;subst ht
   exact hs.1
  | false=>
   simp only[hb,cond_false] at ht
   exact ih hs.2 ht
theorem St.hd {n E h w0 a w d v v'} (S:St n ((d,v) :: E) h w0 a w) (e:v=v'):St n ((d,v') :: E) h w0 a w:=e ▸ S
def Qx (N:Act→World→Prop) (X:Nat→Act→World→Prop) (R:Act→World→Prop):Exit→Act→World→Prop
 | .normal,a,w=>N a w
 | .exit i,a,w=>X i a w
 | .ret,a,w=>R a w
 | _,_,_=>False
def W (P:Program) (c:Code) (N:Act→World→Prop) (X:Nat→Act→World→Prop) (R:Act→World→Prop) (a:Act) (w:World):Prop:=
 c.wp P (Qx N X R) a w
def xput (id:Nat) (N:Act→World→Prop) (X:Nat→Act→World→Prop):Nat→Act→World→Prop:=
 fun i a w=>if i=id then N a w else X i a w
section
variable {P:Program} {N:Act→World→Prop} {X:Nat→Act→World→Prop} {R:Act→World→Prop} {a:Act} {w:World}
theorem W.skip (h:N a w):W P .skip N X R a w:=wp_skip h
theorem W.ret (h:R a w):W P .ret N X R a w:=wp_ret h
theorem W.exit_ {id:Nat} (h:X id a w):W P (.exit id) N X R a w:=wp_exit h
theorem xhit {id:Nat} (h:N a w):xput id N X id a w:=by simp[xput,h]
theorem W.seq {c d:Code} (h:W P c (W P d N X R) X R a w):W P (.seq c d) N X R a w:=by
 refine wp_seq (wp_mono (Q:=Qx (W P d N X R) X R) h ?_)
 intro e a w he
 cases e<;>exact he
theorem W.mono {c:Code} {N':Act→World→Prop} (h:W P c N' X R a w) (hn:∀a w,N' a w→N a w):W P c N X R a w:=by
 refine wp_mono (Q:=Qx N' X R) h ?_
 intro e a w he
 cases e<;>first|exact hn _ _ he|exact he
theorem W.seqJ {c d:Code} (M:Act→World→Prop) (h:W P c M X R a w) (hm:∀a w,M a w→W P d N X R a w):W P (.seq c d) N X R a w:=
 .seq (h.mono hm)
theorem W.block {id:Nat} {c:Code} (h:W P c N (xput id N X) R a w):W P (.block id c) N X R a w:=by
 refine wp_block (wp_mono (Q:=Qx N (xput id N X) R) h ?_)
 intro e a w he
 cases e<;>exact he
theorem W.loop {c:Code} (I:Act→World→Prop) (μ:Act→World→Nat) (h0:I a w)
  (round:∀a w,I a w→W P c (fun a' w'=>I a' w'∧μ a' w'<μ a w) X R a w):W P (.loop c) N X R a w:=by
 refine wp_loop I μ h0 fun a w hI=>wp_mono (Q:=Qx (fun a' w'=>I a' w'∧μ a' w'<μ a w) X R) (round a w hI) ?_
 intro e a w he
 cases e<;>exact he
theorem W.loopS {c:Code} {σ:Type} (T:σ→Act→World→Prop) (μ:σ→Nat) (s0:σ) (h0:T s0 a w)
  (round:∀s a w,T s a w→W P c (fun a' w'=>∃s',T s' a' w'∧μ s'<μ s) X R a w):W P (.loop c) N X R a w:=by
 intro b k cs
 have key:∀n s a w,μ s=n→T s a w →
   ∃e a' w',Qx N X R e a' w'∧Arrives P (lone (b.at a (.code c :: .inLoop c :: k)) cs w) b k cs e a' w':=by
  intro n
  induction n using Nat.strongRecOn with
  | _ n ih=>
   intro s a w hn hT
   obtain⟨e,a₁,w₁,hq,harr⟩:=round s a w hT b (.inLoop c :: k) cs
   cases e with
   | normal=>
    obtain⟨s',t',hlt⟩:=hq
    obtain⟨e₂,a₂,w₂,hq₂,harr₂⟩:=ih (μ s') (hn ▸ hlt) s' a₁ w₁ rfl t'
    exact⟨e₂,a₂,w₂,hq₂,.of_steps (Steps.trans harr (.one step_inLoop)) harr₂⟩
   | exit id=>exact⟨.exit id,a₁,w₁,hq,.pass (x:=.inLoop c) rfl (fun _ _=>.inl (by simp)) harr⟩
   | goto l=>exact hq.elim
   | ret=>exact⟨.ret,a₁,w₁,hq,.pass (x:=.inLoop c) rfl (fun _ _=>.inl (by simp)) harr⟩
   | panic ch=>exact hq.elim
   | outgrown=>exact hq.elim
 obtain⟨e,a',w',hq,harr⟩:=key _ s0 a w rfl h0
 exact⟨e,a',w',hq,.of_steps (.one step_loop) harr⟩
theorem W.cond {n E h w0} (S:St n E h w0 a w) {c:Operand} {x y:Code} {b:Bool} (hc:evo E c=some (.bool b))
  (ht:b=true→W P x N X R a w) (hf:b=false→W P y N X R a w):W P (.cond c x y) N X R a w:=
 wp_cond_split (S.ev hc) ht hf
end
def OL (P:Program) (ops:Array Oper) (N:Act→World→Prop) (l:List Oper) (a:Act) (w:World):Prop:=
 ∀X R,wpList P ops (Qx N X R) l a w
def GOk (ops:Array Oper) (E:List (Nat×Value)):Option (Nat×Bool)→Prop
 | none=>True
 | some (j,want)=>∃t,(ops[j]?).bind (·.dst)=some t∧lk E t=some (.bool want)
def GNo (ops:Array Oper) (E:List (Nat×Value)):Option (Nat×Bool)→Prop
 | none=>False
 | some (j,want)=>∃t,(ops[j]?).bind (·.dst)=some t∧(lk E t=some (.bool (!want))∨lk E t=some undef)
section
variable {P:Program} {N:Act→World→Prop} {X:Nat→Act→World→Prop} {R:Act→World→Prop} {a:Act} {w:World}
variable {ops:Array Oper} {rest:List Oper} {o:Oper} {n:Nat} {E:List (Nat×Value)} {h h':Heap} {w0 w':World}
theorem St.wanted (S:St n E h w0 a w) (g:GOk ops E o.guard):Region.wanted o (yielded ops a.tmps)=true:=by
 unfold Region.wanted
 cases hg:o.guard with
 | none=>rfl
 | some p=>
  obtain⟨j,want⟩:=p
  rw[hg] at g
  obtain⟨t,ht,hl⟩:=g
  simp[yielded,ht,S.at_ t _ hl]
theorem St.unwanted (S:St n E h w0 a w) (g:GNo ops E o.guard):Region.wanted o (yielded ops a.tmps)=false:=by
 unfold Region.wanted
 cases hg:o.guard with
 | none=>rw[hg] at g;exact g.elim
 | some p=>
  obtain⟨j,want⟩:=p
  rw[hg] at g
  obtain⟨t,ht,hl⟩:=g
  rcases hl with hl|hl
  ·simp[yielded,ht,S.at_ t _ hl]
  ·simp[yielded,ht,S.at_ t _ hl,undef]
theorem W.region {id:Nat} {l:List Oper} (hh:OL P l.toArray N l a w):W P (.region id l.toArray false) N X R a w:=
 wp_region_lit (hh X R)
theorem OL.nil (hh:N a w):OL P ops N [] a w:=fun _ _=>hh
theorem OL.val {v:Value} {d:Nat} (S:St n E h w0 a w) (r:(execOp a.eval o).run P w=.ok (.value v) w') (hd:o.dst=some d) (hn:Nat.blt d n=true)
  (hh:w'.heap=h') (hR:Rest w w') (g:GOk ops E o.guard)
  (k:∀a',St n ((d,v) :: E) h' w0 a' w'→OL P ops N rest a' w'):OL P ops N (o :: rest) a w:=by
 intro X R
 unfold wpList
 rw[if_pos (S.wanted g)]
 refine .inl ?_
 unfold Oper.wp
 rw[r]
 simp only[Oper.upon,hd]
 exact k _ (S.put (by simpa [Nat.blt_eq] using hn) v hh hR) X R
theorem OL.not {d:Nat} (S:St n E h w0 a w) (hd:o.dst=some d) (hn:Nat.blt d n=true) (g:GNo ops E o.guard)
  (k:∀a',St n ((d,undef) :: E) h w0 a' w→OL P ops N rest a' w):OL P ops N (o :: rest) a w:=by
 intro X R
 unfold wpList
 rw[if_neg (by simp[S.unwanted g]),hd]
 exact k _ (S.put (by simpa [Nat.blt_eq] using hn) undef S.heap (Rest.refl w)) X R
theorem OL.eff (S:St n E h w0 a w) (r:(execOp a.eval o).run P w=.ok .skip w') (hd:o.dst=none)
  (hh:w'.heap=h') (hR:Rest w w') (g:GOk ops E o.guard)
  (k:∀a',St n E h' w0 a' w'→OL P ops N rest a' w'):OL P ops N (o :: rest) a w:=by
 intro X R
 unfold wpList
 rw[if_pos (S.wanted g)]
 refine .inl ?_
 unfold Oper.wp
 rw[r]
 simp only[Oper.upon,hd]
 exact k _ (S.put_none undef hh hR) X R
theorem OL.call {f:FuncId} {args:Array Value} {J:Value→Heap→Prop} {d:Nat} (S:St n E h w0 a w) (r:(execOp a.eval o).run P w=.ok (.enter f args) w)
  (hd:o.dst=some d) (hn:Nat.blt d n=true) (g:GOk ops E o.guard) (c:CallsH P f args h J)
  (k:∀v h' a' w',J v h'→St n ((d,v) :: E) h' w0 a' w'→OL P ops N rest a' w'):OL P ops N (o :: rest) a w:=by
 intro X R
 unfold wpList
 rw[if_pos (S.wanted g)]
 refine .inl ?_
 unfold Oper.wp
 rw[r]
 simp only[Oper.upon]
 refine (c w S.heap).mono ?_
 rintro e w' ⟨v,rfl,hJ,hR⟩
 rw[hd]
 exact k v _ _ _ hJ (S.put (by simpa [Nat.blt_eq] using hn) v rfl hR) X R
theorem wpList_mono {Q Q':Exit→Act→World→Prop} (hq:∀e a w,Q e a w→Q' e a w):∀ {l:List Oper} {a:Act} {w:World},wpList P ops Q l a w→wpList P ops Q' l a w
 | [],_,_,hh=>hq _ _ _ hh
 | o :: rest,a,w,hh=>by
  unfold wpList at *
  split
  ·rename_i hw
   rw[if_pos hw] at hh
   rcases hh with hh|⟨h1,a1,w1,h2⟩
   ·refine .inl ?_
    unfold Oper.wp at *
    generalize (execOp a.eval o).run P w=r at *
    cases r with
    | ok x w'=>
     cases x<;>simp only[Oper.upon] at hh ⊢
     case value=>exact wpList_mono hq hh
     case skip=>exact wpList_mono hq hh
     case defer=>exact wpList_mono hq hh
     case enter=>
      refine hh.mono ?_
      rintro e w'' he
      cases e with
      | returned v=>exact wpList_mono hq he
      | panicked c=>exact hq _ _ _ he
      | outgrown=>obtain⟨a1,w1,h2⟩:=he;exact⟨a1,w1,hq _ _ _ h2⟩
     case row=>exact hh.mono fun v w'' he=>wpList_mono hq he
    | halt x w'=>cases x<;>simp only[Oper.upon] at hh ⊢<;>exact hq _ _ _ hh
   ·exact .inr ⟨h1,a1,w1,hq _ _ _ h2⟩
  ·rename_i hw
   rw[if_neg hw] at hh
   exact wpList_mono hq hh
theorem wpList_append {Q:Exit→Act→World→Prop} {l2:List Oper}:∀ {l1:List Oper} {a:Act} {w:World},
  wpList P ops (Exit.then (fun a w=>wpList P ops Q l2 a w) Q) l1 a w→wpList P ops Q (l1++l2) a w
 | [],_,_,hh=>hh
 | o :: rest,a,w,hh=>by
  simp only[List.cons_append]
  unfold wpList at *
  split
  ·rename_i hw
   rw[if_pos hw] at hh
   rcases hh with hh|⟨h1,a1,w1,h2⟩
   ·refine .inl ?_
    unfold Oper.wp at *
    generalize (execOp a.eval o).run P w=r at *
    cases r with
    | ok x w'=>
     cases x<;>simp only[Oper.upon] at hh ⊢
     case value=>exact wpList_append hh
     case skip=>exact wpList_append hh
     case defer=>exact wpList_append hh
     case enter=>
      refine hh.mono ?_
      rintro e w'' he
      cases e with
      | returned v=>exact wpList_append he
      | panicked c=>exact he
      | outgrown=>exact he
     case row=>exact hh.mono fun v w'' he=>wpList_append he
    | halt x w'=>cases x<;>simp only[Oper.upon] at hh ⊢<;>exact hh
   ·exact .inr ⟨h1,a1,w1,h2⟩
  ·rename_i hw
   rw[if_neg hw] at hh
   exact wpList_append hh
theorem OL.cut {l1 l2:List Oper} (M:Act→World→Prop) (h1:OL P ops M l1 a w) (h2:∀a w,M a w→OL P ops N l2 a w):OL P ops N (l1++l2) a w:=by
 intro X R
 refine wpList_append (wpList_mono ?_ (h1 X R))
 intro e a w he
 cases e<;>first|exact h2 _ _ he X R|exact he
end
end Go.Lf
namespace Go.Lf
open Go
def flatT (P:Program) (t:TypeId):Bool:=
 match P.underlying t with
 | some (.struct _)|some (.array _ _)|none=>false
 | _=>true
def aggT (P:Program) (t:TypeId):Bool:=
 match P.underlying t with
 | some (.struct _)|some (.array _ _)=>true
 | _=>false
def tinfo (P:Program) (t:TypeId):Option (Option Value×Nat×Nat):=(P.info? t).map fun i=>(i.zero,i.size,i.bytes)
def fieldT (P:Program) (s:TypeId) (i:Nat):Option Nat:=
 match P.underlying s with
 | some (.struct fs)=>match fs[i]? with
  | some f=>match P.info? f.type with
   | some j=>if j.size=0 then none else some f.offset
   | none=>none
  | none=>none
 | _=>none
section
variable {P:Program} {a:Act} {w:World} {d:Option Tmp} {ty:TypeId} {ps:String} {af:Array Edge} {g:Option (Nat×Bool)}
variable {x y z:Operand} {v u:Value} {t:TypeId} {k:IntKind} {m n:Int} {p:Addr}
theorem run_move (hx:a.eval x=v):(execOp a.eval ⟨d,.move x,ty,ps,af,g⟩).run P w=.ok (.value v) w:=by simp[execOp,hx]
theorem run_assign (hx:a.eval x=v):(execOp a.eval ⟨d,.assign x,ty,ps,af,g⟩).run P w=.ok (.value v) w:=by simp[execOp,hx]
theorem run_pick {b:Bool} (hc:a.eval z=.bool b) (h:a.eval (if b then x else y)=v):(execOp a.eval ⟨d,.pick z x y,ty,ps,af,g⟩).run P w=.ok (.value v) w:=by
 cases b<;>simp_all [execOp,asBool]
theorem flat_isAgg (ht:flatT P t=true):(isAgg t).run P w=.ok false w:=by
 unfold flatT at ht
 unfold isAgg underlying
 simp only[Sem.run_bind,run_program,Result.andThen_ok]
 cases hu:P.underlying t with
 | none=>simp[hu] at ht
 | some d=>cases d<;>simp_all
theorem agg_isAgg (ht:aggT P t=true):(isAgg t).run P w=.ok true w:=by
 unfold aggT at ht
 unfold isAgg underlying
 simp only[Sem.run_bind,run_program,Result.andThen_ok]
 cases hu:P.underlying t with
 | none=>simp[hu] at ht
 | some d=>cases d<;>simp_all
theorem tinfo_run {z:Option Value} {s b:Nat} (h:tinfo P t=some (z,s,b)):∃i,P.info? t=some i∧i.zero=z∧i.size=s∧i.bytes=b:=by
 unfold tinfo at h
 cases hi:P.info? t with
 | none=>simp[hi] at h
 | some i=>simp[hi] at h;exact⟨i,rfl,h⟩
theorem sizeOf_run {z:Option Value} {s b:Nat} (h:tinfo P t=some (z,s,b)):(sizeOf t).run P w=.ok s w:=by
 obtain⟨i,hi,_,hs,_⟩:=tinfo_run h
 simp[sizeOf,typeInfo,hi,hs]
theorem zeroValue_run {z:Value} {s b:Nat} (h:tinfo P t=some (some z,s,b)):(zeroValue t).run P w=.ok z w:=by
 obtain⟨i,hi,hz,_,_⟩:=tinfo_run h
 simp[zeroValue,typeInfo,hi,hz]
theorem underlying_run {td:TypeDesc} (h:P.underlying t=some td):(underlying t).run P w=.ok td w:=by
 simp[underlying,h]
theorem run_ld (hx:a.eval x=.pointer (some p)) (ht:flatT P t=true) (hc:cl w.heap p=some v) :
  (execOp a.eval ⟨d,.load t x,ty,ps,af,g⟩).run P w=.ok (.value v) w:=by
 have hc':w.cell? p=some v:=hc
 simp[execOp,hx,Instr.loadAt,Instr.sureAddr,loadVar,flat_isAgg ht,hc']
def Row (h:Heap) (p:Addr) (cs:List Value):Prop:=∀j v,cs[j]?=some v→cl h (p.add j)=some v
theorem run_ldA {cs:List Value} {zz:Option Value} {b:Nat} (hx:a.eval x=.pointer (some p)) (ht:aggT P t=true) (hs:tinfo P t=some (zz,cs.length,b)) (hc:Row w.heap p cs) :
  (execOp a.eval ⟨d,.load t x,ty,ps,af,g⟩).run P w=.ok (.value (.agg cs.toArray)) w:=by
 have:=run_loadCells_list (P:=P) (w:=w) p cs hc
 simp[execOp,hx,Instr.loadAt,Instr.sureAddr,loadVar,agg_isAgg ht,sizeOf_run hs,this]
theorem run_st {z':Option Value} {b:Nat} (hx:a.eval x=.pointer (some p)) (hy:a.eval y=v) (h1:v.oneCell'=true) (hs:tinfo P t=some (z',1,b))
  (hc:(cl w.heap p).isSome=true) (hf:fz w.heap p=false) :
  (execOp a.eval ⟨d,.store t x y,ty,ps,af,g⟩).run P w=.ok .skip (w.setCell p v):=by
 obtain⟨u,hu⟩:=Option.isSome_iff_exists.1 hc
 have hu':w.cell? p=some u:=hu
 have hf':w.frozen? p=false:=hf
 have hcells:v.cells=#[v]:=by cases v<;>simp_all [Value.cells,Value.oneCell']
 simp[execOp,hx,hy,Instr.storeAt,Instr.sureAddr,storeVar,sizeOf_run hs,hcells,storeCells,Addr.add,run_store _ _ _ _ _ h1,hu',hf']
def scs (h:Heap) (p:Addr):List Value→Nat→Heap
 | [],_=>h
 | v :: vs,i=>scs (sc h (p.add i) v) p vs (i+1)
def Free (h:Heap) (p:Addr) (m:Nat):Prop:=∀j,j<m→(cl h (p.add j)).isSome=true∧fz h (p.add j)=false
theorem isSome_set (c:Array Value) (i j:Nat) (v:Value):(c.setIfInBounds i v)[j]?.isSome=c[j]?.isSome:=by
 rw[Array.getElem?_setIfInBounds]
 split
 ·rename_i e
  subst e
  by_cases hl:i<c.size<;>simp[hl]
 ·rfl
theorem sc_shape (h:Heap) (q:Addr) (v:Value) (p:Addr):(cl (sc h q v) p).isSome=(cl h p).isSome∧fz (sc h q v) p=fz h p:=by
 unfold cl fz
 rw[sc_get]
 by_cases e:q.block=p.block
 ·rw[if_pos e]
  cases hh:h[p.block]? with
  | none=>simp
  | some o=>
   cases o<;>simp[putC]
   by_cases hs:q.spot.isSome<;>by_cases hp:p.spot.isSome<;>simp[hs,hp,isSome_set]
 ·simp[e]
theorem storeCells_run {vs:List Value}:∀ {i:Nat} {w:World} (_h1:∀v∈vs,v.oneCell'=true) (_hf:∀j,j<vs.length→(cl w.heap (p.add (i+j))).isSome=true∧fz w.heap (p.add (i+j))=false),
  ∃w',(storeCells p vs i).run P w=.ok () w'∧w'.heap=scs w.heap p vs i∧Rest w w':=by
 induction vs with
 | nil=>intro i w _ _;exact⟨w,rfl,rfl,Rest.refl w⟩
 | cons v vs ih=>
  intro i w h1 hf
  have h0:=hf 0 (by simp)
  simp only[Nat.add_zero] at h0
  obtain⟨u,hu⟩:=Option.isSome_iff_exists.1 h0.1
  have hu':w.cell? (p.add i)=some u:=hu
  have hf':w.frozen? (p.add i)=false:=h0.2
  obtain⟨w',r,e,t⟩:=ih (i:=i+1) (w:=w.setCell (p.add i) v) (fun v' hv'=>h1 v' (List.mem_cons_of_mem _ hv')) (fun j hj=>by
   have:=hf (j+1) (by simp;omega)
   have hs:=sc_shape w.heap (p.add i) v (p.add (i+1+j))
   rw[setCell_heap,hs.1,hs.2]
   rw[show i+1+j=i+(j+1) by omega]
   exact this)
  refine⟨w',?_,e,⟨t.os,t.tape,t.output⟩⟩
  simp[storeCells,run_store _ _ _ _ _ (h1 v (by simp)),hu',hf',r]
theorem run_stA {cs:List Value} {z':Option Value} {b:Nat} (hx:a.eval x=.pointer (some p)) (hy:a.eval y=.agg cs.toArray) (h1:∀v∈cs,v.oneCell'=true) (hs:tinfo P t=some (z',cs.length,b))
  (hf:Free w.heap p cs.length) :
  ∃w',(execOp a.eval ⟨d,.store t x y,ty,ps,af,g⟩).run P w=.ok .skip w'∧w'.heap=scs w.heap p cs 0∧Rest w w':=by
 obtain⟨w',r,e,t⟩:=storeCells_run (P:=P) (p:=p) (vs:=cs) (i:=0) (w:=w) h1 (fun j hj=>by rw[Nat.zero_add];exact hf j hj)
 exact⟨w',by simp[execOp,hx,hy,Instr.storeAt,Instr.sureAddr,storeVar,sizeOf_run hs,Value.cells,r],e,t⟩
theorem run_fa {i off:Nat} (hx:a.eval x=.pointer (some p)) (hf:fieldT P t i=some off) :
  (execOp a.eval ⟨d,.fieldAddr t x i,ty,ps,af,g⟩).run P w=.ok (.value (.pointer (some (p.add off)))) w:=by
 unfold fieldT at hf
 split at hf
 ·rename_i fs hu
  split at hf
  ·rename_i f hfi
   split at hf
   ·rename_i j hj
    split at hf
    ·cases hf
    ·rename_i hz
     simp only[Option.some.injEq] at hf
     subst hf
     simp[execOp,hx,Instr.fieldAt,underlying_run hu,hfi,Instr.sureAddr,fieldPlace,sizeOf,typeInfo,hj,hz]
   ·cases hf
  ·cases hf
 ·cases hf
theorem run_ixs {s:Option Addr} {len c:Nat} {e:TypeId} {sz b:Nat} {z':Option Value} (hx:a.eval x=.slice s len c) (hy:a.eval y=.int k m) (hu:P.underlying t=some (.slice e)) (hs:tinfo P e=some (z',sz,b))
  (hp:s=some p) (h0:0≤m) (h1:m<len) :
  (execOp a.eval ⟨d,.indexAddr t x y,ty,ps,af,g⟩).run P w=.ok (.value (.pointer (some (p.add (m.toNat*sz))))) w:=by
 subst hp
 simp[execOp,hx,hy,Instr.indexAt,asIntOf,underlying_run hu,h0,h1,sizeOf_run hs]
theorem run_nc (hx:a.eval x=.pointer (some p)):(execOp a.eval ⟨d,.nilCheck x,ty,ps,af,g⟩).run P w=.ok (.value (.pointer (some p))) w:=by
 simp[execOp,hx]
theorem run_ex {vs:Array Value} {i:Nat} (hx:a.eval x=.tuple vs) (hv:vs[i]?=some v):(execOp a.eval ⟨d,.extract x i,ty,ps,af,g⟩).run P w=.ok (.value v) w:=by
 simp[execOp,hx,Instr.extract,hv]
theorem run_add {u'} (hx:a.eval x=.int k m) (hy:a.eval y=.int k n):(execOp a.eval ⟨d,.binOp .add t x y u',ty,ps,af,g⟩).run P w=.ok (.value (.int k (k.wrap (m+n)))) w:=by
 simp[execOp,hx,hy,eqGuard,binOp,Op.intArith]
theorem run_sub {u'} (hx:a.eval x=.int k m) (hy:a.eval y=.int k n):(execOp a.eval ⟨d,.binOp .sub t x y u',ty,ps,af,g⟩).run P w=.ok (.value (.int k (k.wrap (m - n)))) w:=by
 simp[execOp,hx,hy,eqGuard,binOp,Op.intArith]
theorem run_rem {u'} (hx:a.eval x=.int k m) (hy:a.eval y=.int k n) (h0:n≠0):(execOp a.eval ⟨d,.binOp .rem t x y u',ty,ps,af,g⟩).run P w=.ok (.value (.int k (m.tmod n))) w:=by
 simp[execOp,hx,hy,eqGuard,binOp,Op.intDiv,h0]
theorem run_eql {u'} (hx:a.eval x=.int k m) (hy:a.eval y=.int k n):(execOp a.eval ⟨d,.binOp .eql t x y u',ty,ps,af,g⟩).run P w=.ok (.value (.bool (m == n))) w:=by
 simp[execOp,hx,hy,eqGuard,binOp,Op.intCmp]
theorem run_neq {u'} (hx:a.eval x=.int k m) (hy:a.eval y=.int k n):(execOp a.eval ⟨d,.binOp .neq t x y u',ty,ps,af,g⟩).run P w=.ok (.value (.bool (m != n))) w:=by
 simp[execOp,hx,hy,eqGuard,binOp,Op.intCmp]
theorem run_lss {u'} (hx:a.eval x=.int k m) (hy:a.eval y=.int k n):(execOp a.eval ⟨d,.binOp .lss t x y u',ty,ps,af,g⟩).run P w=.ok (.value (.bool (decide (m<n)))) w:=by
 simp[execOp,hx,hy,eqGuard,binOp,Op.intCmp]
theorem run_leq {u'} (hx:a.eval x=.int k m) (hy:a.eval y=.int k n):(execOp a.eval ⟨d,.binOp .leq t x y u',ty,ps,af,g⟩).run P w=.ok (.value (.bool (decide (m≤n)))) w:=by
 simp[execOp,hx,hy,eqGuard,binOp,Op.intCmp]
theorem run_gtr {u'} (hx:a.eval x=.int k m) (hy:a.eval y=.int k n):(execOp a.eval ⟨d,.binOp .gtr t x y u',ty,ps,af,g⟩).run P w=.ok (.value (.bool (decide (n<m)))) w:=by
 simp[execOp,hx,hy,eqGuard,binOp,Op.intCmp]
theorem run_geq {u'} (hx:a.eval x=.int k m) (hy:a.eval y=.int k n):(execOp a.eval ⟨d,.binOp .geq t x y u',ty,ps,af,g⟩).run P w=.ok (.value (.bool (decide (n≤m)))) w:=by
 simp[execOp,hx,hy,eqGuard,binOp,Op.intCmp]
theorem equalIn_bool {b c:Bool} (ht:P.underlying t=some .bool):(Op.equal t (.bool b) (.bool c)).run P w=.ok (b == c) w:=by
 show (Op.equalIn (9999+1) t _ _).run P w=_
 rw[Op.equalIn]
 simp[underlying_run ht]
theorem run_eqlb {b c:Bool} {u'} (ht:P.underlying t=some .bool) (hx:a.eval x=.bool b) (hy:a.eval y=.bool c):(execOp a.eval ⟨d,.binOp .eql t x y u',ty,ps,af,g⟩).run P w=.ok (.value (.bool (b == c))) w:=by
 simp[execOp,hx,hy,eqGuard,binOp,equalIn_bool ht]
theorem equalIn_pnil {e:TypeId} {q:Option Addr} (ht:P.underlying t=some (.pointer e)):(Op.equal t (.pointer q) (.pointer none)).run P w=.ok (q.isNone) w:=by
 show (Op.equalIn (9999+1) t _ _).run P w=_
 rw[Op.equalIn]
 cases q<;>simp[underlying_run ht]
theorem run_eqlpn {e:TypeId} {q:Option Addr} {u'} (ht:P.underlying t=some (.pointer e)) (hx:a.eval x=.pointer q) (hy:a.eval y=.pointer none):(execOp a.eval ⟨d,.binOp .eql t x y u',ty,ps,af,g⟩).run P w=.ok (.value (.bool q.isNone)) w:=by
 simp[execOp,hx,hy,eqGuard,binOp,equalIn_pnil ht]
theorem run_not {b:Bool} (hx:a.eval x=.bool b):(execOp a.eval ⟨d,.unOp .not t x,ty,ps,af,g⟩).run P w=.ok (.value (.bool !b)) w:=by simp[execOp,hx,Op.unary]
theorem run_cvi {src dst:TypeId} {sd:TypeDesc} {k':IntKind} (hs:P.underlying src=some sd) (hd:P.underlying dst=some (.int k')) (hx:a.eval x=.int k m) :
  (execOp a.eval ⟨d,.convert src dst x,ty,ps,af,g⟩).run P w=.ok (.value (.int k' (k'.wrap m))) w:=by
 simp[execOp,hx,convert,underlying_run hs,underlying_run hd,Conv.intToInt]
theorem run_lens {s:Option Addr} {len c:Nat} {e:TypeId} {ats:Array TypeId} (hx:a.eval x=.slice s len c) (ha:ats[0]?=some t) (hu:P.underlying t=some (.slice e)) :
  (execOp a.eval ⟨d,.call { callee:=.builtin .len,args:=#[x],argTypes:=ats },ty,ps,af,g⟩).run P w=.ok (.value (.int .i64 len)) w:=by
 simp[execOp,resolve,invoke,builtin,Builtin.len_,hx,ha,underlying_run hu,goInt]
theorem run_lent {s:ByteArray} {ats:Array TypeId} (hx:a.eval x=.string s) (ha:ats[0]?=some t) (hu:P.underlying t=some .string) :
  (execOp a.eval ⟨d,.call { callee:=.builtin .len,args:=#[x],argTypes:=ats },ty,ps,af,g⟩).run P w=.ok (.value (.int .i64 s.size)) w:=by
 simp[execOp,resolve,invoke,builtin,Builtin.len_,hx,ha,underlying_run hu,goInt]
structure IsFn (P:Program) (f:FuncId):Prop where
 ex:∃fn,P.funcs[f]?=some fn∧fn.body.isNone=false∧(fn.name == "runtime.NumGoroutine")=false
theorem run_call {f:FuncId} {args:Array Operand} {vs:Array Value} {ats:Array TypeId} (hf:IsFn P f) (ha:args.map a.eval=vs) :
  (execOp a.eval ⟨d,.call { callee:=.value (.func f),args:=args,argTypes:=ats },ty,ps,af,g⟩).run P w=.ok (.enter f vs) w:=by
 obtain⟨fn,h1,h2,h3⟩:=hf.ex
 have h3':¬fn.name = "runtime.NumGoroutine":=by simpa using h3
 have h2':¬fn.body=none:=fun e=>by rw[e] at h2;cases h2
 simp[execOp,resolve,ha,Act.eval,Deferred.ofValue,invoke,callFunc,h1,h2',h3']
theorem run_box {e:TypeId} (hx:a.eval x=v) :
  (execOp a.eval ⟨d,.box e x,ty,ps,af,g⟩).run P w=.ok (.value (.pointer (some ⟨w.heap.size,0,none⟩))) { w with heap:=w.heap.push (.cells v.cells e) }:=by
 simp[execOp,hx,Instr.box,newVar,newRow]
end
end Go.Lf
namespace Go.Lf
open Go
section
variable {P:Program} {a:Act} {w:World} {d:Option Tmp} {ty:TypeId} {ps:String} {af:Array Edge} {g:Option (Nat×Bool)}
variable {x y z:Operand} {v u:Value} {t:TypeId} {k:IntKind} {m n:Int} {p:Addr}
def placesL (P:Program):List Field→Option (List (Nat×Nat))
 | []=>some []
 | f :: fs=>match P.info? f.type,placesL P fs with
  | some i,some r=>some ((f.offset,i.size) :: r)
  | _,_=>none
def placesT (P:Program) (t:TypeId):Option (List (Nat×Nat)):=
 match P.underlying t with
 | some (.struct fs)=>placesL P fs.toList
 | _=>none
theorem places_run (w:World):∀ {fs:List Field} {r:List (Nat×Nat)},placesL P fs=some r→(fs.mapM fun f=>do pure (f.offset,←sizeOf f.type):Sem _).run P w=.ok r w
 | [],r,h=>by simp[placesL] at h;simp[h]
 | f :: fs,r,h=>by
  simp only[placesL] at h
  split at h
  ·rename_i i r' hi hr
   simp only[Option.some.injEq] at h
   subst h
   have:=places_run w hr
   simp[sizeOf,typeInfo,hi] at this ⊢
   simp[this]
  ·cases h
theorem run_build {zv:Value} {s b:Nat} {pl:List (Nat×Nat)} {parts:Array (Nat×Operand)} {vs:List (Nat×Value)} {cs:Array Value}
  (hp:placesT P t=some pl) (hz:tinfo P t=some (some zv,s,b)) (hv:(parts.map fun (i,x)=>(i,a.eval x)).toList=vs)
  (hf:Instr.fill (pl.toArray[·]?) zv.cells vs=some cs) :
  (execOp a.eval ⟨d,.build t parts,ty,ps,af,g⟩).run P w=.ok (.value (.agg cs)) w:=by
 unfold placesT at hp
 split at hp
 ·rename_i fs hu
  have hm:=places_run w hp
  have hm':(fs.mapM fun f=>do pure (f.offset,←sizeOf f.type):Sem _).run P w=.ok pl.toArray w:=by
   rw[Array.mapM_eq_mapM_toList,Sem.run_map,hm]
   rfl
  have hv':(parts.map fun (i,x)=>(i,a.eval x))=vs.toArray:=by rw[←hv]
  simp only[execOp,Instr.build,Sem.run_bind,zeroValue_run hz,underlying_run hu,Result.andThen_ok,hm',hv',hf,Sem.run_pure]
 ·cases hp
theorem run_buildSlice {zv:Value} {s b len:Nat} {e:TypeId} {parts:Array (Nat×Operand)} {vs:List (Nat×Value)} {cs:Array Value}
  (hu:P.underlying t=some (.slice e)) (hz:tinfo P e=some (some zv,s,b)) (hl:¬len*s>2 ^ 24) (hv:(parts.map fun (i,x)=>(i,a.eval x)).toList=vs)
  (hf:Instr.fill (fun i=>some (i*s,s)) ((Array.range (len*s)).map (zv.cells[· % zv.cells.size]!)) vs=some cs) (h0:len*s≠0) :
  (execOp a.eval ⟨d,.buildSlice t len parts,ty,ps,af,g⟩).run P w=.ok (.value (.slice (some ⟨w.heap.size,0,none⟩) len len)) { w with heap:=w.heap.push (.cells cs e) }:=by
 have hv':(parts.map fun (i,x)=>(i,a.eval x))=vs.toArray:=by rw[←hv]
 simp only[execOp,Instr.buildSlice,Sem.run_bind,zeroValue_run hz,underlying_run hu,Result.andThen_ok,sizeOf_run hz,hv',if_neg hl,if_neg h0,hf,Sem.run_pure,Sem.run_ite]
 simp[newRow]
def RowO (h:Heap) (p:Option Addr) (cs:List Value):Prop:=
 match p with
 | none=>cs=[]
 | some p=>Row h p cs
def FreeO (h:Heap) (p:Option Addr) (off m:Nat):Prop:=
 match p with
 | none=>m=0
 | some p=>Free h (p.add off) m
def scsO (h:Heap) (p:Option Addr) (off:Nat) (vs:List Value):Heap:=
 match p with
 | none=>h
 | some p=>scs h (p.add off) vs 0
theorem firstCells_run {q:Option Addr} {len c s m:Nat} {cs:List Value} (hl:cs.length=m*s) (hr:RowO w.heap q cs) :
  (Builtin.firstCells s m (.slice q len c)).run P w=.ok cs.toArray w:=by
 cases q with
 | none=>simp only[RowO] at hr;subst hr;exact run_firstCells_none (P:=P) w s m len c
 | some q=>exact run_firstCells_some (P:=P) w s m q len c cs hl hr
theorem run_app_fits {e:TypeId} {zz:Option Value} {sz by_:Nat} {s xs:Sv} {news:List Value} (hu:P.underlying t=some (.slice e)) (hz:tinfo P e=some (zz,sz,by_))
  (hx:a.eval x=s.v) (hy:a.eval y=xs.v) (hl:news.length=xs.n*sz) (hn:RowO w.heap xs.a news) (h1:∀u∈news,u.oneCell'=true)
  (hroom:s.n+xs.n≤s.c) (hf:FreeO w.heap s.a (s.n*sz) news.length) :
  ∃w',(execOp a.eval ⟨d,.call { callee:=.builtin .append,args:=#[x,y],argTypes:=#[t,t] },ty,ps,af,g⟩).run P w=.ok (.value (.slice s.a (s.n+xs.n) s.c)) w' ∧
   w'.heap=scsO w.heap s.a (s.n*sz) news∧Rest w w':=by
 have hc:=firstCells_run (P:=P) (w:=w) (len:=xs.n) (c:=xs.c) hl hn
 cases hq:s.a with
 | none=>
  refine⟨w,?_,by simp[scsO],Rest.refl w⟩
  simp[execOp,resolve,invoke,builtin,hx,hy,Builtin.append_,underlying_run hu,sizeOf_run hz,Builtin.lenOf,hroom,hc,hq]
 | some q=>
  rw[hq] at hf
  obtain⟨w',r,e1,t1⟩:=storeCells_run (P:=P) (p:=q.add (s.n*sz)) (vs:=news) (i:=0) (w:=w) h1 (fun j hj=>by rw[Nat.zero_add];exact hf j hj)
  refine⟨w',?_,by simpa [scsO] using e1,t1⟩
  simp[execOp,resolve,invoke,builtin,hx,hy,Builtin.append_,underlying_run hu,sizeOf_run hz,Builtin.lenOf,hroom,hc,hq,r]
theorem run_app_grows {e:TypeId} {zv:Value} {sz by_:Nat} {s xs:Sv} {news old:List Value} (hu:P.underlying t=some (.slice e)) (hz:tinfo P e=some (some zv,sz,by_))
  (hx:a.eval x=s.v) (hy:a.eval y=xs.v) (hl:news.length=xs.n*sz) (hn:RowO w.heap xs.a news)
  (hlo:old.length=s.n*sz) (ho:RowO w.heap s.a old) (hroom:s.c<s.n+xs.n) (h63:s.n+xs.n≤9223372036854775807) (hb:Builtin.nextslicecap (s.n+xs.n) s.c*by_≤281474976710656) :
  ∃c w',s.n+xs.n≤c∧(execOp a.eval ⟨d,.call { callee:=.builtin .append,args:=#[x,y],argTypes:=#[t,t] },ty,ps,af,g⟩).run P w=.ok (.value (.slice (some ⟨w.heap.size,0,none⟩) (s.n+xs.n) c)) w' ∧
   w'.heap=w.heap.push (.cells (old.toArray++news.toArray++Builtin.zeroCells zv.cells (c - (s.n+xs.n))) e)∧Rest w w':=by
 obtain⟨i,hi,hz',hs,hb'⟩:=tinfo_run hz
 subst hs;subst hb'
 refine⟨grownCap w (s.n+xs.n) s.c e,w.drew.alloc (.cells (old.toArray++news.toArray++Builtin.zeroCells zv.cells (grownCap w (s.n+xs.n) s.c e - (s.n+xs.n))) e),grownCap_ge w _ _ e,?_,rfl,⟨rfl,rfl,rfl⟩⟩
 have hc:=firstCells_run (P:=P) (w:=w.drew) (len:=xs.n) (c:=xs.c) hl hn
 have hd:=firstCells_run (P:=P) (w:=w.drew) (len:=s.n) (c:=s.c) hlo ho
 have n1:¬(s.n+xs.n≤s.c):=by omega
 have n2:¬(281474976710656<Builtin.nextslicecap (s.n+xs.n) s.c*i.bytes):=by omega
 have n3:¬(9223372036854775807<((s.n:Int)+(xs.n:Int))):=by omega
 simp[execOp,resolve,invoke,builtin,hx,hy,Builtin.append_,underlying_run hu,sizeOf,typeInfo,zeroValue,hi,hz',Builtin.lenOf,n1,n2,n3,newRow,Question.forced,hc,hd,grownCap]
 congr 2
 apply Array.ext'
 simp[List.append_assoc]
theorem run_slc {e:TypeId} {zz:Option Value} {sz by_:Nat} {s:Option Addr} {len c:Nat} {lo hi:Option Operand} {l h:Nat} (hu:P.underlying t=some (.slice e)) (hz:tinfo P e=some (zz,sz,by_))
  (hx:a.eval x=.slice s len c) (hlo:match lo with|none=>l=0|some o=>∃k i,a.eval o=.int k i∧0≤i∧i.toNat=l)
  (hhi:match hi with|none=>h=len|some o=>∃k i,a.eval o=.int k i∧0≤i∧i.toNat=h) (h1:l≤h) (h2:h≤c) :
  (execOp a.eval ⟨d,.slice t x lo hi none,ty,ps,af,g⟩).run P w=.ok (.value (.slice (if c=l then s else s.map (·.add (l*sz))) (h - l) (c - l))) w:=by
 cases lo with
 | none=>
  cases hi with
  | none=>
   simp only at hlo hhi;subst hlo;subst hhi
   simp[execOp,Instr.sliceAt,Instr.slice,underlying_run hu,hx,Instr.sliceBounds,sizeOf_run hz]
  | some oh=>
   obtain⟨k2,i2,e2,p2,q2⟩:=hhi
   simp only at hlo;subst hlo;subst q2
   have h2':i2≤(c:Int):=by omega
   simp[execOp,Instr.sliceAt,Instr.slice,underlying_run hu,hx,Instr.sliceBounds,Instr.sliceBound,e2,asIntOf,p2,h2',sizeOf_run hz]
 | some ol=>
  obtain⟨k1,i1,e1,p1,q1⟩:=hlo
  cases hi with
  | none=>
   simp only at hhi;subst hhi;subst q1
   have h1':i1≤(h:Int):=by omega
   simp[execOp,Instr.sliceAt,Instr.slice,underlying_run hu,hx,Instr.sliceBounds,Instr.sliceBound,e1,asIntOf,p1,h1',sizeOf_run hz]
  | some oh=>
   obtain⟨k2,i2,e2,p2,q2⟩:=hhi
   subst q1;subst q2
   have h2':i2≤(c:Int):=by omega
   simp[execOp,Instr.sliceAt,Instr.slice,underlying_run hu,hx,Instr.sliceBounds,Instr.sliceBound,e1,e2,asIntOf,p1,p2,h2',sizeOf_run hz]
   intro hh
   exact absurd hh (by omega)
end
end Go.Lf
namespace Go.Lf
open Go
section
variable (h:Heap) (p:Addr) (K:Heap→Prop)
@[reducible] def ldI (k:IntKind) (h:Heap) (p:Addr) (K:Int→Prop):Prop:=∃x,cl h p=some (.int k x)∧K x
@[reducible] def ldB (h:Heap) (p:Addr) (K:Bool→Prop):Prop:=∃x,cl h p=some (.bool x)∧K x
@[reducible] def ldP (h:Heap) (p:Addr) (K:Option Addr→Prop):Prop:=∃x,cl h p=some (.pointer x)∧K x
@[reducible] def ldS (h:Heap) (p:Addr) (K:Sv→Prop):Prop:=∃x:Sv,cl h p=some x.v∧K x
@[reducible] def ldT (h:Heap) (p:Addr) (K:ByteArray→Prop):Prop:=∃x,cl h p=some (.string x)∧K x
@[reducible] def nn (p:Option Addr) (K:Addr→Prop):Prop:=∃a,p=some a∧K a
@[reducible] def ixS (s:Sv) (i:Int) (K:Addr→Prop):Prop:=∃a,s.a=some a∧0≤i∧i<s.n∧K a
@[reducible] def sto (h:Heap) (p:Addr) (v:Value) (K:Heap→Prop):Prop:=(cl h p).isSome=true∧fz h p=false∧∀h',h'=sc h p v→K h'
@[reducible] def stoA (h:Heap) (p:Addr) (vs:List Value) (K:Heap→Prop):Prop:=(∀v∈vs,v.oneCell'=true)∧Free h p vs.length∧∀h',h'=scs h p vs 0→K h'
@[reducible] def new (E:TypeId) (cs:Array Value) (h:Heap) (K:Addr→Heap→Prop):Prop:=∀p h',p=⟨h.size,0,none⟩→h'=h.push (.cells cs E)→K p h'
@[reducible] def newS (E:TypeId) (cs:Array Value) (len:Nat) (h:Heap) (K:Sv→Heap→Prop):Prop:=∀s h',s=(⟨some ⟨h.size,0,none⟩,len,len⟩:Sv)→h'=h.push (.cells cs E)→K s h'
@[reducible] def appS (E:TypeId) (zero:Array Value) (sz bytes:Nat) (h:Heap) (s x:Sv) (K:Sv→Heap→Prop):Prop:=
 ∃news:List Value,news.length=x.n*sz∧RowO h x.a news∧(∀u∈news,u.oneCell'=true) ∧
  (s.n+x.n≤s.c→FreeO h s.a (s.n*sz) news.length∧∀s' h',s'=(⟨s.a,s.n+x.n,s.c⟩:Sv)→h'=scsO h s.a (s.n*sz) news→K s' h') ∧
  (s.c<s.n+x.n→s.n+x.n≤9223372036854775807∧Builtin.nextslicecap (s.n+x.n) s.c*bytes≤281474976710656∧∃old:List Value,old.length=s.n*sz∧RowO h s.a old ∧
   ∀c s' h',s.n+x.n≤c→s'=(⟨some ⟨h.size,0,none⟩,s.n+x.n,c⟩:Sv)→h'=h.push (.cells (old.toArray++news.toArray++Builtin.zeroCells zero (c - (s.n+x.n))) E)→K s' h')
@[reducible] def cal (P:Program) (f:FuncId) (args:Array Value) (h:Heap) (K:Value→Heap→Prop):Prop:=∃J,CallsH P f args h J∧∀v h',J v h'→K v h'
@[reducible] def ifb (b:Bool) (A B:Prop):Prop:=(b=true→A)∧(b=false→B)
@[reducible] def andj (b:Bool) (m:(Bool→Heap→Prop)→Prop) (h:Heap) (K:Bool→Heap→Prop):Prop:=(b=true→m K)∧(b=false→K false h)
@[reducible] def orj (b:Bool) (m:(Bool→Heap→Prop)→Prop) (h:Heap) (K:Bool→Heap→Prop):Prop:=(b=true→K true h)∧(b=false→m K)
@[reducible] def andr (b:Bool) (m:(Bool→Prop)→Prop) (K:Bool→Prop):Prop:=(b=true→m K)∧(b=false→K false)
@[reducible] def orr (b:Bool) (m:(Bool→Prop)→Prop) (K:Bool→Prop):Prop:=(b=true→K true)∧(b=false→m K)
@[reducible] def asI (k:IntKind) (v:Value) (K:Int→Prop):Prop:=∃x,v=.int k x∧K x
@[reducible] def asB (v:Value) (K:Bool→Prop):Prop:=∃x,v=.bool x∧K x
@[reducible] def asP (v:Value) (K:Option Addr→Prop):Prop:=∃x,v=.pointer x∧K x
@[reducible] def asS (v:Value) (K:Sv→Prop):Prop:=∃x:Sv,v=x.v∧K x
@[reducible] def asTup (v:Value) (K:Array Value→Prop):Prop:=∃vs,v=.tuple vs∧K vs
@[reducible] def elt (vs:Array Value) (i:Nat) (K:Value→Prop):Prop:=∃v,vs[i]?=some v∧K v
end
section
variable {P:Program} {ops:Array Oper} {N:Act→World→Prop} {rest:List Oper} {a:Act} {w w0:World} {n d:Nat} {E:List (Nat×Value)} {h:Heap}
variable {ty:TypeId} {ps:String} {af:Array Edge} {g:Option (Nat×Bool)} {x y:Operand} {v:Value} {t:TypeId} {k:IntKind} {p:Addr}
theorem OL.pure (S:St n E h w0 a w) {o:Oper} (r:(execOp a.eval o).run P w=.ok (.value v) w) (hd:o.dst=some d) (hn:Nat.blt d n=true) (hg:GOk ops E o.guard)
  (K:∀a',St n ((d,v) :: E) h w0 a' w→OL P ops N rest a' w):OL P ops N (o :: rest) a w:=
 OL.val S r hd hn S.heap (Rest.refl w) hg K
theorem St.cl {p:Addr} {v:Value} (S:St n E h w0 a w) (hc:Lf.cl h p=some v):Lf.cl w.heap p=some v:=S.heap ▸ hc
end
theorem GOk.mk {ops:Array Oper} {E:List (Nat×Value)} {j t:Nat} {want c:Bool} (hj:(ops[j]?).bind (·.dst)=some t) (hl:lk E t=some (.bool c)) (hb:c=want):GOk ops E (some (j,want)):=
 ⟨t,hj,by rw[hl,hb]⟩
theorem GNo.mk {ops:Array Oper} {E:List (Nat×Value)} {j t:Nat} {want c:Bool} (hj:(ops[j]?).bind (·.dst)=some t) (hl:lk E t=some (.bool c)) (hb:c=!want):GNo ops E (some (j,want)):=
 ⟨t,hj,.inl (by rw[hl,hb])⟩
theorem GNo.un {ops:Array Oper} {E:List (Nat×Value)} {j t:Nat} {want:Bool} (hj:(ops[j]?).bind (·.dst)=some t) (hl:lk E t=some undef):GNo ops E (some (j,want)):=
 ⟨t,hj,.inr hl⟩
section
variable {P:Program} {a:Act} {w:World} {d:Option Tmp} {ty:TypeId} {ps:String} {af:Array Edge} {g:Option (Nat×Bool)} {x y z:Operand} {v:Value} {c:Bool}
theorem run_nc' {r:Option Addr} {p:Addr} (hx:a.eval x=.pointer r) (e:r=some p):(execOp a.eval ⟨d,.nilCheck x,ty,ps,af,g⟩).run P w=.ok (.value (.pointer (some p))) w:=
 run_nc (by rw[hx,e])
theorem run_pickT (hz:a.eval z=.bool c) (hc:c=true) (hx:a.eval x=v):(execOp a.eval ⟨d,.pick z x y,ty,ps,af,g⟩).run P w=.ok (.value v) w:=
 run_pick hz (by simp[hc,hx])
theorem run_pickF (hz:a.eval z=.bool c) (hc:c=false) (hy:a.eval y=v):(execOp a.eval ⟨d,.pick z x y,ty,ps,af,g⟩).run P w=.ok (.value v) w:=
 run_pick hz (by simp[hc,hy])
end
theorem OL.cutN {P:Program} {ops:Array Oper} {N:Act→World→Prop} {l:List Oper} {a:Act} {w:World} (k:Nat) (M:Act→World→Prop) (h1:OL P ops M (l.take k) a w) (h2:∀a w,M a w→OL P ops N (l.drop k) a w):OL P ops N l a w:=by
 have:=OL.cut (l1:=l.take k) (l2:=l.drop k) M h1 h2
 rwa [List.take_append_drop] at this
def RowL (h:Heap) (p:Addr):Nat→List Value→Prop
 | _,[]=>True
 | i,v :: vs=>cl h (p.add i)=some v∧RowL h p (i+1) vs
theorem RowL.row {h:Heap} {p:Addr}:∀ {vs:List Value} {i:Nat},RowL h p i vs→∀j v,vs[j]?=some v→cl h (p.add (i+j))=some v
 | [],_,_,_,_,hv=>by simp at hv
 | u :: us,i,hr,0,v,hv=>by simp at hv;subst hv;exact hr.1
 | u :: us,i,hr,j+1,v,hv=>by
  have:=RowL.row hr.2 j v (by simpa using hv)
  rwa [show i+1+j=i+(j+1) by omega] at this
theorem RowL.toRow {h:Heap} {p:Addr} {vs:List Value} (hr:RowL h p 0 vs):Row h p vs:=fun j v hv=>by
 have:=hr.row j v hv
 rwa [Nat.zero_add] at this
section
variable {P:Program} {ops:Array Oper} {N:Act→World→Prop} {rest:List Oper} {a:Act} {w w0:World} {n d:Nat} {E:List (Nat×Value)} {h:Heap} {o:Oper}
variable {ty:TypeId} {ps:String} {af:Array Edge} {g:Option (Nat×Bool)} {x y:Operand} {v:Value} {t:TypeId} {k:IntKind} {p:Addr}
theorem ol_sto {z:Option Value} {b:Nat} {K:Heap→Prop} (S:St n E h w0 a w) (H:sto h p v K) (hx:evo E x=some (.pointer (some p))) (hy:evo E y=some v) (h1:v.oneCell'=true) (hs:tinfo P t=some (z,1,b)) (hg:GOk ops E g)
  (k:∀a' w' h',K h'→St n E h' w0 a' w'→OL P ops N rest a' w'):OL P ops N (⟨none,.store t x y,ty,ps,af,g⟩ :: rest) a w:=
 OL.eff S (run_st (S.ev hx) (S.ev hy) h1 hs (by rw[S.heap];exact H.1) (by rw[S.heap];exact H.2.1)) rfl (by rw[setCell_heap,S.heap]) ⟨rfl,rfl,rfl⟩ hg fun a' S'=>k a' _ _ (H.2.2 _ rfl) S'
theorem ol_stoA {z:Option Value} {b:Nat} {cs:List Value} {K:Heap→Prop} (S:St n E h w0 a w) (H:stoA h p cs K) (hx:evo E x=some (.pointer (some p))) (hy:evo E y=some (.agg cs.toArray)) (hs:tinfo P t=some (z,cs.length,b)) (hg:GOk ops E g)
  (k:∀a' w' h',K h'→St n E h' w0 a' w'→OL P ops N rest a' w'):OL P ops N (⟨none,.store t x y,ty,ps,af,g⟩ :: rest) a w:=by
 obtain⟨w',r,e,t'⟩:=run_stA (P:=P) (w:=w) (d:=none) (ty:=ty) (ps:=ps) (af:=af) (g:=g) (S.ev hx) (S.ev hy) H.1 hs (by rw[S.heap];exact H.2.1)
 exact OL.eff S r rfl (by rw[e,S.heap]) t' hg fun a' S'=>k a' _ _ (H.2.2 _ rfl) S'
theorem ol_box {e:TypeId} {K:Addr→Heap→Prop} {cs:Array Value} (S:St n E h w0 a w) (H:new e cs h K) (hx:evo E x=some v) (hc:v.cells=cs) (hn:Nat.blt d n=true) (hg:GOk ops E g)
  (k:∀p a' w' h',K p h'→St n ((d,.pointer (some p)) :: E) h' w0 a' w'→OL P ops N rest a' w'):OL P ops N (⟨some d,.box e x,ty,ps,af,g⟩ :: rest) a w:=by
 subst hc
 have r:=run_box (P:=P) (w:=w) (d:=some d) (ty:=ty) (ps:=ps) (af:=af) (g:=g) (e:=e) (S.ev hx)
 rw[S.heap] at r
 exact OL.val S r rfl hn rfl ⟨rfl,rfl,rfl⟩ hg fun a' S'=>k _ a' _ _ (H _ _ rfl rfl) S'
theorem ol_newS {zv:Value} {s b len:Nat} {e:TypeId} {parts:Array (Nat×Operand)} {vs:List (Nat×Value)} {cs:Array Value} {K:Sv→Heap→Prop} (S:St n E h w0 a w) (H:newS e cs len h K)
  (hu:P.underlying t=some (.slice e)) (hz:tinfo P e=some (some zv,s,b)) (hl:¬len*s>2 ^ 24) (hv:(parts.map fun (i,x)=>(i,a.eval x)).toList=vs)
  (hf:Instr.fill (fun i=>some (i*s,s)) ((Array.range (len*s)).map (zv.cells[· % zv.cells.size]!)) vs=some cs) (h0:len*s≠0) (hn:Nat.blt d n=true) (hg:GOk ops E g)
  (k:∀(s:Sv) a' w' h',K s h'→St n ((d,s.v) :: E) h' w0 a' w'→OL P ops N rest a' w'):OL P ops N (⟨some d,.buildSlice t len parts,ty,ps,af,g⟩ :: rest) a w:=by
 have r:=run_buildSlice (P:=P) (w:=w) (a:=a) (d:=some d) (ty:=ty) (ps:=ps) (af:=af) (g:=g) hu hz hl hv hf h0
 rw[S.heap] at r
 exact OL.val S r rfl hn rfl ⟨rfl,rfl,rfl⟩ hg fun a' S'=>k ⟨some ⟨h.size,0,none⟩,len,len⟩ a' _ _ (H _ _ rfl rfl) S'
theorem ol_appS {zv:Value} {sz b:Nat} {e:TypeId} {s xs:Sv} {K:Sv→Heap→Prop} (S:St n E h w0 a w) (H:appS e zv.cells sz b h s xs K) (hu:P.underlying t=some (.slice e)) (hz:tinfo P e=some (some zv,sz,b))
  (hx:evo E x=some s.v) (hy:evo E y=some xs.v) (hn:Nat.blt d n=true) (hg:GOk ops E g)
  (k:∀(s':Sv) a' w' h',K s' h'→St n ((d,s'.v) :: E) h' w0 a' w'→OL P ops N rest a' w') :
  OL P ops N (⟨some d,.call { callee:=.builtin .append,args:=#[x,y],argTypes:=#[t,t] },ty,ps,af,g⟩ :: rest) a w:=by
 obtain⟨news,hl,hr,h1,hfit,hgrow⟩:=H
 by_cases hroom:s.n+xs.n≤s.c
 ·obtain⟨f1,f2⟩:=hfit hroom
  obtain⟨w',r,e1,t1⟩:=run_app_fits (P:=P) (w:=w) (d:=some d) (ty:=ty) (ps:=ps) (af:=af) (g:=g) hu hz (S.ev hx) (S.ev hy) hl (by rw[S.heap];exact hr) h1 hroom (by rw[S.heap];exact f1)
  rw[S.heap] at e1
  exact OL.val S r rfl hn e1 t1 hg fun a' S'=>k ⟨s.a,s.n+xs.n,s.c⟩ a' _ _ (f2 _ _ rfl rfl) S'
 ·obtain⟨g1,g2,old,g3,g4,g5⟩:=hgrow (by omega)
  obtain⟨c,w',hc,r,e1,t1⟩:=run_app_grows (P:=P) (w:=w) (d:=some d) (ty:=ty) (ps:=ps) (af:=af) (g:=g) hu hz (S.ev hx) (S.ev hy) hl (by rw[S.heap];exact hr) g3 (by rw[S.heap];exact g4) (by omega) g1 g2
  rw[S.heap] at e1 r
  exact OL.val S r rfl hn e1 t1 hg fun a' S'=>k ⟨some ⟨h.size,0,none⟩,s.n+xs.n,c⟩ a' _ _ (g5 c _ _ hc rfl rfl) S'
theorem ol_cal {f:FuncId} {args:Array Operand} {vs:Array Value} {ats:Array TypeId} {K:Value→Heap→Prop} (S:St n E h w0 a w) (H:cal P f vs h K) (hf:IsFn P f) (ha:evs E args.toList=some vs.toList) (hn:Nat.blt d n=true) (hg:GOk ops E g)
  (k:∀v a' w' h',K v h'→St n ((d,v) :: E) h' w0 a' w'→OL P ops N rest a' w'):OL P ops N (⟨some d,.call { callee:=.value (.func f),args:=args,argTypes:=ats },ty,ps,af,g⟩ :: rest) a w:=by
 obtain⟨J,hJ,hK⟩:=H
 have ha':args.map a.eval=vs:=by
  have:=S.evl ha
  apply Array.ext'
  simpa using this
 exact OL.call S (run_call hf ha') rfl hn hg hJ fun v h' a' w' j s=>k v a' w' h' (hK v h' j) s
end
def mkE:Nat→List Value→List (Nat×Value)
 | _,[]=>[]
 | i,v :: vs=>(i,v) :: mkE (i+1) vs
theorem lk_mkE:∀(vs:List Value) (i t:Nat) (v:Value),lk (mkE i vs) t=some v→i≤t∧vs[t - i]?=some v
 | [],_,_,_,h=>by simp[mkE,lk] at h
 | u :: us,i,t,v,h=>by
  simp only[mkE,lk] at h
  cases hb:Nat.beq i t with
  | true=>
   have e:=Nat.eq_of_beq_eq_true hb
   subst e
   simp only[hb,cond_true,Option.some.injEq] at h
   simp[h]
  | false=>
   have hne:i≠t:=fun e=>by subst e;simp[Nat.beq_refl] at hb
   simp only[hb,cond_false] at h
   obtain⟨h1,h2⟩:=lk_mkE us (i+1) t v h
   refine⟨by omega,?_⟩
   rw[show t - i=(t - (i+1))+1 by omega]
   simpa using h2
def Ret (P:Program) (fn:Func) (R:Value→Heap→Prop) (w0:World) (a:Act) (w:World):Prop:=
 a.defers=[]∧∃v,(results fn a.tmps).run P w=.ok v w∧R v w.heap∧Rest w0 w
theorem CallsH.enter {P:Program} {f:FuncId} {fn:Func} {c:Code} {args:Array Value} {h:Heap} {R:Value→Heap→Prop} {E:List (Nat×Value)} {n:Nat} (hf:P.funcs[f]?=some fn) (hb:fn.body=some c)
  (hE:mkE 0 args.toList=E) (hnt:fn.ntmps=n) (hn:Nat.ble args.size n=true)
  (H:∀w0 a w,St n E h w0 a w→W P c (Ret P fn R w0) (fun _ _ _=>False) (Ret P fn R w0) a w):CallsH P f args h R:=by
 subst hnt
 intro w hw
 refine calls_of_wp hf hb (wp_mono (Q:=Qx (Ret P fn R w) (fun _ _ _=>False) (Ret P fn R w)) (H w _ w ?_) ?_)
 ·have hn':args.size≤fn.ntmps:=Nat.le_of_ble_eq_true hn
  refine⟨by simp;omega,fun t v ht=>?_,rfl,hw,Rest.refl w⟩
  rw[←hE] at ht
  obtain⟨_,h2⟩:=lk_mkE _ _ _ _ ht
  simp only[Nat.sub_zero,Array.getElem?_toList] at h2
  have hlt:t<args.size:=(Array.getElem?_eq_some_iff.1 h2).1
  have h3:args[t]=v:=by simpa [Array.getElem?_eq_getElem hlt] using h2
  simp[Array.getElem?_append,hlt,h3]
 ·intro e a w' he
  cases e with
  | normal=>obtain⟨h1,v,h2,h3,h4⟩:=he;exact⟨h1,v,h2,v,rfl,h3,h4⟩
  | ret=>obtain⟨h1,v,h2,h3,h4⟩:=he;exact⟨h1,v,h2,v,rfl,h3,h4⟩
  | exit id=>exact he.elim
  | goto l=>exact he.elim
  | panic c=>exact he.elim
  | outgrown=>exact he.elim
section
variable {P:Program} {fn:Func} {R:Value→Heap→Prop} {w0:World} {a:Act} {w:World} {n:Nat} {E:List (Nat×Value)} {h:Heap}
theorem St.getD (S:St n E h w0 a w) {t:Nat} {v:Value} (ht:lk E t=some v):a.tmps.getD t undef=v:=by
 simp[Array.getD_eq_getD_getElem?,S.at_ t v ht]
theorem Ret.one (S:St n E h w0 a w) {t:Nat} {v:Value} (hr:fn.results=#[.tmp t]) (ht:lk E t=some v) (HR:R v h):Ret P fn R w0 a w:=
 ⟨S.defers,v,by rw[results_tmp hr,S.getD ht],by rw[S.heap];exact HR,S.rest⟩
theorem Ret.two (S:St n E h w0 a w) {t u:Nat} {v v':Value} (hr:fn.results=#[.tmp t,.tmp u]) (ht:lk E t=some v) (hu:lk E u=some v') (HR:R (.tuple #[v,v']) h):Ret P fn R w0 a w:=
 ⟨S.defers,.tuple #[v,v'],by rw[results_tmp2 hr,S.getD ht,S.getD hu],by rw[S.heap];exact HR,S.rest⟩
theorem Ret.none (S:St n E h w0 a w) (hr:fn.results=#[]) (HR:R (.tuple #[]) h):Ret P fn R w0 a w:=
 ⟨S.defers,.tuple #[],by rw[results_none hr],by rw[S.heap];exact HR,S.rest⟩
end
end Go.Lf
namespace Go.Lf
open Go
def calm (P:Program) {α:Type}:Sem α→Prop
 | .pure _=>True
 | .load _ _ k=>∀v,calm P (k v)
 | .store ..=>False
 | .new _ k=>∀r,calm P (k r)
 | .shape _ k=>∀s,calm P (k s)
 | .freeze ..=>False
 | .frozen _ k=>∀b,calm P (k b)
 | .getObj _ k=>∀o,calm P (k o)
 | .setObj ..=>False
 | .choose _ k=>∀n,calm P (k n)
 | .sys ..=>False
 | .program k=>calm P (k P)
 | .mark _ k=>calm P k
 | .halt _=>True
structure Ext (w w':World):Prop where
 cell:∀p v,cl w.heap p=some v→cl w'.heap p=some v
theorem Ext.refl (w:World):Ext w w:=⟨fun _ _ h=>h⟩
theorem Ext.trans {a b c:World} (h:Ext a b) (k:Ext b c):Ext a c:=⟨fun p v hp=>k.cell p v (h.cell p v hp)⟩
theorem cl_push {h:Heap} {o:Obj} {p:Addr} {v:Value} (hp:cl h p=some v):cl (h.push o) p=some v:=by
 have hlt:p.block<h.size:=by
  rcases Nat.lt_or_ge p.block h.size with e|e
  ·exact e
  ·simp[cl,Array.getElem?_eq_none e] at hp
 unfold cl at hp ⊢
 rw[Array.getElem?_push,if_neg (by omega)]
 exact hp
section
variable {P:Program} {α β:Type}
theorem calm_bind {x:Sem α} {f:α→Sem β} (h:calm P x) (k:∀a,calm P (f a)):calm P (x.bind f):=by
 induction x with
 | pure a=>exact k a
 | load m a c ih=>exact fun v=>ih v (h v)
 | store=>exact h.elim
 | new o c ih=>exact fun v=>ih v (h v)
 | shape r c ih=>exact fun v=>ih v (h v)
 | freeze=>exact h.elim
 | frozen a c ih=>exact fun v=>ih v (h v)
 | getObj r c ih=>exact fun v=>ih v (h v)
 | setObj=>exact h.elim
 | choose q c ih=>exact fun v=>ih v (h v)
 | sys=>exact h.elim
 | program c ih=>exact ih P h
 | mark m c ih=>exact ih h
 | halt=>trivial
@[simp] theorem calm_bind' (x:Sem α) (f:α→Sem β) (h:calm P x) (k:∀a,calm P (f a)):calm P (x >>= f):=calm_bind h k
@[simp] theorem calm_pure (a:α):calm P (Pure.pure a:Sem α):=trivial
@[simp] theorem calm_halt (h:Halt):calm P (Sem.halt h:Sem α):=trivial
@[simp] theorem calm_stuck (w:String):calm P (stuck w:Sem α):=trivial
@[simp] theorem calm_unsupported (u:Unsupported):calm P (unsupported u:Sem α):=trivial
@[simp] theorem calm_goPanic (v:Value):calm P (goPanic v:Sem α):=trivial
@[simp] theorem calm_program:calm P program:=trivial
@[simp] theorem calm_load (a:Addr) (m:Mode):calm P (load a m):=fun _=>trivial
@[simp] theorem calm_newObj (o:Obj):calm P (newObj o):=fun _=>trivial
@[simp] theorem calm_shape (r:Nat):calm P (shape r):=fun _=>trivial
@[simp] theorem calm_frozen (a:Addr):calm P (frozen a):=fun _=>trivial
@[simp] theorem calm_getObj (r:Nat):calm P (getObj r):=fun _=>trivial
@[simp] theorem calm_choose (q:Question):calm P (choose q):=fun _=>trivial
@[simp] theorem calm_ite (c:Prop) [Decidable c] (x y:Sem α) (hx:calm P x) (hy:calm P y):calm P (if c then x else y):=by split<;>assumption
theorem calm_run {x:Sem α} (h:calm P x):∀ {w w':World} {r:α},x.run P w=.ok r w'→Ext w w':=by
 induction x with
 | pure a=>intro w w' r e;simp[Sem.run] at e;obtain⟨_,rfl⟩:=e;exact Ext.refl _
 | load m a c ih=>
  intro w w' r e
  simp only[Sem.run] at e
  split at e
  ·exact ih _ (h _) e
  ·split at e
   ·exact ih _ (h _) e
   ·cases e
 | store=>exact h.elim
 | new o c ih=>
  intro w w' r e
  simp only[Sem.run] at e
  exact Ext.trans ⟨fun p v hp=>cl_push hp⟩ (ih _ (h _) e)
 | shape r c ih=>intro w w' r e;exact ih _ (h _) e
 | freeze=>exact h.elim
 | frozen a c ih=>intro w w' r e;exact ih _ (h _) e
 | getObj r c ih=>
  intro w w' r e
  simp only[Sem.run] at e
  split at e
  ·cases e
  ·exact ih _ (h _) e
  ·cases e
 | setObj=>exact h.elim
 | choose q c ih=>
  intro w w' r e
  simp only[Sem.run] at e
  split at e
  ·exact ih _ (h _) e
  ·exact Ext.trans (b:={ w with drawn:=w.drawn+1 }) ⟨fun p v hp=>hp⟩ (ih _ (h _) e)
 | sys=>exact h.elim
 | program c ih=>intro w w' r e;exact ih P h e
 | mark m c ih=>intro w w' r e;exact ih h e
 | halt=>intro w w' r e;cases e
end
@[simp] theorem calm_typeInfo {P:Program} (t:TypeId):calm P (typeInfo t):=by
 unfold typeInfo;refine calm_bind' _ _ (by simp) fun p=>?_;split<;>simp
@[simp] theorem calm_underlying {P:Program} (t:TypeId):calm P (underlying t):=by
 unfold underlying;refine calm_bind' _ _ (by simp) fun p=>?_;split<;>simp
@[simp] theorem calm_zeroValue {P:Program} (t:TypeId):calm P (zeroValue t):=by
 unfold zeroValue;refine calm_bind' _ _ (by simp) fun i=>?_;split<;>simp
@[simp] theorem calm_sizeOf {P:Program} (t:TypeId):calm P (sizeOf t):=by
 unfold sizeOf;exact calm_bind' _ _ (by simp) fun i=>by simp
@[simp] theorem calm_isAgg {P:Program} (t:TypeId):calm P (isAgg t):=by
 unfold isAgg;refine calm_bind' _ _ (by simp) fun i=>?_;split<;>simp
theorem calm_loadCellsFrom {P:Program} (a:Addr):∀(n i:Nat) (acc:Array Value),calm P (loadCellsFrom a i n acc)
 | 0,_,_=>trivial
 | n+1,i,acc=>by unfold loadCellsFrom;exact calm_bind' _ _ (by simp) fun v=>calm_loadCellsFrom a n _ _
@[simp] theorem calm_loadVar {P:Program} (t:TypeId) (a:Addr):calm P (loadVar t a):=by
 unfold loadVar
 refine calm_bind' _ _ (by simp) fun b=>?_
 split
 ·refine calm_bind' _ _ (by simp) fun s=>?_
  exact calm_bind' _ _ (calm_loadCellsFrom _ _ _ _) fun cs=>by simp
 ·simp
@[simp] theorem calm_elemOf {P:Program} (t:TypeId):calm P (elemOf t):=by
 unfold elemOf;refine calm_bind' _ _ (by simp) fun i=>?_;split<;>simp
@[simp] theorem calm_newVar {P:Program} (t:TypeId) (v:Value):calm P (newVar t v):=by
 unfold newVar newRow;exact calm_bind' _ _ (by simp) fun i=>by simp
@[simp] theorem calm_runtimePanic {P:Program} {α:Type} (e:RuntimeError):calm P (runtimePanic e:Sem α):=by
 unfold runtimePanic
 refine calm_bind' _ _ (by simp) fun p=>?_
 cases e<;>simp
 all_goals
  refine calm_bind' _ _ (by simp) fun i=>?_
  refine calm_bind' _ _ (by simp) fun i=>?_
  simp
@[simp] theorem calm_boundsPanic {P:Program} {α:Type} (k:IntKind) (x y:Int) (c:BoundsCode):calm P (boundsPanic k x y c:Sem α):=by
 unfold boundsPanic
 dsimp only
 split
 ·exact calm_bind' _ _ (calm_bind (x:=choose _) (by simp) fun i=>by trivial) fun b=>by simp
 ·exact calm_bind' _ _ (by simp) fun b=>by simp
@[simp] theorem calm_asIntOf {P:Program} (v:Value):calm P (asIntOf v):=by unfold asIntOf;split<;>simp
@[simp] theorem calm_asBool {P:Program} (v:Value):calm P (asBool v):=by unfold asBool;split<;>simp
@[simp] theorem calm_asAgg {P:Program} (v:Value):calm P (asAgg v):=by unfold asAgg;split<;>simp
@[simp] theorem calm_sureAddr {P:Program} (v:Value):calm P (Instr.sureAddr v):=by unfold Instr.sureAddr;split<;>simp
theorem calm_byteOf {P:Program} (a:Addr):calm P (byteOf a):=by
 unfold byteOf noView viewAt
 repeat' (first|trivial|(refine calm_bind' _ _ ?_ fun _=>?_)|split|(simp;done)|dsimp only)
theorem calm_numberAt {P:Program} (r:Nat):calm P (numberAt r):=by
 unfold numberAt
 repeat' (first|trivial|(refine calm_bind' _ _ ?_ fun _=>?_)|split|(simp;done)|dsimp only)
theorem calm_behindNumber {P:Program} (a:Addr):calm P (behindNumber a):=by
 unfold behindNumber
 exact calm_bind' _ _ (calm_numberAt _) fun _=>by simp
theorem calm_unsafeAdd {P:Program} (x:Array TypeId) (t:TypeId) (u v:Value):calm P (Builtin.unsafeAdd_ x t #[u,v]):=by
 unfold Builtin.unsafeAdd_ viewAt asInt
 cases u<;>dsimp only
 all_goals repeat' (first|trivial|(refine calm_bind' _ _ ?_ fun _=>?_)|split|(simp;done)|dsimp only)
theorem calm_movedNumber {P:Program} (t:TypeId) (x y:Value):calm P (movedNumber t x y):=by
 unfold movedNumber asNumber
 repeat' (first|trivial|exact calm_behindNumber _|exact calm_unsafeAdd _ _ _ _|(refine calm_bind' _ _ ?_ fun _=>?_)|split|(simp;done)|dsimp only)
theorem calm_movedPointer {P:Program} (t:TypeId) (x y:Value):calm P (movedPointer t x y):=by
 unfold movedPointer
 repeat' (first|trivial|exact calm_numberAt _|exact calm_unsafeAdd _ _ _ _|(refine calm_bind' _ _ ?_ fun _=>?_)|split|(simp;done)|dsimp only)
theorem calm_twoPlaces {P:Program} (a b:Addr):calm P (Op.twoPlaces a b):=by
 unfold Op.twoPlaces
 repeat' (first|trivial|exact calm_byteOf _|(refine calm_bind' _ _ ?_ fun _=>?_)|split|(simp;done)|dsimp only)
theorem calm_addrMod {P:Program} (k:IntKind) (a:Addr) (n:Int):calm P (Op.addrMod k a n):=by
 unfold Op.addrMod
 repeat' (first|trivial|exact calm_byteOf _|(refine calm_bind' _ _ ?_ fun _=>?_)|split|(simp;done)|dsimp only)
theorem calm_floatArith {P:Program} (op:BinOp) (k:FloatKind) (x y:Nat):calm P (Op.floatArith op k x y):=by
 unfold Op.floatArith
 repeat' (first|trivial|(refine calm_bind' _ _ ?_ fun _=>?_)|split|(simp;done)|dsimp only)
theorem calm_floatCmp {P:Program} (op:BinOp) (k:FloatKind) (x y:Nat):calm P (Op.floatCmp op k x y):=by
 unfold Op.floatCmp;split<;>simp
theorem calm_intDiv {P:Program} (op:BinOp) (k:IntKind) (x y:Int):calm P (Op.intDiv op k x y):=by
 unfold Op.intDiv
 repeat' (first|trivial|split|(simp;done)|dsimp only)
theorem calm_intArith {P:Program} (op:BinOp) (k:IntKind) (x y:Int):calm P (Op.intArith op k x y):=by
 unfold Op.intArith;split<;>simp
theorem calm_intBits {P:Program} (op:BinOp) (k:IntKind) (x y:Int):calm P (Op.intBits op k x y):=by
 unfold Op.intBits;dsimp only;split<;>simp
theorem calm_intCmp {P:Program} (op:BinOp) (x y:Int):calm P (Op.intCmp op x y):=by
 unfold Op.intCmp;split<;>simp
theorem calm_shift {P:Program} (op:BinOp) (k:IntKind) (x:Int) (j:IntKind) (y:Int):calm P (Op.shift op k x j y):=by
 unfold Op.shift
 repeat' (first|trivial|split|(simp;done)|dsimp only)
theorem calm_stringOp {P:Program} (op:BinOp) (x y:ByteArray):calm P (Op.stringOp op x y):=by
 unfold Op.stringOp
 repeat' (first|trivial|split|(simp;done)|dsimp only)
theorem calm_floatToFloat {P:Program} (s:FloatKind) (b:Nat) (d:FloatKind):calm P (Conv.floatToFloat s b d):=by
 unfold Conv.floatToFloat
 repeat' (first|trivial|(refine calm_bind' _ _ ?_ fun _=>?_)|split|(simp;done)|dsimp only)
theorem calm_carith {P:Program} (op:BinOp) (k:FloatKind) (x y:Nat):calm P (Op.Complex.arith op k x y):=by
 unfold Op.Complex.arith
 repeat' (first|trivial|exact calm_floatArith _ _ _ _|(refine calm_bind' _ _ ?_ fun _=>?_)|split|(simp;done)|dsimp only)
theorem calm_ccmp {P:Program} (op:BinOp) (k:FloatKind) (x y:Nat):calm P (Op.Complex.cmp op k x y):=by
 unfold Op.Complex.cmp
 exact calm_bind' _ _ (calm_floatCmp _ _ _ _) fun _=>by simp
theorem calm_cconv {P:Program} (s:FloatKind) (x:Nat) (d:FloatKind):calm P (Op.Complex.conv s x d):=by
 unfold Op.Complex.conv
 repeat' (first|trivial|exact calm_floatToFloat _ _ _|(refine calm_bind' _ _ ?_ fun _=>?_)|split|(simp;done)|dsimp only)
theorem calm_cproduct {P:Program} (a b c d:Nat):calm P (Op.Complex.product a b c d):=by
 unfold Op.Complex.product Op.Complex.add Op.Complex.mul Op.Complex.sub
 repeat' (first|trivial|exact calm_carith _ _ _ _|(refine calm_bind' _ _ ?_ fun _=>?_))
theorem calm_ccorrected {P:Program} (s a b c d:Nat):calm P (Op.Complex.corrected s a b c d):=by
 unfold Op.Complex.corrected Op.Complex.add Op.Complex.mul Op.Complex.sub
 repeat' (first|trivial|exact calm_carith _ _ _ _|(refine calm_bind' _ _ ?_ fun _=>?_))
theorem calm_quo {P:Program} (a b:Nat):calm P (Op.Complex.quo a b):=calm_carith _ _ _ _
theorem calm_add {P:Program} (a b:Nat):calm P (Op.Complex.add a b):=calm_carith _ _ _ _
theorem calm_sub {P:Program} (a b:Nat):calm P (Op.Complex.sub a b):=calm_carith _ _ _ _
theorem calm_mul {P:Program} (a b:Nat):calm P (Op.Complex.mul a b):=calm_carith _ _ _ _
theorem calm_cquotient {P:Program} (a b c d:Nat):calm P (Op.Complex.quotient a b c d):=by
 unfold Op.Complex.quotient
 dsimp only
 repeat' (first|with_reducible exact calm_pure _|with_reducible exact calm_stuck _|with_reducible exact calm_ccmp _ _ _ _|with_reducible exact calm_quo _ _|with_reducible exact calm_add _ _|with_reducible exact calm_sub _ _|with_reducible exact calm_mul _ _|with_reducible exact calm_ccorrected _ _ _ _ _|with_reducible exact calm_carith _ _ _ _|with_reducible exact calm_cconv _ _ _|with_reducible exact calm_cproduct _ _ _ _|(with_reducible refine calm_ite _ _ _ ?_ ?_)|(with_reducible refine calm_bind' _ _ ?_ fun _=>?_))
theorem calm_complexOp {P:Program} (op:BinOp) (k:FloatKind) (a b c d:Nat):calm P (Op.complexOp op k a b c d):=by
 unfold Op.complexOp
 cases op<;>dsimp only
 all_goals repeat' (first|with_reducible exact calm_pure _|with_reducible exact calm_stuck _|with_reducible exact calm_ccmp _ _ _ _|with_reducible exact calm_quo _ _|with_reducible exact calm_add _ _|with_reducible exact calm_sub _ _|with_reducible exact calm_mul _ _|with_reducible exact calm_ccorrected _ _ _ _ _|with_reducible exact calm_carith _ _ _ _|with_reducible exact calm_cconv _ _ _|with_reducible exact calm_cproduct _ _ _ _|with_reducible exact calm_cquotient _ _ _ _|(with_reducible refine calm_ite _ _ _ ?_ ?_)|(with_reducible refine calm_bind' _ _ ?_ fun _=>?_))
theorem calm_underlying_bind {P:Program} {β:Type} {t:TypeId} {td:TypeDesc} {f:TypeDesc→Sem β} (h:P.underlying t=some td) (k:calm P (f td)):calm P (underlying t >>= f):=by
 show calm P ((match P.underlying t with|some d=>(Pure.pure d:Sem TypeDesc)|none=>stuck "no such type").bind f)
 rw[h]
 exact k
theorem calm_equal_int {P:Program} {t:TypeId} {k:IntKind} (x y:Value) (ht:P.underlying t=some (.int k)):calm P (Op.equal t x y):=by
 show calm P (Op.equalIn (9999+1) t x y)
 rw[Op.equalIn]
 refine calm_underlying_bind ht ?_
 split<;>first|contradiction|(repeat' (first|trivial|exact calm_behindNumber _|exact calm_byteOf _|(refine calm_bind' _ _ ?_ fun _=>?_)|split|(simp;done)|dsimp only))
theorem calm_equal_bool {P:Program} {t:TypeId} (x y:Value) (ht:P.underlying t=some .bool):calm P (Op.equal t x y):=by
 show calm P (Op.equalIn (9999+1) t x y)
 rw[Op.equalIn]
 refine calm_underlying_bind ht ?_
 split<;>first|contradiction|simp
end Go.Lf
namespace Go.Lf
open Go
theorem calm_eqGuardIn {P:Program} {t:TypeId} {td:TypeDesc} (x y:Value) (ht:P.underlying t=some td) (hd:match td with|.struct _|.array _ _|.interface _=>False|_=>True):calm P (Op.eqGuardIn Op.maxDepth t x y):=by
 show calm P (Op.eqGuardIn (9999+1) t x y)
 rw[Op.eqGuardIn]
 refine calm_underlying_bind ht ?_
 split
 ·exact hd.elim
 ·exact hd.elim
 ·exact hd.elim
 ·exact calm_pure _
theorem calm_eqGuard {P:Program} {t:TypeId} {td:TypeDesc} (op:BinOp) (a b:Operand) (x y:Value) (ht:P.underlying t=some td) (hd:match td with|.struct _|.array _ _|.interface _=>False|_=>True):calm P (eqGuard op t a b x y):=by
 have hg:=calm_eqGuardIn (P:=P) x y ht hd
 unfold eqGuard
 repeat' (first|with_reducible exact calm_pure _|with_reducible exact calm_unsupported _|with_reducible exact hg|(with_reducible refine calm_ite _ _ _ ?_ ?_)|(with_reducible refine calm_bind' _ _ ?_ fun _=>?_)|exact calm_program|split)
theorem calm_binOp {P:Program} {t:TypeId} (op:BinOp) (x y:Value) (hE:calm P (Op.equal t x y)):calm P (binOp op t x y):=by
 unfold binOp
 split<;>repeat' (first|with_reducible exact calm_pure _|with_reducible exact calm_stuck _|with_reducible exact calm_unsupported _|with_reducible exact calm_shift _ _ _ _ _|with_reducible exact calm_intArith _ _ _ _|with_reducible exact calm_intDiv _ _ _ _|with_reducible exact calm_intBits _ _ _ _|with_reducible exact calm_intCmp _ _ _|with_reducible exact calm_floatArith _ _ _ _|with_reducible exact calm_floatCmp _ _ _ _|with_reducible exact calm_complexOp _ _ _ _ _ _|with_reducible exact calm_stringOp _ _ _|with_reducible exact hE|with_reducible exact calm_movedPointer _ _ _|with_reducible exact calm_movedNumber _ _ _|with_reducible exact calm_behindNumber _|with_reducible exact calm_addrMod _ _ _|with_reducible exact calm_underlying _|(unfold Op.addrSub;refine calm_bind' _ _ (calm_twoPlaces _ _) fun _=>?_;exact calm_pure _)|(unfold Op.addrCmp;refine calm_bind' _ _ (calm_twoPlaces _ _) fun _=>?_;(split<;>first|exact calm_pure _|exact calm_unsupported _))|(with_reducible refine calm_ite _ _ _ ?_ ?_)|(with_reducible refine calm_bind' _ _ ?_ fun _=>?_)|split)
def calmOp (P:Program) (o:Oper):Bool:=
 match o.op with
 | .move _|.assign _|.pick ..|.box ..|.load ..|.indexAddr ..|.extract ..=>true
 | .fieldAddr s _ i=>(fieldT P s i).isSome
 | .binOp _ t _ _ _=>match P.underlying t with
  | some (.int _)|some .bool=>true
  | _=>false
 | .unOp .not _ _=>true
 | .convert s d _=>match P.underlying s,P.underlying d with
  | some (.int _),some (.int _)=>true
  | _,_=>false
 | .nilCheck _=>true
 | .buildSlice ..=>true
 | _=>false
def valOnly (P:Program) (s:Sem Next):Prop:=∀w,match s.run P w with
 | .ok (.value _) _|.halt _ _=>True
 | _=>False
theorem valOnly_v {P:Program} (s:Sem Value):valOnly P (do pure (.value (←s))):=by
 intro w
 have e:(do pure (Next.value (←s)):Sem Next)=s.bind fun v=>.pure (.value v):=rfl
 rw[e,Sem.run_bind']
 cases s.run P w<;>simp[Sem.run]
theorem calm_v {P:Program} {s:Sem Value} (h:calm P s):calm P (do pure (.value (←s)):Sem Next):=calm_bind' _ _ h fun _=>calm_pure _
theorem calm_part {P:Program} (t:TypeId) (cs:Array Value) (o:Nat):calm P (part t cs o):=by
 unfold part
 repeat' (first|with_reducible exact calm_pure _|with_reducible exact calm_stuck _|with_reducible exact calm_isAgg _|with_reducible exact calm_sizeOf _|(with_reducible refine calm_bind' _ _ ?_ fun _=>?_)|split)
theorem calm_followBlind {P:Program}:∀(l:List FieldStep) (t:TypeId) (x:Option Value),calm P (followBlind l t x)
 | [],_,_=>trivial
 | s :: rest,t,x=>by
  unfold followBlind
  repeat' (first|with_reducible exact calm_pure _|with_reducible exact calm_stuck _|with_reducible exact calm_underlying _|with_reducible exact calm_part _ _ _|with_reducible exact calm_followBlind _ _ _|(with_reducible refine calm_bind' _ _ ?_ fun _=>?_)|split)
theorem calm_nilAhead {P:Program}:∀(n:Nat) (t:TypeId) (v:Value) (s:String),calm P (nilAhead n t v s)
 | 0,_,_,_=>trivial
 | n+1,t,v,s=>by
  unfold nilAhead
  repeat' (first|with_reducible exact calm_pure _|with_reducible exact calm_stuck _|with_reducible exact calm_underlying _|with_reducible exact calm_typeInfo _|with_reducible exact calm_followBlind _ _ _|with_reducible exact calm_nilAhead _ _ _ _|(with_reducible refine calm_bind' _ _ ?_ fun _=>?_)|split)
theorem valOnly_bind {P:Program} {α:Type} (s:Sem α) {f:α→Sem Next} (h:∀a,valOnly P (f a)):valOnly P (s.bind f):=by
 intro w
 rw[Sem.run_bind']
 cases s.run P w with
 | ok a w'=>exact h a w'
 | halt=>trivial
theorem valOnly_pure {P:Program} (v:Value):valOnly P (pure (.value v)):=fun _=>trivial
theorem calmOp_calm {P:Program} {o:Oper} (h:calmOp P o=true) (ρ:Operand→Value):calm P (execOp ρ o)∧valOnly P (execOp ρ o):=by
 obtain⟨d,op,ty,ps,af,g⟩:=o
 unfold calmOp at h
 cases op<;>simp only at h<;>try (cases h;done)
 case move x=>exact⟨calm_pure _,fun w=>trivial⟩
 case assign x=>exact⟨calm_pure _,fun w=>trivial⟩
 case pick c a b=>exact⟨calm_bind' _ _ (calm_asBool _) fun _=>calm_pure _,valOnly_bind _ fun _=>valOnly_pure _⟩
 case box e v=>exact⟨calm_v (by unfold Instr.box;exact calm_bind' _ _ (calm_newVar _ _) fun _=>calm_pure _),valOnly_v _⟩
 case load t a=>exact⟨calm_v (by unfold Instr.loadAt;exact calm_bind' _ _ (calm_sureAddr _) fun _=>calm_loadVar _ _),valOnly_v _⟩
 case extract t i=>exact⟨calm_v (by unfold Instr.extract;repeat' (first|exact calm_pure _|exact calm_stuck _|split)),valOnly_v _⟩
 case indexAddr t x i=>
  refine⟨calm_v ?_,valOnly_v _⟩
  unfold Instr.indexAt
  repeat' (first|with_reducible exact calm_pure _|with_reducible exact calm_stuck _|with_reducible exact calm_unsupported _|with_reducible exact calm_asIntOf _|with_reducible exact calm_underlying _|with_reducible exact calm_sureAddr _|with_reducible exact calm_sizeOf _|with_reducible exact calm_boundsPanic _ _ _ _|(with_reducible refine calm_ite _ _ _ ?_ ?_)|(with_reducible refine calm_bind' _ _ ?_ fun _=>?_)|split|dsimp only)
 case fieldAddr s x i=>
  refine⟨calm_v ?_,valOnly_v _⟩
  unfold fieldT at h
  unfold Instr.fieldAt
  split at h
  ·rename_i fs hu
   refine calm_underlying_bind hu ?_
   split at h
   ·rename_i f hf
    simp only[hf]
    refine calm_bind' _ _ (calm_sureAddr _) fun a=>calm_bind' _ _ ?_ fun _=>calm_pure _
    split at h
    ·rename_i j hj
     split at h
     ·cases h
     ·rename_i hz
      unfold fieldPlace sizeOf typeInfo
      show calm P ((match P.info? f.type with|some i=>(Pure.pure i:Sem TypeInfo)|none=>stuck "no such type") >>= _ >>= _)
      rw[hj]
      show calm P (if j.size=0 then _ else _)
      rw[if_neg hz]
      exact calm_pure _
    ·cases h
   ·cases h
  ·cases h
 case binOp op t x y u=>
  refine⟨calm_v ?_,valOnly_v _⟩
  split at h
  ·rename_i k hu
   exact calm_bind' _ _ (calm_eqGuard _ _ _ _ _ hu trivial) fun _=>calm_binOp _ _ _ (calm_equal_int _ _ hu)
  ·rename_i hu
   exact calm_bind' _ _ (calm_eqGuard _ _ _ _ _ hu trivial) fun _=>calm_binOp _ _ _ (calm_equal_bool _ _ hu)
  ·cases h
 case unOp op t x=>
  cases op<;>simp only at h<;>try (cases h;done)
  refine⟨calm_v ?_,valOnly_v _⟩
  unfold Op.unary
  repeat' (first|exact calm_pure _|exact calm_stuck _|exact calm_unsupported _|split)
 case convert s d x=>
  refine⟨calm_v ?_,valOnly_v _⟩
  split at h
  ·rename_i hs hd
   unfold convert
   refine calm_underlying_bind hs (calm_underlying_bind hd ?_)
   split<;>first
    | contradiction
    | (unfold Conv.intToInt;exact calm_pure _)
    | (unfold Conv.floatToInt;repeat' (first|with_reducible exact calm_pure _|with_reducible exact calm_stuck _|with_reducible exact calm_unsupported _|with_reducible exact calm_choose _|(with_reducible refine calm_ite _ _ _ ?_ ?_)|(with_reducible refine calm_bind' _ _ ?_ fun _=>?_)|split|dsimp only))
    | exact calm_unsupported _
  ·cases h
 case nilCheck x=>
  simp only[execOp]
  split
  ·exact⟨calm_runtimePanic _,fun w=>by simp[runtimePanic]⟩
  ·exact⟨calm_runtimePanic _,fun w=>by simp[runtimePanic]⟩
  ·exact⟨calm_runtimePanic _,fun w=>by simp[runtimePanic]⟩
  ·split
   ·exact⟨calm_runtimePanic _,fun w=>by simp[runtimePanic]⟩
   ·refine⟨?_,?_⟩
    ·repeat' (first|with_reducible exact calm_pure _|with_reducible exact calm_unsupported _|with_reducible exact calm_program|with_reducible exact calm_nilAhead _ _ _ _|(with_reducible refine calm_bind' _ _ ?_ fun _=>?_)|(with_reducible refine calm_ite _ _ _ ?_ ?_))
    ·refine valOnly_bind _ fun _=>valOnly_bind _ fun _=>?_
     split
     ·exact valOnly_bind _ fun _=>valOnly_pure _
     ·exact valOnly_pure _
   ·exact⟨calm_pure _,fun w=>trivial⟩
  ·exact⟨calm_pure _,fun w=>trivial⟩
 case buildSlice t n ps=>
  refine⟨calm_v ?_,valOnly_v _⟩
  unfold Instr.buildSlice newRow
  repeat' (first|with_reducible exact calm_pure _|with_reducible exact calm_stuck _|with_reducible exact calm_unsupported _|with_reducible exact calm_underlying _|with_reducible exact calm_newObj _|with_reducible exact calm_zeroValue _|with_reducible exact calm_sizeOf _|(with_reducible refine calm_ite _ _ _ ?_ ?_)|(with_reducible refine calm_bind' _ _ ?_ fun _=>?_)|split|dsimp only)
structure Closed (ops:Array Oper) (listed:Array Bool):Prop where
 size:listed.size=ops.size
 closed:∀j oj,ops[j]?=some oj→listed.getD j false=true→∀e∈oj.after,Region.binds .any e=true→listed.getD e.on false=true
theorem getDft {listed:Array Bool} {i:Nat} (h:listed.getD i true=false):listed.getD i false=false:=by
 rcases Nat.lt_or_ge i listed.size with h'|h'
 ·simp[h'] at h ⊢;exact h
 ·simp[Array.getElem?_eq_none h'] at h
theorem Closed.set {ops:Array Oper} {listed:Array Bool} (C:Closed ops listed) {i:Nat} (hi:i∈Region.ready .any ops listed):Closed ops (listed.setIfInBounds i true):=by
 obtain⟨_,oi,hoi,hall⟩:=mem_ready.1 hi
 refine⟨by simp[C.size],fun j oj hj hl e he hb=>?_⟩
 by_cases hij:i=j
 ·subst hij
  obtain rfl:oj=oi:=Option.some.inj (hj.symm.trans hoi)
  exact getD_set_true (hall e he hb)
 ·rw[getD_set_ne false hij] at hl
  exact getD_set_true (C.closed j oj hj hl e he hb)
def wacc (i:Nat):List Oper→Array Bool→Array Bool
 | [],acc=>acc
 | o :: os,acc=>wacc i os (acc.push (o.after.any fun e=>Region.binds .any e && (e.on == i || acc.getD e.on false)))
theorem Closed.wacc {ops:Array Oper} {listed:Array Bool} (C:Closed ops listed) {i:Nat} (hi:listed.getD i false=false):∀(os:List Oper) (acc:Array Bool),(∀k,os[k]?=ops[acc.size+k]?) →
  (∀j,acc.getD j false=true→listed.getD j false=false)→∀j,(Lf.wacc i os acc).getD j false=true→listed.getD j false=false
 | [],acc,_,ha,j,h=>ha j h
 | o :: os,acc,ho,ha,j,h=>by
  have h0:ops[acc.size]?=some o:=by simpa using (ho 0).symm
  refine C.wacc hi os _ (fun k=>?_) (fun j hj=>?_) j h
  ·have:=ho (k+1)
   simp only[Array.size_push]
   rw[show acc.size+1+k=acc.size+(k+1) by omega]
   simpa using this
  ·by_cases e:j=acc.size
   ·subst e
    simp only[Array.getD_eq_getD_getElem?,Array.getElem?_push_size,Option.getD_some] at hj
    obtain⟨e,he,hb⟩:=Array.any_eq_true'.1 hj
    simp only[Bool.and_eq_true,Bool.or_eq_true,beq_iff_eq] at hb
    obtain⟨hb1,hb2⟩:=hb
    cases hl:listed.getD acc.size false with
    | false=>rfl
    | true=>
     have h1:=C.closed acc.size o h0 hl e he hb1
     rcases hb2 with hb2|hb2
     ·rw[hb2,hi] at h1;cases h1
     ·rw[ha _ (by simpa [Array.getD_eq_getD_getElem?] using hb2)] at h1;cases h1
   ·refine ha j ?_
    simp only[Array.getD_eq_getD_getElem?,Array.getElem?_push,if_neg e] at hj ⊢
    exact hj
def takeable (P:Program) (pure:Bool) (ops:Array Oper) (listed:Array Bool) (i:Nat):Bool:=
 match ops[i]? with
 | none=>false
 | some oi=>(Region.ready .any ops listed).contains i && Region.noSelect ops &&
  (List.range ops.size).all fun j=>j == i || listed.getD j true || match ops[j]? with
   | some oj=>oj.after.any (fun e=>Region.binds .any e && e.on == i) || (oi.apart ops oj && (pure || calmOp P oj || (wacc i ops.toList #[]).getD j false))
   | none=>true
section
variable {P:Program} {ops:Array Oper} {Q:Exit→Act→World→Prop}
def YieldsP (P:Program) (pure:Bool) (ops:Array Oper) (o:Oper) (v:Value) (a:Act) (w:World):Prop:=
 (Region.wanted o (yielded ops a.tmps)=true∧∀w',(pure=true∨Ext w w')→(execOp a.eval o).run P w'=.ok (.value v) w') ∨
 (Region.wanted o (yielded ops a.tmps)=false∧v=undef)
theorem YieldsP.wpOp {pure:Bool} {i:Nat} {o:Oper} {v:Value} {a:Act} {w:World} (hi:ops[i]?=some o) (hy:YieldsP P pure ops o v a w)
  {K:Act→World→Prop} (h:K (a.put o.dst v) w):wpOp P ops Q i K a w:=by
 unfold Go.wpOp
 simp only[hi]
 rcases hy with⟨hw,hv⟩|⟨hw,rfl⟩
 ·simp only[hw,if_true,Oper.wp,hv w (.inr (Ext.refl w)),Oper.upon];exact .inl h
 ·simp only[hw,Bool.false_eq_true,if_false];exact h
theorem YieldsP.of_same {pure:Bool} {o:Oper} {v:Value} {a a':Act} {w w':World} (hy:YieldsP P pure ops o v a w) (he:execOp a'.eval o=execOp a.eval o)
  (hw:Region.wanted o (yielded ops a'.tmps)=Region.wanted o (yielded ops a.tmps)) (hx:pure=true∨Ext w w'):YieldsP P pure ops o v a' w':=by
 unfold YieldsP at *
 rw[he,hw]
 refine hy.imp (fun ⟨h1,h2⟩=>⟨h1,fun w'' h3=>h2 w'' ?_⟩) id
 rcases h3 with h3|h3
 ·exact .inl h3
 ·rcases hx with hx|hx
  ·exact .inl hx
  ·exact .inr (hx.trans h3)
theorem wpOp_ahead {pure:Bool} {j:Nat} {oi oj:Oper} {v:Value} (hj:ops[j]?=some oj) (hap:oi.apart ops oj=true)
  (hsi:∀cs b,oi.op≠.select cs b) (hsj:∀cs b,oj.op≠.select cs b) (hc:pure=true∨calmOp P oj=true)
  (hQ:∀c a w,Q (.panic c) (a.put oi.dst v) w→Q (.panic c) a w) {K:Act→World→Prop} {a:Act} {w:World}
  (hy:YieldsP P pure ops oi v a w) (h:wpOp P ops Q j K (a.put oi.dst v) w) :
  wpOp P ops Q j (fun a' w'=>YieldsP P pure ops oi v a' w'∧K (a'.put oi.dst v) w') a w:=by
 obtain⟨h1,h2,h3⟩:=Oper.apart_spec hap
 have keep:∀(a:Act) (w w':World),YieldsP P pure ops oi v a w→(pure=true∨Ext w w')→∀u,YieldsP P pure ops oi v (a.put oj.dst u) w':=fun a w w' hy hx u=>
  hy.of_same (execOp_put oi hsi a oj.dst u h3) (wanted_put oi a oj.dst u h3) hx
 unfold wpOp at *
 simp only[hj] at *
 rw[wanted_put oj a oi.dst v h1] at h
 split
 ·rename_i hw
  simp only[hw,if_true] at h
  rcases h with h|⟨hasks,hlets⟩
  case inr=>exact .inr ⟨by unfold Oper.asks at *;rw[execOp_put oj hsj a oi.dst v h1] at hasks;exact hasks,hlets⟩
  refine .inl ?_
  unfold Oper.wp at *
  rw[execOp_put oj hsj a oi.dst v h1] at h
  have hval:pure=true∨(calm P (execOp a.eval oj)∧valOnly P (execOp a.eval oj)):=hc.imp id fun hc=>calmOp_calm hc a.eval
  cases hr:(execOp a.eval oj).run P w with
  | ok n w'=>
   have hx:pure=true∨Ext w w':=hval.imp id fun hv=>calm_run hv.1 hr
   rw[hr] at h
   cases n<;>simp only[Oper.upon] at h ⊢
   case value u=>exact⟨keep a w w' hy hx u,by rw[←Act.put_comm a v u h2];exact h⟩
   case skip=>exact⟨keep a w w' hy hx _,by rw[←Act.put_comm a v undef h2];exact h⟩
   case defer d=>
    refine⟨(keep { a with defers:=d :: a.defers } w w' (hy.of_same rfl rfl (.inr (Ext.refl w))) hx _),?_⟩
    rw[←Act.put_comm _ v undef h2,←Act.put_defers]
    exact h
   case enter f args=>
    rcases hval with hp|hp
    ·refine Calls.mono h fun e w'' he=>?_
     cases e with
     | returned u=>exact⟨keep a w w'' hy (.inl hp) u,by rw[←Act.put_comm a v u h2];exact he⟩
     | panicked c=>exact hQ _ _ _ he
     | outgrown=>exact he
    ·have:=hp.2 w
     rw[hr] at this
     exact this.elim
   case row row args=>
    rcases hval with hp|hp
    ·exact Rows.mono h fun u w'' he=>⟨keep a w w'' hy (.inl hp) u,by rw[←Act.put_comm a v u h2];exact he⟩
    ·have:=hp.2 w
     rw[hr] at this
     exact this.elim
  | halt x w'=>
   rw[hr] at h
   cases x<;>simp only[Oper.upon] at h ⊢
   case panic u=>exact hQ _ _ _ h
 ·rename_i hw
  simp only[hw] at h
  exact⟨keep a w w hy (.inr (Ext.refl w)) _,by rw[←Act.put_comm a v undef h2];exact h⟩
theorem wpAny_taken {pure:Bool} {i:Nat} {oi:Oper} {v:Value} (hi:ops[i]?=some oi) (hsel:∀(j:Nat) (o:Oper) cs b,ops[j]?=some o→o.op≠.select cs b)
  (hQ:∀c a w,Q (.panic c) (a.put oi.dst v) w→Q (.panic c) a w) :
  ∀(fuel:Nat) (listed:Array Bool) (a:Act) (w:World),Closed ops listed →
   (∀j oj,ops[j]?=some oj→j≠i→listed.getD j true=false→(∀e∈oj.after,Region.binds .any e=true→e.on≠i) →
    oi.apart ops oj=true∧(pure=true∨calmOp P oj=true∨(wacc i ops.toList #[]).getD j false=true)) →
   i∈Region.ready .any ops listed→YieldsP P pure ops oi v a w →
   wpAny P .any ops Q fuel (listed.setIfInBounds i true) (a.put oi.dst v) w→wpAny P .any ops Q (fuel+1) listed a w:=by
 intro fuel
 induction fuel with
 | zero=>
  intro listed a w _ _ hr hy H
  refine⟨fun h=>(by rw[h] at hr;cases hr),fun j hj=>?_⟩
  by_cases hji:j=i
  ·subst hji;exact hy.wpOp hi H
  ·have:=ready_mono hj hji
   rw[H.1] at this
   cases this
 | succ fuel ih=>
  intro listed a w C hfree hr hy H
  refine⟨fun h=>(by rw[h] at hr;cases hr),fun j hj=>?_⟩
  by_cases hji:j=i
  ·subst hji;exact hy.wpOp hi H
  ·have h1:=H.2 j (ready_mono hj hji)
   obtain⟨hjun,oj,hoj,hall⟩:=mem_ready.1 hj
   have hiun:=getDft (mem_ready.1 hr).1
   have hnot:∀e∈oj.after,Region.binds .any e=true→e.on≠i:=fun e he hb heq=>by
    have h2:=hall e he hb
    rw[heq,hiun] at h2
    cases h2
   obtain⟨hap,hcase⟩:=hfree j oj hoj hji hjun hnot
   have hc:pure=true∨calmOp P oj=true:=by
    rcases hcase with h|h|h
    ·exact .inl h
    ·exact .inr h
    ·exfalso
     have Cj:=C.set hj
     have hij:(listed.setIfInBounds j true).getD i false=false:=by rw[getD_set_ne false hji];exact hiun
     have h2:=Cj.wacc hij ops.toList #[] (by simp) (by simp) j h
     have hlt:j<listed.size:=by
      rw[C.size];exact (Array.getElem?_eq_some_iff.1 hoj).1
     simp[hlt] at h2
   have h2:=wpOp_ahead hoj hap (fun cs b=>hsel i oi cs b hi) (fun cs b=>hsel j oj cs b hoj) hc hQ hy h1
   have hfree':∀k ok,ops[k]?=some ok→k≠i→(listed.setIfInBounds j true).getD k true=false →
     (∀e∈ok.after,Region.binds .any e=true→e.on≠i)→oi.apart ops ok=true∧(pure=true∨calmOp P ok=true∨(wacc i ops.toList #[]).getD k false=true):=fun k ok hk hki hun hno=>by
    refine hfree k ok hk hki ?_ hno
    by_cases hjk:j=k
    ·subst hjk;exact hjun
    ·rw[getD_set_ne true hjk] at hun;exact hun
   refine wpOp_mono (fun a' w' h3=>ih (listed.setIfInBounds j true) a' w' (C.set hj) hfree' (ready_mono hr (Ne.symm hji)) h3.1 ?_) h2
   rw[Array.setIfInBounds_comm _ _ hji]
   exact h3.2
end
end Go.Lf
namespace Go.Lf
open Go
def AN (P:Program) (ops:Array Oper) (N:Act→World→Prop) (fuel:Nat) (listed:Array Bool) (a:Act) (w:World):Prop:=
 Closed ops listed→∀X R,wpAny P .any ops (Qx N X R) fuel listed a w
section
variable {P:Program} {ops:Array Oper} {N:Act→World→Prop} {X:Nat→Act→World→Prop} {R:Act→World→Prop} {a:Act} {w w0:World}
variable {n d fuel:Nat} {E:List (Nat×Value)} {h:Heap} {o:Oper} {listed:Array Bool} {v:Value}
theorem St.drew (S:St n E h w0 a w):St n E h w0 a { w with drawn:=w.drawn+1 }:=⟨S.size,S.at_,S.defers,S.heap,⟨S.rest.os,S.rest.tape,S.rest.output⟩⟩
theorem repl_false (m j:Nat):(Array.replicate m false).getD j false=false:=by
 rw[Array.getD_eq_getD_getElem?,Array.getElem?_replicate]
 split<;>rfl
theorem W.regionD {id:Nat} {l:List Oper} (S:St n E h w0 a w) (hm:P.follows .mixedOrders=true)
  (k:∀w',St n E h w0 a w'→AN P l.toArray N l.toArray.size (Array.replicate l.toArray.size false) a w'):W P (.region id l.toArray true) N X R a w:=by
 refine wp_region_any hm (k _ S.drew ?_ X R)
 refine⟨by simp,fun j oj _ hl=>?_⟩
 rw[repl_false] at hl
 cases hl
theorem takeable_spec {pure:Bool} {i:Nat} (hi:ops[i]?=some o) (ht:takeable P pure ops listed i=true) :
  i∈Region.ready .any ops listed∧Region.noSelect ops=true ∧
  ∀j oj,ops[j]?=some oj→j≠i→listed.getD j true=false→(∀e∈oj.after,Region.binds .any e=true→e.on≠i) →
    o.apart ops oj=true∧(pure=true∨calmOp P oj=true∨(wacc i ops.toList #[]).getD j false=true):=by
 unfold takeable at ht
 simp only[hi,Bool.and_eq_true] at ht
 obtain⟨⟨h1,h2⟩,h3⟩:=ht
 refine⟨by simpa using h1,h2,fun j oj hj hne hun hno=>?_⟩
 rw[List.all_eq_true] at h3
 have h4:=h3 j (List.mem_range.2 (Array.getElem?_eq_some_iff.1 hj).1)
 simp only[hj,Bool.or_eq_true,beq_iff_eq,hne,false_or,hun,Bool.false_eq_true] at h4
 rcases h4 with h4|h4
 ·obtain⟨e,he,hb⟩:=Array.any_eq_true'.1 h4
  simp only[Bool.and_eq_true,beq_iff_eq] at hb
  exact absurd hb.2 (hno e he hb.1)
 ·simp only[Bool.and_eq_true,Bool.or_eq_true] at h4
  refine⟨h4.1,?_⟩
  rcases h4.2 with (h5|h5)|h5
  ·exact .inl h5
  ·exact .inr (.inl h5)
  ·exact .inr (.inr h5)
theorem AN.taken {pure:Bool} (i:Nat) (S:St n E h w0 a w) (hi:ops[i]?=some o) (ht:takeable P pure ops listed i=true)
  (hy:YieldsP P pure ops o v a w) (hd:o.dst=some d) (hn:Nat.blt d n=true)
  (k:∀a',St n ((d,v) :: E) h w0 a' w→AN P ops N fuel (listed.setIfInBounds i true) a' w):AN P ops N (fuel+1) listed a w:=by
 intro C X R
 obtain⟨h1,h2,h3⟩:=takeable_spec hi ht
 refine wpAny_taken hi (Region.noSelect_spec h2) (fun _ _ _ h=>h) fuel listed a w C h3 h1 hy ?_
 rw[hd]
 exact k _ (S.put (by simpa [Nat.blt_eq] using hn) v S.heap (Rest.refl w)) (C.set h1) X R
theorem AN.pure (i:Nat) (S:St n E h w0 a w) (hi:ops[i]?=some o) (ht:takeable P true ops listed i=true) (r:∀w',(execOp a.eval o).run P w'=.ok (.value v) w')
  (hd:o.dst=some d) (hn:Nat.blt d n=true) (g:GOk ops E o.guard)
  (k:∀a',St n ((d,v) :: E) h w0 a' w→AN P ops N fuel (listed.setIfInBounds i true) a' w):AN P ops N (fuel+1) listed a w:=
 AN.taken i S hi ht (.inl ⟨S.wanted g,fun w' _=>r w'⟩) hd hn k
theorem AN.load (i:Nat) (S:St n E h w0 a w) (hi:ops[i]?=some o) (ht:takeable P false ops listed i=true) (r:∀w',Ext w w'→(execOp a.eval o).run P w'=.ok (.value v) w')
  (hd:o.dst=some d) (hn:Nat.blt d n=true) (g:GOk ops E o.guard)
  (k:∀a',St n ((d,v) :: E) h w0 a' w→AN P ops N fuel (listed.setIfInBounds i true) a' w):AN P ops N (fuel+1) listed a w:=
 AN.taken i S hi ht (.inl ⟨S.wanted g,fun w' hw'=>r w' (hw'.resolve_left (by simp))⟩) hd hn k
theorem AN.not (i:Nat) (S:St n E h w0 a w) (hi:ops[i]?=some o) (ht:takeable P true ops listed i=true)
  (hd:o.dst=some d) (hn:Nat.blt d n=true) (g:GNo ops E o.guard)
  (k:∀a',St n ((d,undef) :: E) h w0 a' w→AN P ops N fuel (listed.setIfInBounds i true) a' w):AN P ops N (fuel+1) listed a w:=
 AN.taken i S hi ht (.inr ⟨S.unwanted g,rfl⟩) hd hn k
theorem wpOp_of_OL {i:Nat} {K:Act→World→Prop} (hi:ops[i]?=some o) (hh:OL P ops K [o] a w):wpOp P ops (Qx N X R) i K a w:=by
 have h1:=hh (fun _ _ _=>False) (fun _ _=>False)
 unfold wpOp
 simp only[hi]
 unfold wpList at h1
 split
 ·rename_i hw
  rw[if_pos hw] at h1
  rcases h1 with h1|⟨_,a1,w1,h2⟩
  ·refine .inl ?_
   unfold Oper.wp at *
   generalize (execOp a.eval o).run P w=r at *
   cases r with
   | ok x w'=>
    cases x<;>simp only[Oper.upon] at h1 ⊢
    case value=>exact h1
    case skip=>exact h1
    case defer=>exact h1
    case enter=>
     refine h1.mono ?_
     rintro e w'' he
     cases e with
     | returned v=>exact he
     | panicked c=>exact he.elim
     | outgrown=>obtain⟨a1,w1,h2⟩:=he;exact h2.elim
    case row=>exact h1.mono fun v w'' he=>he
   | halt x w'=>cases x<;>simp only[Oper.upon] at h1 ⊢<;>exact h1.elim
  ·exact h2.elim
 ·rename_i hw
  rw[if_neg hw] at h1
  exact h1
theorem AN.eff (i:Nat) (hi:ops[i]?=some o) (hr:Region.ready .any ops listed=[i]) (hh:OL P ops (fun a' w'=>AN P ops N fuel (listed.setIfInBounds i true) a' w') [o] a w):AN P ops N (fuel+1) listed a w:=by
 intro C X R
 refine⟨fun h0=>(by rw[hr] at h0;cases h0),fun j hj=>?_⟩
 rw[hr] at hj
 obtain rfl:j=i:=by simpa using hj
 have hm:j∈Region.ready .any ops listed:=by rw[hr];simp
 exact wpOp_mono (fun a' w' h'=>h' (C.set hm) X R) (wpOp_of_OL (N:=N) (X:=X) (R:=R) hi hh)
theorem AN.done (hr:Region.ready .any ops listed=[]) (hN:N a w):AN P ops N fuel listed a w:=fun _ _ _=>wpAny_done hr hN fuel
theorem Ext.row {w w':World} (hx:Ext w w') {p:Addr} {cs:List Value} (hr:Row w.heap p cs):Row w'.heap p cs:=fun j v hv=>hx.cell _ _ (hr j v hv)
theorem St.row (S:St n E h w0 a w) {p:Addr} {cs:List Value} (hr:RowL h p 0 cs):Row w.heap p cs:=by rw[S.heap];exact hr.toRow
def evp (E:List (Nat×Value)):List (Nat×Operand)→Option (List (Nat×Value))
 | []=>some []
 | (i,x) :: xs=>match evo E x,evp E xs with
  | some v,some vs=>some ((i,v) :: vs)
  | _,_=>none
theorem parts_list (S:St n E h w0 a w):∀ {ps:List (Nat×Operand)} {vs:List (Nat×Value)},evp E ps=some vs→ps.map (fun (i,x)=>(i,a.eval x))=vs
 | [],vs,hx=>by simp[evp] at hx;simp[hx]
 | (i,x) :: xs,vs,hx=>by
  simp only[evp] at hx
  split at hx
  ·rename_i v us h1 h2
   simp at hx
   subst hx
   simp[S.ev h1,parts_list S h2]
  ·simp at hx
theorem parts_map (S:St n E h w0 a w) {ps:Array (Nat×Operand)} {vs:List (Nat×Value)} (hx:evp E ps.toList=some vs):(ps.map fun (i,x)=>(i,a.eval x)).toList=vs:=by
 rw[Array.toList_map]
 exact parts_list S hx
end
section
variable {P:Program} {a:Act} {w:World} {d:Option Tmp} {ty:TypeId} {ps:String} {af:Array Edge} {g:Option (Nat×Bool)} {x y z:Operand} {v:Value} {t:TypeId}
theorem equalIn_snil {e:TypeId} {q:Option Addr} {m c m' c':Nat} (ht:P.underlying t=some (.slice e)):(Op.equal t (.slice q m c) (.slice none m' c')).run P w=.ok (q.isNone) w:=by
 show (Op.equalIn (9999+1) t _ _).run P w=_
 rw[Op.equalIn]
 cases q<;>simp[underlying_run ht]
theorem run_eqlsn {e:TypeId} {q:Option Addr} {m c m' c':Nat} {u'} (ht:P.underlying t=some (.slice e)) (hx:a.eval x=.slice q m c) (hy:a.eval y=.slice none m' c'):(execOp a.eval ⟨d,.binOp .eql t x y u',ty,ps,af,g⟩).run P w=.ok (.value (.bool q.isNone)) w:=by
 simp[execOp,hx,hy,eqGuard,binOp,equalIn_snil ht]
theorem run_mf {fn:Fn} {c:Array Operand} {vs:Array Value} (hc:c.map a.eval=vs):(execOp a.eval ⟨d,.makeFunc fn #[] c,ty,ps,af,g⟩).run P w=.ok (.value (.func fn #[] vs)) w:=by
 simp[execOp,Instr.makeFunc,hc]
theorem run_alloc {e:TypeId} {zv:Value} {s b:Nat} (hz:tinfo P e=some (some zv,s,b)) :
  (execOp a.eval ⟨d,.alloc e,ty,ps,af,g⟩).run P w=.ok (.value (.pointer (some ⟨w.heap.size,0,none⟩))) { w with heap:=w.heap.push (.cells zv.cells e) }:=by
 simp[execOp,Instr.alloc,zeroValue_run hz,newVar,newRow]
theorem run_neqt {s u:ByteArray} {u'} (hx:a.eval x=.string s) (hy:a.eval y=.string u):(execOp a.eval ⟨d,.binOp .neq t x y u',ty,ps,af,g⟩).run P w=.ok (.value (.bool (s.toList != u.toList))) w:=by
 simp[execOp,hx,hy,eqGuard,binOp,Op.stringOp,bne]
end
section
variable {P:Program} {ops:Array Oper} {N:Act→World→Prop} {rest:List Oper} {a:Act} {w w0:World} {n d:Nat} {E:List (Nat×Value)} {h:Heap}
variable {ty:TypeId} {ps:String} {af:Array Edge} {g:Option (Nat×Bool)}
theorem ol_alloc {e:TypeId} {K:Addr→Heap→Prop} {zv:Value} {s b:Nat} {cs:Array Value} (S:St n E h w0 a w) (H:new e cs h K) (hz:tinfo P e=some (some zv,s,b)) (hc:zv.cells=cs) (hn:Nat.blt d n=true) (hg:GOk ops E g)
  (k:∀p a' w' h',K p h'→St n ((d,.pointer (some p)) :: E) h' w0 a' w'→OL P ops N rest a' w'):OL P ops N (⟨some d,.alloc e,ty,ps,af,g⟩ :: rest) a w:=by
 subst hc
 have r:=run_alloc (P:=P) (w:=w) (a:=a) (d:=some d) (ty:=ty) (ps:=ps) (af:=af) (g:=g) hz
 rw[S.heap] at r
 exact OL.val S r rfl hn rfl ⟨rfl,rfl,rfl⟩ hg fun a' S'=>k _ a' _ _ (H _ _ rfl rfl) S'
theorem evs_map (S:St n E h w0 a w) {c:Array Operand} {vs:Array Value} (ha:evs E c.toList=some vs.toList):c.map a.eval=vs:=by
 have:=S.evl ha
 apply Array.ext'
 simpa using this
end
end Go.Lf
namespace Go.Lf
open Go
def blk (h:Heap) (b:Nat) (cs:Array Value):Prop:=∃E,h[b]?=some (.cells cs E (0,0))
theorem blk.lt {h:Heap} {b:Nat} {cs:Array Value} (k:blk h b cs):b<h.size:=by
 obtain⟨E,k⟩:=k
 rcases Nat.lt_or_ge b h.size with e|e
 ·exact e
 ·simp[Array.getElem?_eq_none e] at k
theorem blk.cl {h:Heap} {b:Nat} {cs:Array Value} (k:blk h b cs) (o:Nat):cl h ⟨b,o,none⟩=cs[o]?:=by
 obtain⟨E,k⟩:=k;simp[Lf.cl,k]
theorem blk.fz {h:Heap} {b:Nat} {cs:Array Value} (k:blk h b cs) (o:Nat):fz h ⟨b,o,none⟩=false:=by
 obtain⟨E,k⟩:=k;simp[Lf.fz,k]
theorem blk.push {h:Heap} {b:Nat} {cs:Array Value} (k:blk h b cs) (o:Obj):blk (h.push o) b cs:=by
 have:=k.lt
 obtain⟨E,k⟩:=k
 exact⟨E,by rw[Array.getElem?_push,if_neg (by omega)];exact k⟩
theorem blk.new (h:Heap) (cs:Array Value) (E:TypeId):blk (h.push (.cells cs E)) h.size cs:=⟨E,by simp⟩
theorem blk.sc {h:Heap} {b:Nat} {cs:Array Value} (k:blk h b cs) (o:Nat) (v:Value):blk (sc h ⟨b,o,none⟩ v) b (cs.setIfInBounds o v):=by
 obtain⟨E,k⟩:=k
 exact⟨E,by rw[sc_get,if_pos rfl,k];rfl⟩
@[simp] theorem add_plain (b o n:Nat):(⟨b,o,none⟩:Addr).add n=⟨b,o+n,none⟩:=by
 unfold Addr.add;split<;>simp_all
structure Fr (T:Nat→Prop) (h h':Heap):Prop where
 size:h.size≤h'.size
 same:∀b,b<h.size→¬T b→h'[b]?=h[b]?
abbrev Grow (h h':Heap):Prop:=Fr (fun _=>False) h h'
theorem Fr.refl (T:Nat→Prop) (h:Heap):Fr T h h:=⟨Nat.le_refl _,fun _ _ _=>rfl⟩
theorem Fr.trans {T:Nat→Prop} {a b c:Heap} (x:Fr T a b) (y:Fr T b c):Fr T a c:=
 ⟨Nat.le_trans x.size y.size,fun i hi hT=>(y.same i (Nat.lt_of_lt_of_le hi x.size) hT).trans (x.same i hi hT)⟩
theorem Fr.trans' {T T':Nat→Prop} {a b c:Heap} (x:Fr T a b) (y:Fr T' b c) (hT:∀i,i<a.size→T' i→T i):Fr T a c:=
 ⟨Nat.le_trans x.size y.size,fun i hi hn=>(y.same i (Nat.lt_of_lt_of_le hi x.size) (fun h=>hn (hT i hi h))).trans (x.same i hi hn)⟩
theorem Fr.mono {T T':Nat→Prop} {a b:Heap} (x:Fr T a b) (hT:∀i,i<a.size→T i→T' i):Fr T' a b:=
 ⟨x.size,fun i hi hn=>x.same i hi fun h=>hn (hT i hi h)⟩
theorem Fr.push (T:Nat→Prop) (h:Heap) (o:Obj):Fr T h (h.push o):=⟨by simp,fun b hb _=>by rw[Array.getElem?_push,if_neg (by omega)]⟩
theorem Fr.sc {T:Nat→Prop} (h:Heap) {p:Addr} (hp:T p.block) (v:Value):Fr T h (Lf.sc h p v):=
 ⟨by rw[sc_size];exact Nat.le_refl _,fun b _ hT=>by
  have hne:p.block≠b:=fun e=>hT (by rw[←e];exact hp)
  rw[sc_get,if_neg hne]⟩
theorem Fr.scb (h:Heap) (g o:Nat) (v:Value):Fr (fun b=>b=g) h (Lf.sc h ⟨g,o,none⟩ v):=Fr.sc (T:=fun b=>b=g) h (p:=⟨g,o,none⟩) rfl v
theorem Fr.blk {T:Nat→Prop} {h h':Heap} (x:Fr T h h') {b:Nat} {cs:Array Value} (k:blk h b cs) (hT:¬T b):Lf.blk h' b cs:=by
 have:=x.same b k.lt hT
 obtain⟨E,k⟩:=k
 exact⟨E,by rw[this,k]⟩
theorem Fr.cl {T:Nat→Prop} {h h':Heap} (x:Fr T h h') {p:Addr} (hl:p.block<h.size) (hT:¬T p.block):Lf.cl h' p=Lf.cl h p:=by
 unfold Lf.cl;rw[x.same _ hl hT]
theorem cl_lt {h:Heap} {p:Addr} {v:Value} (hc:cl h p=some v):p.block<h.size:=by
 rcases Nat.lt_or_ge p.block h.size with e|e
 ·exact e
 ·simp[cl,Array.getElem?_eq_none e] at hc
theorem Fr.clk {T:Nat→Prop} {h h':Heap} (x:Fr T h h') {p:Addr} {v:Value} (hc:Lf.cl h p=some v) (hT:¬T p.block):Lf.cl h' p=some v:=by
 rw[x.cl (cl_lt hc) hT];exact hc
structure Own (h:Heap) (B:Nat) (sz:Nat) (s:Sv) (xs:List Value):Prop where
 len:xs.length=s.n*sz
 mem:(s.a=none∧s.n=0∧s.c=0)∨∃g cur,s.a=some ⟨g,0,none⟩∧B≤g∧blk h g cur∧s.n≤s.c∧cur.size=s.c*sz∧cur.toList.take (s.n*sz)=xs
def Sv.own (s:Sv) (b:Nat):Prop:=∃a,s.a=some a∧a.block=b
theorem Own.nil (h:Heap) (B:Nat) (sz:Nat):Own h B sz ⟨none,0,0⟩ []:=⟨by simp,.inl ⟨rfl,rfl,rfl⟩⟩
theorem Own.frame {T:Nat→Prop} {h h':Heap} {B:Nat} {sz:Nat} {s:Sv} {xs:List Value} (o:Own h B sz s xs) (x:Fr T h h') (hT:∀b,s.own b→¬T b):Own h' B sz s xs:=by
 refine⟨o.len,o.mem.imp id ?_⟩
 rintro ⟨g,cur,e,hB,k,r⟩
 exact⟨g,cur,e,hB,x.blk k (hT g ⟨_,e,rfl⟩),r⟩
theorem Own.row {h:Heap} {B:Nat} {sz:Nat} {s:Sv} {xs:List Value} (o:Own h B sz s xs):RowO h s.a xs:=by
 rcases o.mem with⟨e,e2,_⟩|⟨g,cur,e,_,k,_,_,ht⟩
 ·rw[e]
  have:=o.len
  rw[e2] at this
  simpa [RowO] using this
 ·rw[e]
  intro j v hv
  rw[add_plain,k.cl]
  rw[←ht,List.getElem?_take] at hv
  split at hv
  ·simpa using hv
  ·cases hv
theorem Own.ge {h:Heap} {B:Nat} {sz:Nat} {s:Sv} {xs:List Value} (o:Own h B sz s xs) {b:Nat} (hb:s.own b):B≤b∧b<h.size:=by
 obtain⟨a,e,rfl⟩:=hb
 rcases o.mem with⟨e',_⟩|⟨g,cur,e',hB,k,_⟩
 ·rw[e'] at e;cases e
 ·rw[e'] at e
  simp only[Option.some.injEq] at e
  subst e
  exact⟨hB,k.lt⟩
theorem scs_blk (g:Nat):∀(vs:List Value) (h:Heap) (cur:Array Value) (o i:Nat),blk h g cur →
  blk (scs h ⟨g,o,none⟩ vs i) g ((vs.zipIdx (o+i)).foldl (fun c p=>c.setIfInBounds p.2 p.1) cur)∧Fr (fun b=>b=g) h (scs h ⟨g,o,none⟩ vs i)
 | [],h,cur,o,i,k=>⟨k,Fr.refl _ _⟩
 | v :: vs,h,cur,o,i,k=>by
  have k':=k.sc (o+i) v
  have:=scs_blk g vs _ _ o (i+1) k'
  simp only[scs,add_plain,List.zipIdx_cons,List.foldl_cons]
  refine⟨?_,(Fr.sc (T:=fun b=>b=g) h (p:=⟨g,o+i,none⟩) rfl v).trans this.2⟩
  have e:o+i+1=o+(i+1):=by omega
  rw[e]
  exact this.1
theorem fold_set (vs:List Value):∀(cur:Array Value) (o:Nat),o+vs.length≤cur.size →
  ((vs.zipIdx o).foldl (fun c p=>c.setIfInBounds p.2 p.1) cur).toList=cur.toList.take o++vs++cur.toList.drop (o+vs.length):=by
 induction vs with
 | nil=>intro cur o h;simp
 | cons v vs ih=>
  intro cur o h
  simp only[List.length_cons] at h
  simp only[List.zipIdx_cons,List.foldl_cons]
  rw[ih _ _ (by simp;omega)]
  have h1:(cur.setIfInBounds o v).toList=cur.toList.set o v:=by simp
  rw[h1]
  apply List.ext_getElem?
  intro k
  simp only[List.getElem?_append,List.getElem?_take,List.getElem?_drop,List.length_append,List.length_take,List.length_set,List.getElem?_set,Array.length_toList,List.length_cons]
  rcases Nat.lt_trichotomy k o with e|e|e
  ·have a1:k<min (o+1) cur.size+vs.length:=by omega
   have a2:k<min (o+1) cur.size:=by omega
   have a3:k<min o cur.size+(vs.length+1):=by omega
   have a4:k<min o cur.size:=by omega
   have a5:k<o+1:=by omega
   have a6:¬o=k:=by omega
   simp[a1,a2,a3,a4,a5,a6,e]
  ·subst e
   have a1:k<min (k+1) cur.size+vs.length:=by omega
   have a2:k<min (k+1) cur.size:=by omega
   have a3:k<min k cur.size+(vs.length+1):=by omega
   have a4:¬k<min k cur.size:=by omega
   have a7:k<cur.size:=by omega
   have a8:k - min k cur.size=0:=by omega
   simp[a1,a2,a3,a4,a7,a8]
  ·have a2:¬k<min (o+1) cur.size:=by omega
   have a4:¬k<min o cur.size:=by omega
   have e1:min (o+1) cur.size=o+1:=by omega
   have e2:min o cur.size=o:=by omega
   by_cases a1:k<o+1+vs.length
   ·have a3:k<o+(vs.length+1):=by omega
    have e3:k - o=(k - (o+1))+1:=by omega
    have a5:¬k<o:=by omega
    have a6:¬k<o+1:=by omega
    simp[e1,e2,a1,a3,e3,a5,a6]
   ·have a3:¬k<o+(vs.length+1):=by omega
    have a5:¬o=o+1+vs.length+(k - (o+1+vs.length)):=by omega
    have e4:o+1+vs.length+(k - (o+1+vs.length))=o+(vs.length+1)+(k - (o+(vs.length+1))):=by omega
    simp[e1,e2,a1,a3]
    rw[if_neg a5,e4]
theorem appS_own {E:TypeId} {z:Array Value} {sz bytes:Nat} {h:Heap} {B:Nat} {s x:Sv} {xs news:List Value} {K:Sv→Heap→Prop} (hsz:z.size=sz) (o:Own h B sz s xs)
  (hl:news.length=x.n*sz) (hr:RowO h x.a news) (h1:∀u∈news,u.oneCell'=true) (hB:B≤h.size) (h63:s.n+x.n≤9223372036854775807) (hb:(s.n+x.n)*bytes≤140737488355328)
  (k:∀s' h',s'.n=s.n+x.n→Own h' B sz s' (xs++news)→Fr s.own h h'→(∀b,s'.own b→s.own b∨h.size≤b)→K s' h'):appS E z sz bytes h s x K:=by
 refine⟨news,hl,hr,h1,fun hroom=>?_,fun hgrow=>?_⟩
 ·rcases o.mem with⟨e1,e2,e3⟩|⟨g,cur,e1,hg,kk,hn,hc,ht⟩
  ·have hx0:x.n=0:=by omega
   have hn0:news=[]:=List.eq_nil_of_length_eq_zero (by rw[hl,hx0,Nat.zero_mul])
   subst hn0
   refine⟨by rw[e1];rfl,?_⟩
   rintro s' h' rfl rfl
   rw[e1]
   refine k _ _ rfl ?_ (Fr.refl _ _) ?_
   ·have hxs:xs=[]:=List.eq_nil_of_length_eq_zero (by rw[o.len,e2,Nat.zero_mul])
    subst hxs
    exact⟨by simp[e2,hx0],.inl ⟨rfl,by simp[e2,hx0],e3⟩⟩
   ·rintro b ⟨a,ea,_⟩;cases ea
  ·have hfit:s.n*sz+news.length≤cur.size:=by rw[hl,hc,←Nat.add_mul];exact Nat.mul_le_mul_right _ hroom
   refine⟨?_,?_⟩
   ·rw[e1]
    intro j hj
    simp only[add_plain,Nat.zero_add]
    refine⟨?_,kk.fz _⟩
    rw[kk.cl]
    have:s.n*sz+j<cur.size:=by omega
    simp[this]
   ·rintro s' h' rfl rfl
    rw[e1]
    simp only[scsO,add_plain,Nat.zero_add]
    have hs:=scs_blk g news h cur (s.n*sz) 0 kk
    simp only[Nat.add_zero] at hs
    have hf:=fold_set news cur (s.n*sz) hfit
    refine k _ _ rfl ?_ (hs.2.mono fun i _ hi=>⟨_,e1,hi.symm⟩) ?_
    ·refine⟨by rw[List.length_append,o.len,hl,←Nat.add_mul],.inr ⟨g,_,rfl,hg,hs.1,hroom,?_,?_⟩⟩
     ·rw[←hc,←Array.length_toList,hf]
      simp
      omega
     ·rw[hf,ht]
      have:(s.n+x.n)*sz=(xs++news).length:=by rw[List.length_append,o.len,hl,←Nat.add_mul]
      rw[this]
      exact List.take_left
    ·rintro b ⟨a,ea,eb⟩
     exact .inl ⟨a,by rw[e1];exact ea,eb⟩
 ·refine⟨h63,growslice_fits hgrow hb,xs,o.len,o.row,?_⟩
  rintro c s' h' hc rfl rfl
  have hz:(Builtin.zeroCells z (c - (s.n+x.n))).size=(c - (s.n+x.n))*sz:=by rw[size_zeroCells,hsz]
  refine k _ _ rfl ⟨by rw[List.length_append,o.len,hl,←Nat.add_mul],.inr ⟨h.size,_,rfl,hB,blk.new _ _ _,hc,?_,?_⟩⟩ (Fr.push _ _ _) ?_
  ·simp only[Array.size_append,List.size_toArray,hz,o.len,hl,←Nat.add_mul]
   congr 1
   omega
  ·simp only[Array.toList_append,List.append_assoc]
   have:(s.n+x.n)*sz=(xs++news).length:=by rw[List.length_append,o.len,hl,←Nat.add_mul]
   rw[this,←List.append_assoc]
   exact List.take_left
  ·rintro b ⟨a,ea,eb⟩
   simp only[Option.some.injEq] at ea
   subst ea
   exact .inr (by rw[←eb];exact Nat.le_refl _)
theorem app1 {E:TypeId} {z vs:Array Value} {sz bytes:Nat} {h:Heap} {B:Nat} {s:Sv} {xs:List Value} {K:Sv→Heap→Prop} (hsz:z.size=sz) (o:Own h B sz s xs)
  (hl:vs.size=sz) (h1:∀u∈vs.toList,u.oneCell'=true) (hB:B≤h.size) (h63:s.n+1≤9223372036854775807) (hb:(s.n+1)*bytes≤140737488355328)
  (k:∀s' h',s'.n=s.n+1→Own h' B sz s' (xs++vs.toList)→Fr s.own h h'→(∀b,s'.own b→s.own b∨h.size≤b)→K s' h') :
  newS E vs 1 h fun s1 h1=>appS E z sz bytes h1 s s1 K:=by
 rintro s1 h1' rfl rfl
 have hf:Fr s.own h (h.push (.cells vs E)):=Fr.push _ _ _
 have o':Own (h.push (.cells vs E)) B sz s xs:=o.frame (Fr.push (fun _=>False) h (.cells vs E)) (fun _ _ h=>h)
 refine appS_own hsz o' (news:=vs.toList) (by simp[hl]) ?_ h1 (by simp;omega) h63 hb ?_
 ·intro j v hv
  rw[add_plain,(blk.new h vs E).cl]
  simpa using hv
 ·intro s' h' e1 e2 e3 e4
  refine k s' h' e1 e2 (hf.trans e3) fun b hb=>(e4 b hb).imp id fun h=>?_
  simp at h
  omega
section
variable {P:Program} {h:Heap} {p:Addr}
theorem cal_of {f:FuncId} {args:Array Value} {J K:Value→Heap→Prop} (c:CallsH P f args h J) (k:∀v h',J v h'→K v h'):cal P f args h K:=⟨J,c,k⟩
theorem ifb_dec {q:Prop} [Decidable q] {A B:Prop} (t:q→A) (f:¬q→B):ifb (decide q) A B:=⟨fun e=>t (of_decide_eq_true e),fun e=>f (of_decide_eq_false e)⟩
theorem ifb_iff {b:Bool} {q:Prop} {A B:Prop} (hb:b=true↔q) (t:q→A) (f:¬q→B):ifb b A B:=
 ⟨fun e=>t (hb.1 e),fun e=>f fun hq=>by rw[hb.2 hq] at e;cases e⟩
theorem ldI_i {k:IntKind} {x:Int} {K:Int→Prop} (c:cl h p=some (.int k x)) (hk:K x):ldI k h p K:=⟨x,c,hk⟩
theorem ldB_i {x:Bool} {K:Bool→Prop} (c:cl h p=some (.bool x)) (hk:K x):ldB h p K:=⟨x,c,hk⟩
theorem ldS_i {s:Sv} {K:Sv→Prop} (c:cl h p=some (.slice s.a s.n s.c)) (hk:K s):ldS h p K:=⟨s,c,hk⟩
theorem sto_i {v:Value} {K:Heap→Prop} {b o:Nat} {cs:Array Value} (kk:blk h b cs) (ho:o<cs.size) (k:K (sc h ⟨b,o,none⟩ v)):sto h ⟨b,o,none⟩ v K:=
 ⟨by rw[kk.cl];simp[ho],kk.fz o,fun _ e=>e ▸ k⟩
theorem wrap64_id {x:Int} (h0:-9223372036854775808≤x) (h1:x≤9223372036854775807):IntKind.i64.wrap x=x:=by rw[IntKind.wrap_i64];omega
end
end Go.Lf
namespace Go.Lf
open Go
def rd (P:Program) (h:Heap):Nat→TypeId→List Value→Prop
 | 0,_,_=>False
 | fuel+1,t,cs=>match P.underlying t with
  | some .bool=>∃b,cs=[.bool b]
  | some (.int k)=>∃n,cs=[.int k n]∧(Lit.int k n).wf=true
  | some .string=>∃s,cs=[.string s]∧s.size≤maxLen
  | some (.float k)=>∃b,cs=[.float k b]∧(Lit.float k b).wf=true
  | some (.slice e)=>cs=[.slice none 0 0]∨∃a len cap,cs=[.slice (some a) len cap]∧len≤cap∧cap≤maxLen ∧
    ∀i,i<cap→∃cs':List Value,cs'.length=P.cellsOf e∧(∀j,j<P.cellsOf e→cl h ((a.add (i*P.cellsOf e)).add j)=cs'[j]?)∧rd P h fuel e cs'
  | some (.struct fs)=>cs.length=P.cellsOf t∧∀(i:Nat) f,fs[i]?=some f→rd P h fuel f.type ((cs.drop f.offset).take (P.cellsOf f.type))
  | some (.array n e)=>cs.length=P.cellsOf t∧∀i,i<n→rd P h fuel e ((cs.drop (i*P.cellsOf e)).take (P.cellsOf e))
  | _=>True
theorem trod_rd {H:Type} {enc:TypeId×Value→H} {P:Program} {w:World}:∀(fuel:Nat) (t:TypeId) (cs:List Value) (x:DataW H×List MemPlace),DataW.trod enc P w 0 (fun _=>true) true fuel t cs=some x→rd P w.heap fuel t cs:=by
 intro fuel
 induction fuel with
 | zero=>intro t cs x h;simp[DataW.trod] at h
 | succ fuel ih=>
  intro t cs x h
  unfold rd
  split
  ·rename_i ht;obtain⟨b,e,_⟩:=DataW.trod_bool ht h;exact⟨b,e⟩
  ·rename_i k ht;obtain⟨n,e,_,wf⟩:=DataW.trod_int ht h;exact⟨n,e,wf⟩
  ·rename_i ht;obtain⟨s,e,_,hs⟩:=DataW.trod_string ht h;exact⟨s,e,hs⟩
  ·rename_i k ht
   unfold DataW.trod at h
   rw[ht] at h
   split at h<;>first|contradiction|skip
   all_goals simp_all
   all_goals exact h.1.2
  ·rename_i e ht
   rcases DataW.trod_slice ht h with⟨h0,_⟩|⟨a,len,cap,elems,rest,n,hf,rfl,_,_,hl,hm,_,hel,hsp,_⟩
   ·exact .inl h0
   ·refine .inr ⟨a,len,cap,rfl,hl,hm,fun i hi=>?_⟩
    obtain rfl:n=fuel:=by omega
    have hsp:=hsp rfl
    have key:∃y,(w.cells? 0 (a.add (i*P.cellsOf e)) (P.cellsOf e)).bind (DataW.trod enc P w 0 (fun _=>true) true n e)=some y:=by
     by_cases hil:i<len
     ·rw[hel i hil]
      exact⟨_,List.getElem?_eq_getElem (by omega)⟩
     ·have:=hsp.2 (i - len) (by omega)
      rw[show len+(i - len)=i by omega] at this
      rw[this]
      exact⟨_,List.getElem?_eq_getElem (by omega)⟩
    obtain⟨y,hy⟩:=key
    obtain⟨cs',h1,h2⟩:=Option.bind_eq_some_iff.1 hy
    obtain⟨_,hlen,hc⟩:=World.cells?_some h1
    exact⟨cs',hlen,fun j hj=>hc j hj,ih e cs' y h2⟩
  ·rename_i fs ht
   obtain⟨xs,n,hf,_,hl,hx,hall⟩:=DataW.trod_struct ht h
   obtain rfl:n=fuel:=by omega
   refine⟨hl,fun i f hi=>?_⟩
   have h1:=hall i f hi
   have hlt:i<xs.length:=by rw[hx];exact (Array.getElem?_eq_some_iff.1 hi).1
   rw[List.getElem?_eq_getElem hlt] at h1
   exact ih _ _ _ h1
  ·rename_i n e ht
   obtain⟨xs,m,hf,_,hl,hx,hall⟩:=DataW.trod_array ht h
   obtain rfl:m=fuel:=by omega
   refine⟨hl,fun i hi=>?_⟩
   have h1:=hall i hi
   rw[List.getElem?_eq_getElem (by omega)] at h1
   exact ih _ _ _ h1
  ·trivial
end Go.Lf
namespace Go.Lf
open Go
theorem add_block (p:Addr) (k:Nat):(p.add k).block=p.block:=by unfold Addr.add;split<;>rfl
structure IntsAt (h:Heap) (s:Sv) (xs:List Int):Prop where
 len:s.n=xs.length
 at_:∀i (hi:i<xs.length),∃p,s.a=some p∧cl h (p.add (i*1))=some (.int .i64 xs[i])
theorem IntsAt.frame {h h':Heap} {s:Sv} {xs:List Int} {T:Nat→Prop} (x:IntsAt h s xs) (f:Fr T h h') (hT:∀b,s.own b→¬T b):IntsAt h' s xs:=by
 refine⟨x.len,fun i hi=>?_⟩
 obtain⟨p,e,c⟩:=x.at_ i hi
 exact⟨p,e,f.clk c (by rw[add_block];exact hT _ ⟨p,e,rfl⟩)⟩
theorem IntsAt.keep {h h':Heap} {s:Sv} {xs:List Int} {T:Nat→Prop} (x:IntsAt h s xs) (f:Fr T h h') (hT:∀b,b<h.size→¬T b):IntsAt h' s xs:=by
 refine⟨x.len,fun i hi=>?_⟩
 obtain⟨p,e,c⟩:=x.at_ i hi
 refine⟨p,e,f.clk c (hT _ ?_)⟩
 unfold cl at c
 split at c
 ·rename_i hb
  exact (Array.getElem?_eq_some_iff.1 hb).1
 ·cases c
theorem IntsAt.nil (h:Heap) (c:Nat) (a:Option Addr):IntsAt h ⟨a,0,c⟩ []:=⟨rfl,fun i hi=>by simp at hi⟩
theorem IntsAt.ld {h:Heap} {s:Sv} {xs:List Int} (x:IntsAt h s xs) {i:Nat} (hi:i<xs.length) {K:Addr→Prop} (k:∀q,cl h (q.add (i*1))=some (.int .i64 xs[i])→K q):ixS s i K:=by
 obtain⟨p,e,c⟩:=x.at_ i hi
 exact⟨p,e,by omega,by rw[x.len];omega,k p c⟩
theorem IntsAt.get {h:Heap} {s:Sv} {xs:List Int} (x:IntsAt h s xs) {i:Nat} (hi:i<xs.length) {K:Int→Prop} (k:K xs[i]):ixS s i fun q=>ldI .i64 h (q.add ((i:Int).toNat*1)) K:=
 x.ld hi fun _ c=>⟨_,by rw[Int.toNat_natCast];exact c,k⟩
def ints (xs:List Int):List Value:=xs.map (.int .i64)
theorem own_ints {h:Heap} {B:Nat} {s:Sv} {xs:List Int} (o:Own h B 1 s (ints xs)):IntsAt h s xs:=by
 have hl:s.n=xs.length:=by have:=o.len;simp[ints] at this;omega
 refine⟨hl,fun i hi=>?_⟩
 rcases o.mem with⟨_,e,_⟩|⟨g,cur,e,_⟩
 ·omega
 ·have hr:=o.row
  rw[e] at hr
  exact⟨_,e,by have:=hr i (.int .i64 xs[i]) (by simp[ints,hi]);rwa [Nat.mul_one]⟩
structure ListsAt (h:Heap) (s:Sv) (ls:List (List Int)):Prop where
 len:s.n=ls.length
 at_:∀i (hi:i<ls.length),∃p,s.a=some p∧∃t:Sv,cl h (p.add (i*1))=some t.v∧IntsAt h t ls[i]
theorem ListsAt.keep {h h':Heap} {s:Sv} {ls:List (List Int)} {T:Nat→Prop} (x:ListsAt h s ls) (f:Fr T h h') (hT:∀b,b<h.size→¬T b):ListsAt h' s ls:=by
 refine⟨x.len,fun i hi=>?_⟩
 obtain⟨p,e,t,c,y⟩:=x.at_ i hi
 refine⟨p,e,t,f.clk c (hT _ ?_),y.keep f hT⟩
 unfold cl at c
 split at c
 ·rename_i hb
  exact (Array.getElem?_eq_some_iff.1 hb).1
 ·cases c
theorem ListsAt.get {h:Heap} {s:Sv} {ls:List (List Int)} (x:ListsAt h s ls) {i:Nat} (hi:i<ls.length) {K:Sv→Prop} (k:∀t,IntsAt h t ls[i]→K t):ixS s i fun q=>ldS h (q.add ((i:Int).toNat*1)) K:=by
 obtain⟨p,e,t,c,y⟩:=x.at_ i hi
 exact⟨p,e,by omega,by rw[x.len];omega,t,by rw[Int.toNat_natCast];exact c,k t y⟩
def WordsAt (h:Heap) (g nw:Nat) (f:Nat→Bool):Prop:=∃cs:Array Value,blk h g cs∧cs.size=nw∧∀k,k<nw→∃w:BitVec 64,cs[k]?=some (.int .u64 (w.toNat:Int))∧∀b,b<64→w.getLsbD b=f (64*k+b)
theorem WordsAt.frame {h h':Heap} {g nw:Nat} {f:Nat→Bool} {T:Nat→Prop} (x:WordsAt h g nw f) (fr:Fr T h h') (hT:¬T g):WordsAt h' g nw f:=by
 obtain⟨cs,k,r⟩:=x
 exact⟨cs,fr.blk k hT,r⟩
theorem WordsAt.lt {h:Heap} {g nw:Nat} {f:Nat→Bool} (x:WordsAt h g nw f):g<h.size:=by obtain⟨cs,k,_⟩:=x;exact k.lt
theorem WordsAt.congr {h:Heap} {g nw:Nat} {f f':Nat→Bool} (x:WordsAt h g nw f) (e:∀b,b<64*nw→f b=f' b):WordsAt h g nw f':=by
 obtain⟨cs,k,s,r⟩:=x
 refine⟨cs,k,s,fun i hi=>?_⟩
 obtain⟨w,c,hb⟩:=r i hi
 exact⟨w,c,fun b hb'=>by rw[hb b hb',e _ (by omega)]⟩
theorem WordsAt.cell {h:Heap} {g nw:Nat} {f:Nat→Bool} (x:WordsAt h g nw f) {k:Nat} (hk:k<nw):∃w:BitVec 64,cl h ⟨g,k,none⟩=some (.int .u64 (w.toNat:Int))∧∀b,b<64→w.getLsbD b=f (64*k+b):=by
 obtain⟨cs,kk,s,r⟩:=x
 obtain⟨w,c,hb⟩:=r k hk
 exact⟨w,by rw[kk.cl];exact c,hb⟩
theorem WordsAt.put {h:Heap} {g nw:Nat} {f:Nat→Bool} (x:WordsAt h g nw f) {k:Nat} (hk:k<nw) (w:BitVec 64) {K:Heap→Prop}
  (kk:∀h',WordsAt h' g nw (fun e=>if e / 64=k then w.getLsbD (e % 64) else f e)→Fr (fun b=>b=g) h h'→K h'):sto h ⟨g,k,none⟩ (.int .u64 (w.toNat:Int)) K:=by
 obtain⟨cs,kb,s,r⟩:=x
 refine sto_i kb (by omega) (kk _ ⟨_,kb.sc k _,by simp[s],fun i hi=>?_⟩ (Fr.scb _ _ _ _))
 by_cases e:k=i
 ·subst e
  refine⟨w,by simp[s,hk],fun b hb=>?_⟩
  have e1:(64*k+b) / 64=k:=by omega
  have e2:(64*k+b) % 64=b:=by omega
  simp[e1,e2]
 ·obtain⟨w',c,hb⟩:=r i hi
  refine⟨w',by rw[Array.getElem?_setIfInBounds,if_neg e];exact c,fun b hb'=>?_⟩
  have e1:(64*i+b) / 64=i:=by omega
  have e2:¬i=k:=fun h=>e h.symm
  rw[hb b hb']
  dsimp only
  rw[e1,if_neg e2]
end Go.Lf
namespace Go.Lf
open Go
section
variable {P:Program} {h:Heap} {t e e2:TypeId} {fuel:Nat}
theorem rd_int {k:IntKind} {cs:List Value} (hu:P.underlying t=some (.int k)) (hr:rd P h fuel t cs):∃x,cs=[.int k x]∧(Lit.int k x).wf=true:=by
 cases fuel with
 | zero=>exact hr.elim
 | succ fuel=>
  unfold rd at hr
  rw[hu] at hr
  exact hr
theorem rd_slice {cs:List Value} (hu:P.underlying t=some (.slice e)) (hr:rd P h fuel t cs):∃s:Sv,cs=[s.v]:=by
 cases fuel with
 | zero=>exact hr.elim
 | succ fuel=>
  unfold rd at hr
  rw[hu] at hr
  rcases hr with hr|⟨a,n,c,hr,_⟩
  ·exact⟨⟨none,0,0⟩,hr⟩
  ·exact⟨⟨some a,n,c⟩,hr⟩
theorem rd_elems {s:Sv} (hu:P.underlying t=some (.slice e)) (hr:rd P h fuel t [s.v]):s.n≤maxLen∧∀i,i<s.n→∃a,s.a=some a∧∃cs':List Value,cs'.length=P.cellsOf e∧(∀j,j<P.cellsOf e→cl h ((a.add (i*P.cellsOf e)).add j)=cs'[j]?)∧∃fuel',rd P h fuel' e cs':=by
 cases fuel with
 | zero=>exact hr.elim
 | succ fuel=>
  unfold rd at hr
  rw[hu] at hr
  obtain⟨sa,sn,sc⟩:=s
  rcases hr with hr|⟨a,n,c,hr,h1,h2,hall⟩
  ·simp[Sv.v] at hr
   obtain⟨rfl,rfl,rfl⟩:=hr
   exact⟨Nat.zero_le _,fun i hi=>by simp at hi⟩
  ·simp[Sv.v] at hr
   obtain⟨rfl,rfl,rfl⟩:=hr
   refine⟨Nat.le_trans h1 h2,fun i hi=>⟨a,rfl,?_⟩⟩
   obtain⟨cs',q1,q2,q3⟩:=hall i (by simp at hi;omega)
   exact⟨cs',q1,q2,fuel,q3⟩
theorem add_zero (a:Addr):a.add 0=a:=by
 obtain⟨b,o,m⟩:=a
 unfold Addr.add
 split<;>simp_all
theorem rd_ints {s:Sv} (hu:P.underlying t=some (.slice e)) (he:P.underlying e=some (.int .i64)) (hc:P.cellsOf e=1) (hr:rd P h fuel t [s.v]):∃xs,IntsAt h s xs:=by
 obtain⟨-,hall⟩:=rd_elems hu hr
 have key:∀i,i<s.n→∃x:Int,∃p,s.a=some p∧cl h (p.add (i*1))=some (.int .i64 x):=by
  intro i hi
  obtain⟨a,ea,cs',hlen,hcl,fuel',hr'⟩:=hall i hi
  obtain⟨x,rfl,_⟩:=rd_int he hr'
  rw[hc] at hcl
  have:=hcl 0 (by omega)
  rw[add_zero] at this
  exact⟨x,a,ea,this⟩
 obtain⟨f,hf⟩:=Go.Deep.choose_lt (α:=Int) key
 refine⟨(List.range s.n).map f,by simp,fun i hi=>?_⟩
 have hi':i<s.n:=by simpa using hi
 obtain⟨p,e1,e2⟩:=hf i hi'
 exact⟨p,e1,by simpa [hi'] using e2⟩
theorem rd_len {cs:List Value} {fs:Array Field} (hu:P.underlying t=some (.struct fs)) (hr:rd P h fuel t cs):cs.length=P.cellsOf t:=by
 cases fuel with
 | zero=>exact hr.elim
 | succ fuel=>
  unfold rd at hr
  rw[hu] at hr
  exact hr.1
theorem rd_field {cs:List Value} {fs:Array Field} (hu:P.underlying t=some (.struct fs)) (hr:rd P h fuel t cs) (i:Nat) {f:Field} (hf:fs[i]?=some f) {n:Nat} (hn:P.cellsOf f.type=n):∃fuel',rd P h fuel' f.type ((cs.drop f.offset).take n):=by
 cases fuel with
 | zero=>exact hr.elim
 | succ fuel=>
  unfold rd at hr
  rw[hu] at hr
  exact⟨fuel,by rw[←hn];exact hr.2 i f hf⟩
end
end Go.Lf
namespace Go.Lf
open Go
structure LLOwn (h:Heap) (B:Nat) (s:Sv) (ts:List (Sv×List Int)):Prop where
 own:Own h B 1 s (ts.map fun t=>t.1.v)
 els:∀t∈ts,IntsAt h t.1 t.2∧∀b,t.1.own b→B≤b∧b<h.size∧¬s.own b
section
variable {h h':Heap} {B:Nat} {s:Sv} {ts:List (Sv×List Int)}
theorem LLOwn.nil (h:Heap) (B:Nat):LLOwn h B ⟨none,0,0⟩ []:=⟨Own.nil _ _ _,fun t ht=>by cases ht⟩
theorem LLOwn.frame {T:Nat→Prop} (x:LLOwn h B s ts) (f:Fr T h h') (hT:∀b,B≤b→b<h.size→¬T b):LLOwn h' B s ts:=by
 refine⟨x.own.frame f fun b hb=>hT b (x.own.ge hb).1 (x.own.ge hb).2,fun t ht=>?_⟩
 obtain⟨h1,h2⟩:=x.els t ht
 refine⟨h1.frame f fun b hb=>hT b (h2 b hb).1 (h2 b hb).2.1,fun b hb=>⟨(h2 b hb).1,?_,(h2 b hb).2.2⟩⟩
 have:=(h2 b hb).2.1
 have:=f.size
 omega
theorem LLOwn.len (x:LLOwn h B s ts):s.n=ts.length:=by have:=x.own.len;simp at this;omega
end
theorem stoA_i {h:Heap} {b:Nat} {cs:Array Value} {vs:List Value} {K:Heap→Prop} (kk:blk h b cs) (hs:cs.size=vs.length) (h1:∀v∈vs,v.oneCell'=true)
  (k:∀h',blk h' b vs.toArray→Fr (fun i=>i=b) h h'→K h'):stoA h ⟨b,0,none⟩ vs K:=by
 refine⟨h1,fun j hj=>?_,?_⟩
 ·rw[add_plain,kk.cl,kk.fz,Nat.zero_add]
  have:j<cs.size:=by omega
  simp[this]
 ·rintro h' rfl
  obtain⟨q1,q2⟩:=scs_blk b vs h cs 0 0 kk
  refine k _ ?_ q2
  have e:=fold_set vs cs (0+0) (by omega)
  have e':((vs.zipIdx (0+0)).foldl (fun c p=>c.setIfInBounds p.2 p.1) cs)=vs.toArray:=by
   apply Array.ext'
   rw[e]
   simp[hs]
  rw[←e']
  exact q1
end Go.Lf
namespace Go.Lf
open Go
def need (ops:Array Oper) (H E:List Nat) (listed:Array Bool):Bool:=
 H.any fun i=>E.all fun e=>!(listed.getD e false && (wacc i ops.toList #[]).getD e false)
theorem need_set {ops:Array Oper} {H E:List Nat} {listed:Array Bool} {i:Nat} (hE:E.contains i=false):need ops H E (listed.setIfInBounds i true)=need ops H E listed:=by
 unfold need
 congr 1
 funext k
 have:∀e∈E,(listed.setIfInBounds i true).getD e false=listed.getD e false:=fun e he=>by
  have hne:i≠e:=fun h=>by subst h;simp[he] at hE
  rw[getD_set_ne false hne]
 rw[Bool.eq_iff_iff,List.all_eq_true,List.all_eq_true]
 exact⟨fun h e he=>by rw[←this e he];exact h e he,fun h e he=>by rw[this e he];exact h e he⟩
theorem need_pending {ops:Array Oper} {H E:List Nat} {listed:Array Bool} {i:Nat} (C:Closed ops listed) (hi:i∈H) (hl:listed.getD i false=false):need ops H E listed=true:=by
 unfold need
 rw[List.any_eq_true]
 refine⟨i,hi,?_⟩
 rw[List.all_eq_true]
 intro e _
 cases hw:(wacc i ops.toList #[]).getD e false with
 | false=>simp
 | true=>
  have:=C.wacc hl ops.toList #[] (by simp) (by simp) e hw
  simp[this]
def wpAnyN (P:Program) (ops:Array Oper) (Q:Exit→Act→World→Prop) (H E:List Nat) (S:Heap→Prop):Nat→Array Bool→Act→World→Prop
 | 0,listed,a,w=>Region.ready .any ops listed=[]∧Q .normal a w
 | fuel+1,listed,a,w=>
  (Region.ready .any ops listed=[]→Q .normal a w) ∧
  ∀i∈Region.ready .any ops listed,wpOp P ops Q i (fun a' w'=>(need ops H E (listed.setIfInBounds i true)=true→S w'.heap)∧wpAnyN P ops Q H E S fuel (listed.setIfInBounds i true) a' w') a w
section
variable {P:Program} {ops:Array Oper} {Q:Exit→Act→World→Prop} {H E:List Nat} {S:Heap→Prop}
theorem wpAny_of_N:∀(fuel:Nat) (listed:Array Bool) (a:Act) (w:World),wpAnyN P ops Q H E S fuel listed a w→wpAny P .any ops Q fuel listed a w
 | 0,_,_,_,h=>h
 | fuel+1,_,_,_,h=>⟨h.1,fun i hi=>wpOp_mono (fun a' w' h'=>wpAny_of_N fuel _ a' w' h'.2) (h.2 i hi)⟩
theorem wpAnyN_taken {pure:Bool} {i:Nat} {oi:Oper} {v:Value} (hi:ops[i]?=some oi) (hsel:∀(j:Nat) (o:Oper) cs b,ops[j]?=some o→o.op≠.select cs b)
  (hQ:∀c a w,Q (.panic c) (a.put oi.dst v) w→Q (.panic c) a w) (hE:E.contains i=false) :
  ∀(fuel:Nat) (listed:Array Bool) (a:Act) (w:World),Closed ops listed →
   (∀j oj,ops[j]?=some oj→j≠i→listed.getD j true=false→(∀e∈oj.after,Region.binds .any e=true→e.on≠i) →
    oi.apart ops oj=true∧(pure=true∨calmOp P oj=true∨(wacc i ops.toList #[]).getD j false=true)) →
   i∈Region.ready .any ops listed→YieldsP P pure ops oi v a w→(need ops H E listed=true→S w.heap) →
   wpAnyN P ops Q H E S fuel (listed.setIfInBounds i true) (a.put oi.dst v) w→wpAnyN P ops Q H E S (fuel+1) listed a w:=by
 intro fuel
 induction fuel with
 | zero=>
  intro listed a w _ _ hr hy hS H
  refine⟨fun h=>(by rw[h] at hr;cases hr),fun j hj=>?_⟩
  by_cases hji:j=i
  ·subst hji;exact hy.wpOp hi ⟨fun h=>hS (by rwa [need_set hE] at h),H⟩
  ·have:=ready_mono hj hji
   rw[H.1] at this
   cases this
 | succ fuel ih=>
  intro listed a w C hfree hr hy hS HH
  refine⟨fun h=>(by rw[h] at hr;cases hr),fun j hj=>?_⟩
  by_cases hji:j=i
  ·subst hji;exact hy.wpOp hi ⟨fun h=>hS (by rwa [need_set hE] at h),HH⟩
  ·have h1:=HH.2 j (ready_mono hj hji)
   obtain⟨hjun,oj,hoj,hall⟩:=mem_ready.1 hj
   have hiun:=getDft (mem_ready.1 hr).1
   have hnot:∀e∈oj.after,Region.binds .any e=true→e.on≠i:=fun e he hb heq=>by
    have h2:=hall e he hb
    rw[heq,hiun] at h2
    cases h2
   obtain⟨hap,hcase⟩:=hfree j oj hoj hji hjun hnot
   have hc:pure=true∨calmOp P oj=true:=by
    rcases hcase with h|h|h
    ·exact .inl h
    ·exact .inr h
    ·exfalso
     have Cj:=C.set hj
     have hij:(listed.setIfInBounds j true).getD i false=false:=by rw[getD_set_ne false hji];exact hiun
     have h2:=Cj.wacc hij ops.toList #[] (by simp) (by simp) j h
     have hlt:j<listed.size:=by
      rw[C.size];exact (Array.getElem?_eq_some_iff.1 hoj).1
     simp[hlt] at h2
   have h2:=wpOp_ahead hoj hap (fun cs b=>hsel i oi cs b hi) (fun cs b=>hsel j oj cs b hoj) hc hQ hy h1
   have hfree':∀k ok,ops[k]?=some ok→k≠i→(listed.setIfInBounds j true).getD k true=false →
     (∀e∈ok.after,Region.binds .any e=true→e.on≠i)→oi.apart ops ok=true∧(pure=true∨calmOp P ok=true∨(wacc i ops.toList #[]).getD k false=true):=fun k ok hk hki hun hno=>by
    refine hfree k ok hk hki ?_ hno
    by_cases hjk:j=k
    ·subst hjk;exact hjun
    ·rw[getD_set_ne true hjk] at hun;exact hun
   have hnd:need ops H E ((listed.setIfInBounds i true).setIfInBounds j true)=need ops H E (listed.setIfInBounds j true):=by
    rw[←Array.setIfInBounds_comm _ _ hji,need_set hE]
   refine wpOp_mono (fun a' w' h3=>⟨fun hn=>h3.2.1 (by rw[hnd];exact hn),ih (listed.setIfInBounds j true) a' w' (C.set hj) hfree' (ready_mono hr (Ne.symm hji)) h3.1 (fun hn=>h3.2.1 (by rw[hnd];exact hn)) ?_⟩) h2
   rw[Array.setIfInBounds_comm _ _ hji]
   exact h3.2.2
theorem wpAnyN_held {i:Nat} {oi:Oper} {v:Value} (hi:ops[i]?=some oi) (hsel:∀(j:Nat) (o:Oper) cs b,ops[j]?=some o→o.op≠.select cs b)
  (hQ:∀c a w,Q (.panic c) (a.put oi.dst v) w→Q (.panic c) a w) (hE:E.contains i=false) (hH:i∈H) :
  ∀(fuel:Nat) (listed:Array Bool) (a:Act) (w:World),Closed ops listed →
   (∀j oj,ops[j]?=some oj→j≠i→listed.getD j true=false→(∀e∈oj.after,Region.binds .any e=true→e.on≠i)→oi.apart ops oj=true) →
   i∈Region.ready .any ops listed→YieldsIf P ops (fun w=>S w.heap) oi v a→S w.heap →
   wpAnyN P ops Q H E S fuel (listed.setIfInBounds i true) (a.put oi.dst v) w→wpAnyN P ops Q H E S (fuel+1) listed a w:=by
 intro fuel
 induction fuel with
 | zero=>
  intro listed a w _ _ hr hy hS H
  refine⟨fun h=>(by rw[h] at hr;cases hr),fun j hj=>?_⟩
  by_cases hji:j=i
  ·subst hji;exact hy.wpOp hi hS ⟨fun _=>hS,H⟩
  ·have:=ready_mono hj hji
   rw[H.1] at this
   cases this
 | succ fuel ih=>
  intro listed a w C hfree hr hy hS HH
  refine⟨fun h=>(by rw[h] at hr;cases hr),fun j hj=>?_⟩
  by_cases hji:j=i
  ·subst hji;exact hy.wpOp hi hS ⟨fun _=>hS,HH⟩
  ·have h1:=HH.2 j (ready_mono hj hji)
   obtain⟨hjun,oj,hoj,hall⟩:=mem_ready.1 hj
   have hiun:=getDft (mem_ready.1 hr).1
   have hnot:∀e∈oj.after,Region.binds .any e=true→e.on≠i:=fun e he hb heq=>by
    have h2:=hall e he hb
    rw[heq,hiun] at h2
    cases h2
   have h2:=wpOp_putIf hoj (hfree j oj hoj hji hjun hnot) (fun cs b=>hsel i oi cs b hi) (fun cs b=>hsel j oj cs b hoj) hQ hy h1
   have hfree':∀k ok,ops[k]?=some ok→k≠i→(listed.setIfInBounds j true).getD k true=false →
     (∀e∈ok.after,Region.binds .any e=true→e.on≠i)→oi.apart ops ok=true:=fun k ok hk hki hun hno=>by
    refine hfree k ok hk hki ?_ hno
    by_cases hjk:j=k
    ·subst hjk;exact hjun
    ·rw[getD_set_ne true hjk] at hun;exact hun
   have hij:(listed.setIfInBounds j true).getD i false=false:=by rw[getD_set_ne false hji];exact hiun
   have hnd:need ops H E ((listed.setIfInBounds i true).setIfInBounds j true)=true:=by
    rw[←Array.setIfInBounds_comm _ _ hji,need_set hE]
    exact need_pending (C.set hj) hH hij
   refine wpOp_mono (fun a' w' h3=>⟨fun _=>h3.2.1 hnd,ih (listed.setIfInBounds j true) a' w' (C.set hj) hfree' (ready_mono hr (Ne.symm hji)) h3.1 (h3.2.1 hnd) ?_⟩) h2
   rw[Array.setIfInBounds_comm _ _ hji]
   exact h3.2.2
end
def BN (P:Program) (ops:Array Oper) (H E:List Nat) (S:Heap→Prop) (N:Act→World→Prop) (fuel:Nat) (listed:Array Bool) (a:Act) (w:World):Prop:=
 Closed ops listed→∀X R,wpAnyN P ops (Qx N X R) H E S fuel listed a w
@[reducible] def hld (S:Heap→Prop) (p:Addr) (v:Value):Prop:=∀h,S h→cl h p=some v
@[reducible] def hlI (k:IntKind) (S:Heap→Prop) (p:Addr) (K:Int→Prop):Prop:=∃x,hld S p (.int k x)∧K x
@[reducible] def hlS (S:Heap→Prop) (p:Addr) (K:Sv→Prop):Prop:=∃s:Sv,hld S p (.slice s.a s.n s.c)∧K s
section
variable {P:Program} {ops:Array Oper} {N:Act→World→Prop} {a:Act} {w w0:World} {H E:List Nat} {S:Heap→Prop}
variable {n d fuel:Nat} {Ev:List (Nat×Value)} {h:Heap} {o:Oper} {listed:Array Bool} {v:Value}
theorem W.regionN {id:Nat} {l:List Oper} {X:Nat→Act→World→Prop} {R:Act→World→Prop} (H E:List Nat) (S:Heap→Prop) (St_:St n Ev h w0 a w) (hm:P.follows .mixedOrders=true)
  (k:∀w',St n Ev h w0 a w'→BN P l.toArray H E S N l.toArray.size (Array.replicate l.toArray.size false) a w'):W P (.region id l.toArray true) N X R a w:=by
 refine wp_region_any hm (wpAny_of_N _ _ _ _ (k _ St_.drew ?_ X R))
 refine⟨by simp,fun j oj _ hl=>?_⟩
 rw[repl_false] at hl
 cases hl
theorem BN.taken {pure:Bool} (i:Nat) (T:St n Ev h w0 a w) (hS:need ops H E listed=true→S h) (hi:ops[i]?=some o) (ht:takeable P pure ops listed i=true) (hE:E.contains i=false)
  (hy:YieldsP P pure ops o v a w) (hd:o.dst=some d) (hn:Nat.blt d n=true)
  (k:∀a',St n ((d,v) :: Ev) h w0 a' w→BN P ops H E S N fuel (listed.setIfInBounds i true) a' w):BN P ops H E S N (fuel+1) listed a w:=by
 intro C X R
 obtain⟨h1,h2,h3⟩:=takeable_spec hi ht
 refine wpAnyN_taken hi (Region.noSelect_spec h2) (fun _ _ _ h=>h) hE fuel listed a w C h3 h1 hy (by rw[T.heap];exact hS) ?_
 rw[hd]
 exact k _ (T.put (by simpa [Nat.blt_eq] using hn) v T.heap (Rest.refl w)) (C.set h1) X R
theorem BN.pure (i:Nat) (T:St n Ev h w0 a w) (hS:need ops H E listed=true→S h) (hi:ops[i]?=some o) (ht:takeable P true ops listed i=true) (hE:E.contains i=false) (r:∀w',(execOp a.eval o).run P w'=.ok (.value v) w')
  (hd:o.dst=some d) (hn:Nat.blt d n=true) (g:GOk ops Ev o.guard)
  (k:∀a',St n ((d,v) :: Ev) h w0 a' w→BN P ops H E S N fuel (listed.setIfInBounds i true) a' w):BN P ops H E S N (fuel+1) listed a w:=
 BN.taken i T hS hi ht hE (.inl ⟨T.wanted g,fun w' _=>r w'⟩) hd hn k
theorem BN.load (i:Nat) (T:St n Ev h w0 a w) (hS:need ops H E listed=true→S h) (hi:ops[i]?=some o) (ht:takeable P false ops listed i=true) (hE:E.contains i=false) (r:∀w',Ext w w'→(execOp a.eval o).run P w'=.ok (.value v) w')
  (hd:o.dst=some d) (hn:Nat.blt d n=true) (g:GOk ops Ev o.guard)
  (k:∀a',St n ((d,v) :: Ev) h w0 a' w→BN P ops H E S N fuel (listed.setIfInBounds i true) a' w):BN P ops H E S N (fuel+1) listed a w:=
 BN.taken i T hS hi ht hE (.inl ⟨T.wanted g,fun w' hw'=>r w' (hw'.resolve_left (by simp))⟩) hd hn k
theorem BN.not (i:Nat) (T:St n Ev h w0 a w) (hS:need ops H E listed=true→S h) (hi:ops[i]?=some o) (ht:takeable P true ops listed i=true) (hE:E.contains i=false)
  (hd:o.dst=some d) (hn:Nat.blt d n=true) (g:GNo ops Ev o.guard)
  (k:∀a',St n ((d,undef) :: Ev) h w0 a' w→BN P ops H E S N fuel (listed.setIfInBounds i true) a' w):BN P ops H E S N (fuel+1) listed a w:=
 BN.taken i T hS hi ht hE (.inr ⟨T.unwanted g,rfl⟩) hd hn k
theorem BN.held (i:Nat) (T:St n Ev h w0 a w) (hS:S h) (hi:ops[i]?=some o) (hf:((Region.ready .any ops listed).contains i && Region.noSelect ops && Region.free .any ops listed i && H.contains i && !E.contains i)=true)
  (r:∀w',S w'.heap→(execOp a.eval o).run P w'=.ok (.value v) w')
  (hd:o.dst=some d) (hn:Nat.blt d n=true) (g:GOk ops Ev o.guard)
  (k:∀a',St n ((d,v) :: Ev) h w0 a' w→BN P ops H E S N fuel (listed.setIfInBounds i true) a' w):BN P ops H E S N (fuel+1) listed a w:=by
 intro C X R
 simp only[Bool.and_eq_true,Bool.not_eq_true'] at hf
 obtain⟨⟨⟨⟨h1,h2⟩,h3⟩,h4⟩,h5⟩:=hf
 have h1':i∈Region.ready .any ops listed:=by simpa using h1
 refine wpAnyN_held hi (Region.noSelect_spec h2) (fun _ _ _ h=>h) h5 (by simpa using h4) fuel listed a w C (Region.free_spec hi h3) h1' (.inl ⟨T.wanted g,fun w' hw=>r w' hw⟩) (by rw[T.heap];exact hS) ?_
 rw[hd]
 exact k _ (T.put (by simpa [Nat.blt_eq] using hn) v T.heap (Rest.refl w)) (C.set h1') X R
theorem BN.eff (i:Nat) (hi:ops[i]?=some o) (hr:Region.ready .any ops listed=[i]) (hh:OL P ops (fun a' w'=>(need ops H E (listed.setIfInBounds i true)=true→S w'.heap)∧BN P ops H E S N fuel (listed.setIfInBounds i true) a' w') [o] a w):BN P ops H E S N (fuel+1) listed a w:=by
 intro C X R
 refine⟨fun h0=>(by rw[hr] at h0;cases h0),fun j hj=>?_⟩
 rw[hr] at hj
 obtain rfl:j=i:=by simpa using hj
 have hm:j∈Region.ready .any ops listed:=by rw[hr];simp
 exact wpOp_mono (fun a' w' h'=>⟨h'.1,h'.2 (C.set hm) X R⟩) (wpOp_of_OL (N:=N) (X:=X) (R:=R) hi hh)
def Eff1 (P:Program) (ops:Array Oper) (H E:List Nat) (S:Heap→Prop) (N:Act→World→Prop) (fuel:Nat) (listed:Array Bool) (a:Act) (w:World) (i:Nat):Prop:=
 ∃o,ops[i]?=some o∧OL P ops (fun a' w'=>(need ops H E (listed.setIfInBounds i true)=true→S w'.heap)∧BN P ops H E S N fuel (listed.setIfInBounds i true) a' w') [o] a w
def Effs (P:Program) (ops:Array Oper) (H E:List Nat) (S:Heap→Prop) (N:Act→World→Prop) (fuel:Nat) (listed:Array Bool) (a:Act) (w:World):List Nat→Prop
 | []=>True
 | i :: is=>Eff1 P ops H E S N fuel listed a w i∧Effs P ops H E S N fuel listed a w is
theorem BN.effs (rs:List Nat) (hr:Region.ready .any ops listed=rs) (hne:rs.isEmpty=false) (hh:Effs P ops H E S N fuel listed a w rs):BN P ops H E S N (fuel+1) listed a w:=by
 intro C X R
 refine⟨fun h0=>(by rw[hr] at h0;subst h0;cases hne),fun j hj=>?_⟩
 rw[hr] at hj
 have hm:j∈Region.ready .any ops listed:=by rw[hr];exact hj
 have:∀l:List Nat,j∈l→Effs P ops H E S N fuel listed a w l→Eff1 P ops H E S N fuel listed a w j:=by
  intro l
  induction l with
  | nil=>intro hj;cases hj
  | cons i is ih=>
   intro hj hh
   rcases List.mem_cons.1 hj with rfl|hj
   ·exact hh.1
   ·exact ih hj hh.2
 obtain⟨o,hi,hh⟩:=this rs hj hh
 exact wpOp_mono (fun a' w' h'=>⟨h'.1,h'.2 (C.set hm) X R⟩) (wpOp_of_OL (N:=N) (X:=X) (R:=R) hi hh)
theorem BN.done (hr:Region.ready .any ops listed=[]) (hN:N a w):BN P ops H E S N fuel listed a w:=fun _ _ _=>by
 cases fuel with
 | zero=>exact⟨hr,hN⟩
 | succ=>exact⟨fun _=>hN,by rw[hr];simp⟩
theorem noNeed {b:Bool} {p:Prop} (h:b=false) (e:b=true):p:=by rw[h] at e;cases e
theorem hlRow {p:Addr} {cs:List Value} {w':World} (hS:S w'.heap) (hr:∀h,S h→RowL h p 0 cs):Row w'.heap p cs:=(hr _ hS).toRow
end
section
variable {P:Program} {ops:Array Oper} {N:Act→World→Prop} {rest:List Oper} {a:Act} {w w0:World} {n d:Nat} {E:List (Nat×Value)} {h:Heap}
variable {ty:TypeId} {ps:String} {af:Array Edge} {g:Option (Nat×Bool)} {t:TypeId}
theorem run_buildSlice0 {s b len:Nat} {zv:Option Value} {e:TypeId} {dd:Option Tmp} (hu:P.underlying t=some (.slice e)) (hz:tinfo P e=some (zv,s,b)) (h0:len*s=0) :
  (execOp a.eval ⟨dd,.buildSlice t len #[],ty,ps,af,g⟩).run P w=.ok (.value (.slice (some ⟨w.heap.size,0,none⟩) len len)) { w with heap:=w.heap.push (.cells #[] e) }:=by
 simp only[execOp,Instr.buildSlice,Sem.run_bind,underlying_run hu,Result.andThen_ok,sizeOf_run hz,h0,Sem.run_pure,Sem.run_ite]
 have e0:Array.range 0=#[]:=by rw[Array.range_eq_empty_iff]
 simp[newRow,Instr.fill,e0]
theorem ol_newS0 {s b len:Nat} {zv:Option Value} {e:TypeId} {K:Sv→Heap→Prop} (S:St n E h w0 a w) (H:newS e #[] len h K)
  (hu:P.underlying t=some (.slice e)) (hz:tinfo P e=some (zv,s,b)) (h0:len*s=0) (hn:Nat.blt d n=true) (hg:GOk ops E g)
  (k:∀(s:Sv) a' w' h',K s h'→St n ((d,s.v) :: E) h' w0 a' w'→OL P ops N rest a' w'):OL P ops N (⟨some d,.buildSlice t len #[],ty,ps,af,g⟩ :: rest) a w:=by
 have r:=run_buildSlice0 (P:=P) (w:=w) (a:=a) (dd:=some d) (ty:=ty) (ps:=ps) (af:=af) (g:=g) hu hz h0
 rw[S.heap] at r
 exact OL.val S r rfl hn rfl ⟨rfl,rfl,rfl⟩ hg fun a' S'=>k ⟨some ⟨h.size,0,none⟩,len,len⟩ a' _ _ (H _ _ rfl rfl) S'
end
end Go.Lf
namespace Go.Lf
open Go
def slS (s:Sv) (sz:Nat) (lo hi:Int) (K:Sv→Prop):Prop:=0≤lo∧lo≤hi∧hi≤s.c∧∀s':Sv,s'.a=(if s.c=lo.toNat then s.a else s.a.map (·.add (lo.toNat*sz)))→s'.n=hi.toNat - lo.toNat→s'.c=s.c - lo.toNat→K s'
theorem slS_ex {s:Sv} {sz:Nat} {lo hi:Int} {K:Sv→Prop} (H:slS s sz lo hi K):∃s':Sv,0≤lo∧lo≤hi∧hi≤s.c∧s'.v=.slice (if s.c=lo.toNat then s.a else s.a.map (·.add (lo.toNat*sz))) (hi.toNat - lo.toNat) (s.c - lo.toNat)∧K s':=
 ⟨⟨_,_,_⟩,H.1,H.2.1,H.2.2.1,rfl,H.2.2.2 _ rfl rfl rfl⟩
def calV (P:Program) (f:Value) (args:Array Value) (h:Heap) (K:Value→Heap→Prop):Prop:=∃fno caps,f=.func (.func fno) #[] caps∧IsFn P fno∧cal P fno (args++caps) h K
section
variable {P:Program} {a:Act} {w:World} {d:Option Tmp} {ty:TypeId} {ps:String} {af:Array Edge} {g:Option (Nat×Bool)} {x y z:Operand} {v:Value} {t:TypeId}
section
variable {e:TypeId} {zz:Option Value} {sz by_:Nat} {s s':Sv} {lo hi:Int} {k k':IntKind}
theorem run_slSN (hu:P.underlying t=some (.slice e)) (hz:tinfo P e=some (zz,sz,by_)) (hx:a.eval x=s.v) (hl:a.eval y=.int k lo) (c0:0≤lo) (c1:lo≤(s.n:Int)) (c2:(s.n:Int)≤s.c)
  (es:s'.v=.slice (if s.c=lo.toNat then s.a else s.a.map (·.add (lo.toNat*sz))) ((s.n:Int).toNat - lo.toNat) (s.c - lo.toNat)) :
  (execOp a.eval ⟨d,.slice t x (some y) none none,ty,ps,af,g⟩).run P w=.ok (.value s'.v) w:=by
 rw[es]
 exact run_slc (l:=lo.toNat) (h:=s.n) hu hz hx ⟨k,lo,hl,c0,rfl⟩ rfl (by omega) (by omega)
theorem run_slNS (hu:P.underlying t=some (.slice e)) (hz:tinfo P e=some (zz,sz,by_)) (hx:a.eval x=s.v) (hh:a.eval z=.int k hi) (c1:0≤hi) (c2:hi≤s.c)
  (es:s'.v=.slice (if s.c=(0:Int).toNat then s.a else s.a.map (·.add ((0:Int).toNat*sz))) (hi.toNat - (0:Int).toNat) (s.c - (0:Int).toNat)) :
  (execOp a.eval ⟨d,.slice t x none (some z) none,ty,ps,af,g⟩).run P w=.ok (.value s'.v) w:=by
 rw[es]
 exact run_slc (l:=0) (h:=hi.toNat) hu hz hx rfl ⟨k,hi,hh,c1,rfl⟩ (by omega) (by omega)
end
theorem run_callV {f:FuncId} {args:Array Operand} {as_ caps vs:Array Value} {ats:Array TypeId} (hf:IsFn P f) (hx:a.eval x=.func (.func f) #[] caps) (ha:args.map a.eval=as_) (hv:as_++caps=vs) :
  (execOp a.eval ⟨d,.call { callee:=.value x,args:=args,argTypes:=ats },ty,ps,af,g⟩).run P w=.ok (.enter f vs) w:=by
 obtain⟨fn,h1,h2,h3⟩:=hf.ex
 have h3':¬fn.name = "runtime.NumGoroutine":=by simpa using h3
 have h2':¬fn.body=none:=fun e=>by rw[e] at h2;cases h2
 subst hv
 simp[execOp,resolve,ha,hx,Deferred.ofValue,invoke,callFunc,h1,h2',h3']
end
section
variable {P:Program} {ops:Array Oper} {N:Act→World→Prop} {rest:List Oper} {a:Act} {w w0:World} {n d:Nat} {E:List (Nat×Value)} {h:Heap} {o:Oper}
variable {ty:TypeId} {ps:String} {af:Array Edge} {g:Option (Nat×Bool)} {x y:Operand} {v:Value} {t t':TypeId}
theorem ol_calV {args:Array Operand} {f:Value} {vs:Array Value} {ats:Array TypeId} {K:Value→Heap→Prop} (S:St n E h w0 a w) (H:calV P f vs h K) (hx:evo E x=some f) (ha:evs E args.toList=some vs.toList) (hn:Nat.blt d n=true) (hg:GOk ops E g)
  (k:∀v a' w' h',K v h'→St n ((d,v) :: E) h' w0 a' w'→OL P ops N rest a' w'):OL P ops N (⟨some d,.call { callee:=.value x,args:=args,argTypes:=ats },ty,ps,af,g⟩ :: rest) a w:=by
 obtain⟨fno,caps,rfl,hf,J,hJ,hK⟩:=H
 exact OL.call S (run_callV hf (S.ev hx) (evs_map S ha) rfl) rfl hn hg hJ fun v h' a' w' j s=>k v a' w' h' (hK v h' j) s
end
end Go.Lf
namespace Go.Lf
open Go
structure IsExt (P:Program) (f:FuncId) (e:Array Value→Sem Value):Prop where
 ex:∃fn,P.funcs[f]?=some fn∧fn.body.isNone=true∧(fn.name == "runtime.NumGoroutine")=false∧Extern.findNext fn=none∧Extern.find fn=some e
end Go.Lf
namespace Go.Lf
open Go
def RV (P:Program) (E:List (Nat×Value)) (h:Heap):List ResultVar→List Value→Prop
 | [],vs=>vs=[]
 | .tmp t :: r,vs=>∃v vs',vs=v :: vs'∧lk E t=some v∧RV P E h r vs'
 | .cell s t :: r,vs=>∃v vs' p,vs=v :: vs'∧lk E s=some (.pointer (some p)) ∧
   ((∃cs z b,v=.agg (List.toArray cs)∧aggT P t=true∧tinfo P t=some (z,cs.length,b)∧Row h p cs)∨(flatT P t=true∧cl h p=some v))∧RV P E h r vs'
theorem RV.nil {P:Program} {E:List (Nat×Value)} {h:Heap}:RV P E h [] []:=rfl
theorem RV.tmp {P:Program} {E:List (Nat×Value)} {h:Heap} {t:Tmp} {r:List ResultVar} {v:Value} {vs:List Value} (a:lk E t=some v) (k:RV P E h r vs):RV P E h (.tmp t :: r) (v :: vs):=⟨v,vs,rfl,a,k⟩
theorem RV.cellA {P:Program} {E:List (Nat×Value)} {h:Heap} {s:Tmp} {t:TypeId} {r:List ResultVar} {cs:List Value} {vs:List Value} {p:Addr} {z:Option Value} {b:Nat}
  (a:lk E s=some (.pointer (some p))) (ht:aggT P t=true) (hi:tinfo P t=some (z,cs.length,b)) (hr:RowL h p 0 cs) (k:RV P E h r vs):RV P E h (.cell s t :: r) (.agg cs.toArray :: vs):=
 ⟨_,vs,p,rfl,a,.inl ⟨cs,z,b,rfl,ht,hi,hr.toRow⟩,k⟩
def rv1 (tmps:Array Value):ResultVar→Sem Value
 | .tmp t=>pure (tmps.getD t undef)
 | .cell b t=>do loadVar t (←asAddr (tmps.getD b undef))
theorem RV.run {P:Program} {n:Nat} {E:List (Nat×Value)} {h:Heap} {w0 w:World} {a:Act} (S:St n E h w0 a w):∀ {l:List ResultVar} {vs:List Value},RV P E h l vs →
  (l.mapM (rv1 a.tmps)).run P w=.ok vs w
 | [],vs,k=>by simp only[RV] at k;subst k;simp
 | .tmp t :: r,vs,k=>by
  obtain⟨v,vs',rfl,h1,h2⟩:=k
  have:=RV.run S h2
  rw[List.mapM_cons]
  have e:(rv1 a.tmps (.tmp t)).run P w=.ok v w:=by
   show (pure (a.tmps.getD t undef):Sem Value).run P w=_
   rw[S.getD h1];rfl
  simp[e,this]
 | .cell s t :: r,vs,k=>by
  obtain⟨v,vs',p,rfl,h1,h2,h3⟩:=k
  have:=RV.run S h3
  rw[List.mapM_cons]
  have hl:(loadVar t p).run P w=.ok v w:=by
   rcases h2 with⟨cs,z,b,rfl,q1,q2,q3⟩|⟨q1,q2⟩
   ·have e:=run_loadCells_list (P:=P) (w:=w) p cs (by rw[←S.heap] at q3;exact q3)
    simp[loadVar,agg_isAgg q1,sizeOf_run q2,e]
   ·have hc':w.cell? p=some v:=by rw[cell?_eq,S.heap];exact q2
    simp[loadVar,flat_isAgg q1,hc']
  have e:(rv1 a.tmps (.cell s t)).run P w=.ok v w:=by
   show (do loadVar t (←asAddr (a.tmps.getD s undef)):Sem Value).run P w=_
   rw[S.getD h1];simp[asAddr,hl]
  simp[e,this]
def unl (vs:List Value):Value:=match vs with
 | [v]=>v
 | _=>.tuple vs.toArray
theorem Ret.gen {P:Program} {fn:Func} {R:Value→Heap→Prop} {w0:World} {a:Act} {w:World} {n:Nat} {E:List (Nat×Value)} {h:Heap} {l:List ResultVar} {vs:List Value} {v:Value}
  (S:St n E h w0 a w) (hr:fn.results.toList=l) (k:RV P E h l vs) (hv:unl vs=v) (HR:R v h):Ret P fn R w0 a w:=by
 refine⟨S.defers,v,?_,by rw[S.heap];exact HR,S.rest⟩
 have e:=RV.run S k
 have e0:Go.results fn a.tmps=(do let vs ←fn.results.mapM (rv1 a.tmps);pure (if h:vs.size=1 then vs[0] else .tuple vs)):=by
  unfold Go.results
  congr 1
 rw[e0,Array.mapM_eq_mapM_toList,hr,←hv]
 simp only[Sem.run_bind,Sem.run_map,e,Result.andThen_ok]
 cases vs with
 | nil=>simp[unl]
 | cons u us=>cases us<;>simp[unl]
end Go.Lf
namespace Go.Lf
open Go
structure Tv where
 k:Int
 nm:ByteArray
 mu:Bool
 r:Int
 rs:Sv
 az:Sv
abbrev tvs (t:Tv):Array Value:=#[.int .i64 t.k,.string t.nm,.bool t.mu,.int .i64 t.r,.slice t.rs.a t.rs.n t.rs.c,.slice t.az.a t.az.n t.az.c]
def Tv6 (h:Heap) (p:Addr) (t:Tv):Prop:=cl h p=some (.int .i64 t.k)∧cl h (p.add 1)=some (.string t.nm)∧cl h (p.add 2)=some (.bool t.mu)∧cl h (p.add 3)=some (.int .i64 t.r) ∧
 cl h (p.add 4)=some (.slice t.rs.a t.rs.n t.rs.c)∧cl h (p.add 5)=some (.slice t.az.a t.az.n t.az.c)
theorem Tv6.blk {h:Heap} {b:Nat} {t:Tv} (k:blk h b (tvs t)):Tv6 h ⟨b,0,none⟩ t:=by
 unfold Tv6
 simp only[add_plain,k.cl]
 exact⟨rfl,rfl,rfl,rfl,rfl,rfl⟩
theorem Tv6.fr {h h':Heap} {p:Addr} {t:Tv} {T:Nat→Prop} (x:Tv6 h p t) (f:Fr T h h') (hT:¬T p.block):Tv6 h' p t:=by
 obtain⟨a,b,c,d,e,g⟩:=x
 exact⟨f.clk a hT,f.clk b (by rw[add_block];exact hT),f.clk c (by rw[add_block];exact hT),f.clk d (by rw[add_block];exact hT),f.clk e (by rw[add_block];exact hT),f.clk g (by rw[add_block];exact hT)⟩
theorem Tv6.lt {h:Heap} {p:Addr} {t:Tv} (x:Tv6 h p t):p.block<h.size:=cl_lt x.1
inductive Ty where
 | mk (k:Int) (nm:ByteArray) (mu:Bool) (r:Int) (rs:List Int) (az:List Ty)
theorem Ty.ind {P:Ty→Prop} (H:∀k nm mu r rs az,(∀a∈az,P a)→P (.mk k nm mu r rs az)) (t:Ty):P t:=
 Ty.rec (motive_1:=P) (motive_2:=fun l=>∀a∈l,P a) (fun k nm mu r rs az ih=>H k nm mu r rs az ih) (fun _ h=>by cases h)
  (fun a az h1 h2 b hb=>(List.mem_cons.1 hb).elim (fun e=>e ▸ h1) fun e=>h2 b e) t
structure IntsQ (Q:Nat→Prop) (h:Heap) (s:Sv) (xs:List Int):Prop where
 len:s.n=xs.length
 at_:∀i (hi:i<xs.length),∃p,s.a=some p∧Q p.block∧cl h (p.add (i*1))=some (.int .i64 xs[i])
section
variable {Q Q' T:Nat→Prop} {h h':Heap} {s:Sv} {xs:List Int}
theorem IntsQ.ints (x:IntsQ Q h s xs):IntsAt h s xs:=⟨x.len,fun i hi=>by obtain⟨p,e,_,c⟩:=x.at_ i hi;exact⟨p,e,c⟩⟩
theorem IntsQ.of (x:IntsAt h s xs) (hq:∀b,s.own b→b<h.size→Q b):IntsQ Q h s xs:=
 ⟨x.len,fun i hi=>by obtain⟨p,e,c⟩:=x.at_ i hi;exact⟨p,e,hq _ ⟨p,e,rfl⟩ (by rw[←add_block p (i*1)];exact cl_lt c),c⟩⟩
theorem IntsQ.fr (x:IntsQ Q h s xs) (f:Fr T h h') (hT:∀b,Q b→¬T b):IntsQ Q h' s xs:=
 ⟨x.len,fun i hi=>by obtain⟨p,e,q,c⟩:=x.at_ i hi;exact⟨p,e,q,f.clk c (by rw[add_block];exact hT _ q)⟩⟩
theorem IntsQ.weak (x:IntsQ Q h s xs) (hq:∀b,Q b→b<h.size→Q' b):IntsQ Q' h s xs:=
 ⟨x.len,fun i hi=>by obtain⟨p,e,q,c⟩:=x.at_ i hi;exact⟨p,e,hq _ q (by rw[←add_block p (i*1)];exact cl_lt c),c⟩⟩
end
structure IntsC (Q:Nat→Prop) (h:Heap) (s:Sv) (xs:List Int):Prop extends IntsQ Q h s xs where
 cap:s.n≤s.c
section
variable {Q Q' T:Nat→Prop} {h h':Heap} {s:Sv} {xs:List Int}
theorem IntsC.fr (x:IntsC Q h s xs) (f:Fr T h h') (hT:∀b,Q b→¬T b):IntsC Q h' s xs:=⟨x.toIntsQ.fr f hT,x.cap⟩
theorem IntsC.weak (x:IntsC Q h s xs) (hq:∀b,Q b→b<h.size→Q' b):IntsC Q' h s xs:=⟨x.toIntsQ.weak hq,x.cap⟩
theorem IntsC.nil (Q:Nat→Prop) (h:Heap):IntsC Q h ⟨none,0,0⟩ []:=⟨⟨rfl,fun i hi=>by simp at hi⟩,Nat.le_refl _⟩
end
theorem own_cap {h:Heap} {B sz:Nat} {s:Sv} {xs:List Value} (o:Own h B sz s xs):s.n≤s.c:=by
 rcases o.mem with⟨_,e1,e2⟩|⟨g,cur,_,_,_,e,_⟩<;>omega
def TyAt (Q:Nat→Prop) (h:Heap):Ty→Tv→Prop:=
 Ty.rec (motive_1:=fun _=>Tv→Prop) (motive_2:=fun _=>Sv→Nat→Prop)
  (fun k nm mu r rs az ih v=>v.k=k∧v.nm=nm∧v.mu=mu∧v.r=r∧IntsC Q h v.rs rs∧v.az.n=az.length∧ih v.az 0)
  (fun _ _=>True)
  (fun _ _ ih1 ih2 s i=>(∃p v,s.a=some p∧Q p.block∧Tv6 h (p.add (i*6)) v∧ih1 v)∧ih2 s (i+1))
def ArgsAt (Q:Nat→Prop) (h:Heap):List Ty→Sv→Nat→Prop
 | [],_,_=>True
 | a :: az,s,i=>(∃p v,s.a=some p∧Q p.block∧Tv6 h (p.add (i*6)) v∧TyAt Q h a v)∧ArgsAt Q h az s (i+1)
section
variable {Q Q' T:Nat→Prop} {h h':Heap}
theorem argsAt_rec (az:List Ty) (s:Sv) (i:Nat):(Ty.rec_1 (motive_1:=fun _=>Tv→Prop) (motive_2:=fun _=>Sv→Nat→Prop)
  (fun k nm mu r rs az ih v=>v.k=k∧v.nm=nm∧v.mu=mu∧v.r=r∧IntsC Q h v.rs rs∧v.az.n=az.length∧ih v.az 0)
  (fun _ _=>True)
  (fun _ _ ih1 ih2 s i=>(∃p v,s.a=some p∧Q p.block∧Tv6 h (p.add (i*6)) v∧ih1 v)∧ih2 s (i+1)) az:Sv→Nat→Prop) s i=ArgsAt Q h az s i:=by
 induction az generalizing i with
 | nil=>rfl
 | cons a az ih=>rw[ArgsAt,←ih (i+1)];rfl
theorem argsAt_iff (az:List Ty) (s:Sv) (i:Nat):ArgsAt Q h az s i↔∀j (hj:j<az.length),∃p v,s.a=some p∧Q p.block∧Tv6 h (p.add ((i+j)*6)) v∧TyAt Q h az[j] v:=by
 induction az generalizing i with
 | nil=>simp[ArgsAt]
 | cons a az ih=>
  rw[ArgsAt,ih (i+1)]
  constructor
  ·rintro ⟨h1,h2⟩ j hj
   cases j with
   | zero=>simpa using h1
   | succ j=>
    have:=h2 j (by simpa using hj)
    rw[show i+1+j=i+(j+1) by omega] at this
    simpa using this
  ·intro H
   refine⟨H 0 (Nat.zero_lt_succ _),fun j hj=>?_⟩
   have:=H (j+1) (by simpa using hj)
   rw[show i+(j+1)=i+1+j by omega] at this
   simpa using this
theorem tyAt_iff {k:Int} {nm:ByteArray} {mu:Bool} {r:Int} {rs:List Int} {az:List Ty} {v:Tv}:TyAt Q h (.mk k nm mu r rs az) v ↔
  (v.k=k∧v.nm=nm∧v.mu=mu∧v.r=r∧IntsC Q h v.rs rs∧v.az.n=az.length∧∀j (hj:j<az.length),∃p u,v.az.a=some p∧Q p.block∧Tv6 h (p.add (j*6)) u∧TyAt Q h az[j] u):=by
 have e:=argsAt_iff (Q:=Q) (h:=h) az v.az 0
 rw[←argsAt_rec] at e
 simp only[Nat.zero_add] at e
 rw[←e]
 rfl
theorem TyAt.fr (f:Fr T h h') (hT:∀b,Q b→¬T b):∀ {t:Ty} {v:Tv},TyAt Q h t v→TyAt Q h' t v:=by
 intro t
 refine Ty.ind (P:=fun t=>∀ {v:Tv},TyAt Q h t v→TyAt Q h' t v) ?_ t
 intro k nm mu r rs az ih v hv
 rw[tyAt_iff] at hv ⊢
 obtain⟨e1,e2,e3,e4,e5,e6,e7⟩:=hv
 refine⟨e1,e2,e3,e4,e5.fr f hT,e6,fun j hj=>?_⟩
 obtain⟨p,u,q1,q2,q3,q4⟩:=e7 j hj
 exact⟨p,u,q1,q2,q3.fr f (by rw[add_block];exact hT _ q2),ih _ (List.getElem_mem hj) q4⟩
theorem TyAt.weak (hq:∀b,Q b→b<h.size→Q' b):∀ {t:Ty} {v:Tv},TyAt Q h t v→TyAt Q' h t v:=by
 intro t
 refine Ty.ind (P:=fun t=>∀ {v:Tv},TyAt Q h t v→TyAt Q' h t v) ?_ t
 intro k nm mu r rs az ih v hv
 rw[tyAt_iff] at hv ⊢
 obtain⟨e1,e2,e3,e4,e5,e6,e7⟩:=hv
 refine⟨e1,e2,e3,e4,e5.weak hq,e6,fun j hj=>?_⟩
 obtain⟨p,u,q1,q2,q3,q4⟩:=e7 j hj
 exact⟨p,u,q1,hq _ q2 (by rw[←add_block p (j*6)];exact q3.lt),q3,ih _ (List.getElem_mem hj) q4⟩
theorem TyAt.grow {t:Ty} {v:Tv} (x:TyAt Q h t v) (f:Grow h h'):TyAt Q h' t v:=x.fr f fun _ _ h=>h
end
end Go.Lf
namespace Go.Lf
open Go
def BoolsAt (h:Heap) (g n:Nat) (C:Nat→Bool):Prop:=∃cs:Array Value,blk h g cs∧cs.size=n∧∀k,k<n→cs[k]?=some (.bool (C k))
theorem BoolsAt.frame {h h':Heap} {g n:Nat} {C:Nat→Bool} {T:Nat→Prop} (x:BoolsAt h g n C) (fr:Fr T h h') (hT:¬T g):BoolsAt h' g n C:=by
 obtain⟨cs,k,r⟩:=x
 exact⟨cs,fr.blk k hT,r⟩
theorem BoolsAt.lt {h:Heap} {g n:Nat} {C:Nat→Bool} (x:BoolsAt h g n C):g<h.size:=by obtain⟨cs,k,_⟩:=x;exact k.lt
theorem BoolsAt.cell {h:Heap} {g n:Nat} {C:Nat→Bool} (x:BoolsAt h g n C) {k:Nat} (hk:k<n):cl h ⟨g,k,none⟩=some (.bool (C k)):=by
 obtain⟨cs,kb,s,r⟩:=x
 rw[kb.cl,r k hk]
theorem BoolsAt.congr {h:Heap} {g n:Nat} {C D:Nat→Bool} (x:BoolsAt h g n C) (e:∀k,k<n→C k=D k):BoolsAt h g n D:=by
 obtain⟨cs,kb,s,r⟩:=x
 exact⟨cs,kb,s,fun k hk=>by rw[r k hk,e k hk]⟩
theorem BoolsAt.put {h:Heap} {g n:Nat} {C:Nat→Bool} (x:BoolsAt h g n C) {k:Nat} (hk:k<n) (b:Bool) {K:Heap→Prop}
  (kk:∀h',BoolsAt h' g n (fun j=>if j=k then b else C j)→Fr (fun i=>i=g) h h'→K h'):sto h ⟨g,k,none⟩ (.bool b) K:=by
 obtain⟨cs,kb,s,r⟩:=x
 refine sto_i kb (by omega) (kk _ ⟨_,kb.sc k _,by simp[s],fun j hj=>?_⟩ (Fr.scb _ _ _ _))
 rw[Array.getElem?_setIfInBounds]
 by_cases e:k=j
 ·subst e;simp[s,hk]
 ·have e':¬j=k:=fun h=>e h.symm
  simp[e,e',r j hj]
theorem slS_head {s:Sv} {sz m:Nat} {K:Sv→Prop} (hm:m≤s.c) (k:K ⟨s.a,m,s.c⟩):slS s sz 0 (m:Int) K:=by
 refine⟨by omega,by omega,by omega,?_⟩
 rintro ⟨a,n,c⟩ h1 h2 h3
 obtain⟨sa,sn,sc⟩:=s
 dsimp only at h1 h2 h3
 have e1:a=sa:=by
  rw[h1]
  cases sa with
  | none=>simp
  | some p=>simp[add_zero]
 have e2:n=m:=by rw[h2];simp
 have e3:c=sc:=by rw[h3];simp
 rw[e1,e2,e3]
 exact k
theorem Own.head {h:Heap} {B sz:Nat} {s:Sv} {xs:List Value} (o:Own h B sz s xs) {m:Nat} (hm:m≤s.n):Own h B sz ⟨s.a,m,s.c⟩ (xs.take (m*sz)):=by
 have hl:=o.len
 have hle:m*sz≤s.n*sz:=Nat.mul_le_mul_right _ hm
 refine⟨by rw[List.length_take];dsimp only;omega,o.mem.imp (fun ⟨e1,e2,e3⟩=>⟨e1,by dsimp only;omega,e3⟩) ?_⟩
 rintro ⟨g,cur,e,hB,k,hn,hc,ht⟩
 refine⟨g,cur,e,hB,k,by dsimp only;omega,hc,?_⟩
 rw[←ht,List.take_take]
 congr 1
 dsimp only
 omega
theorem rd_cap {P:Program} {h:Heap} {fuel:Nat} {t e:TypeId} {s:Sv} (hu:P.underlying t=some (.slice e)) (hr:rd P h fuel t [s.v]):s.n≤s.c:=by
 cases fuel with
 | zero=>exact hr.elim
 | succ fuel=>
  unfold rd at hr
  rw[hu] at hr
  obtain⟨sa,sn,sc⟩:=s
  rcases hr with hr|⟨a,n,c,hr,h1,_⟩
  ·simp[Sv.v] at hr
   obtain⟨rfl,rfl,rfl⟩:=hr
   exact Nat.le_refl _
  ·simp[Sv.v] at hr
   obtain⟨rfl,rfl,rfl⟩:=hr
   exact h1
end Go.Lf
namespace Go.Lf
open Go
section
variable {P:Program} {h:Heap} {t e tt ti tsn tb tl ta:TypeId} {fuel:Nat}
theorem rd_string {cs:List Value} (hu:P.underlying t=some .string) (hr:rd P h fuel t cs):∃s,cs=[.string s]:=by
 cases fuel with
 | zero=>exact hr.elim
 | succ fuel=>
  unfold rd at hr
  rw[hu] at hr
  obtain⟨s,e,_⟩:=hr
  exact⟨s,e⟩
theorem rd_fieldS {cs:List Value} {fs:Array Field} (hu:P.underlying t=some (.struct fs)) (hr:rd P h (fuel+1) t cs) (i:Nat) {f:Field} (hf:fs[i]?=some f) {n:Nat} (hn:P.cellsOf f.type=n):rd P h fuel f.type ((cs.drop f.offset).take n):=by
 unfold rd at hr
 rw[hu] at hr
 rw[←hn]
 exact hr.2 i f hf
theorem rd_elemsS {s:Sv} (hu:P.underlying t=some (.slice e)) (hr:rd P h (fuel+1) t [s.v]):∀i,i<s.n→∃a,s.a=some a∧∃cs':List Value,cs'.length=P.cellsOf e∧(∀j,j<P.cellsOf e→cl h ((a.add (i*P.cellsOf e)).add j)=cs'[j]?)∧rd P h fuel e cs':=by
 unfold rd at hr
 rw[hu] at hr
 obtain⟨sa,sn,sc⟩:=s
 rcases hr with hr|⟨a,n,c,hr,h1,h2,hall⟩
 ·simp[Sv.v] at hr
  obtain⟨rfl,rfl,rfl⟩:=hr
  intro i hi
  simp at hi
 ·simp[Sv.v] at hr
  obtain⟨rfl,rfl,rfl⟩:=hr
  intro i hi
  refine⟨a,rfl,?_⟩
  obtain⟨cs',q1,q2,q3⟩:=hall i (by simp at hi;omega)
  exact⟨cs',q1,q2,q3⟩
end
end Go.Lf
namespace Go.Lf
open Go
theorem add_add (p:Addr) (a b:Nat):(p.add a).add b=p.add (a+b):=by
 obtain⟨k,o,s⟩:=p
 by_cases hb:b=0
 ·subst hb;simp[Addr.add]
 ·by_cases ha:a=0
  ·subst ha;simp[Addr.add]
  ·simp[Addr.add,ha,hb,Nat.add_assoc]
theorem own_addr {h:Heap} {B sz:Nat} {s:Sv} {xs:List Value} (o:Own h B sz s xs) (hn:0<s.n):∃g,s.a=some ⟨g,0,none⟩:=by
 rcases o.mem with⟨_,e,_⟩|⟨g,cur,e,_⟩
 ·omega
 ·exact⟨g,e⟩
theorem own_stoA {h:Heap} {B sz:Nat} {s:Sv} {xs:List Value} (o:Own h B sz s xs) {i:Nat} (hi:i<s.n) {vs:List Value} (hl:vs.length=sz) (h1:∀v∈vs,v.oneCell'=true) {p:Addr} (hp:s.a=some p) {K:Heap→Prop}
  (k:∀h',Own h' B sz s (xs.take (i*sz)++vs++xs.drop (i*sz+sz))→Fr s.own h h'→K h'):stoA h (p.add (i*sz)) vs K:=by
 rcases o.mem with⟨e,_,_⟩|⟨g,cur,e,hB,kk,hc,hsz,ht⟩
 ·rw[e] at hp;cases hp
 rw[e] at hp
 simp only[Option.some.injEq] at hp
 subst hp
 have hlt:i*sz+sz≤s.n*sz:=by rw[←Nat.succ_mul];exact Nat.mul_le_mul_right _ hi
 have hcap:s.n*sz≤cur.size:=by rw[hsz];exact Nat.mul_le_mul_right _ hc
 have hfit:i*sz+vs.length≤cur.size:=by omega
 refine⟨h1,fun j hj=>?_,?_⟩
 ·rw[add_plain,add_plain]
  refine⟨?_,kk.fz _⟩
  rw[kk.cl]
  have:i*sz+j<cur.size:=by omega
  simp[this]
 ·rintro h' rfl
  have hs:=scs_blk g vs h cur (i*sz) 0 kk
  simp only[Nat.add_zero] at hs
  rw[add_plain,Nat.zero_add]
  have hf:=fold_set vs cur (i*sz) hfit
  refine k _ ⟨?_,.inr ⟨g,_,e,hB,hs.1,hc,?_,?_⟩⟩ (hs.2.mono fun b _ hb=>⟨_,e,hb.symm⟩)
  ·have:=o.len
   simp only[List.length_append,List.length_take,List.length_drop]
   omega
  ·rw[←hsz,←Array.length_toList,hf]
   simp
   omega
  ·rw[hf]
   have hxl:=o.len
   apply List.ext_getElem?
   intro q
   rw[←ht]
   simp only[List.getElem?_take,List.getElem?_append,List.length_take,List.length_append,List.getElem?_drop,Array.length_toList]
   have m1:min (i*sz) cur.size=i*sz:=by omega
   have m2:min (s.n*sz) cur.size=s.n*sz:=by omega
   have m3:min (i*sz) (s.n*sz)=i*sz:=by omega
   simp only[m1,m2,m3,hl]
   by_cases q1:q<s.n*sz
   ·by_cases q2:q<i*sz
    ·have q3:q<i*sz+sz:=by omega
     simp[q1,q2,q3]
    ·by_cases q3:q<i*sz+sz
     ·simp[q1,q2,q3]
     ·simp[q1,q3]
      intro hh;omega
   ·have q3:¬q<i*sz+sz:=by omega
    simp[q1,q3]
    intro hh;omega
end Go.Lf
namespace Go.Proofs.Ytggacajnmgligaa.row
open Go Go.Lf Go.ChangeShapes Go.WideShapes Go.ChangeAt Go.RowKit
theorem own:ownKnob Try.prog.godebug=none:=by kernel_rfl
theorem laidOut:laidOutB Try.prog=true:=by kernel_rfl
end Go.Proofs.Ytggacajnmgligaa.row
namespace Go.Lf
open Go
set_option linter.unusedVariables false
structure Pre (T:Heap→Heap→Prop):Prop where
 refl:∀h,T h h
 trans:∀a b c,T a b→T b c→T a c
 size:∀a b,T a b→a.size≤b.size
theorem Pre.eq:Pre (fun a b:Heap=>a=b):=⟨fun _=>rfl,fun _ _ _ x y=>x.trans y,fun _ _ x=>by rw[x];exact Nat.le_refl _⟩
structure GOp where
 i:Nat
 d:Nat
 e:Bool
 dep:List Nat
 sv:List Value→Value
 ok:List Value→Nat→Nat→Heap→Prop
def pS:Value→Sv
 | .slice a n c=>⟨a,n,c⟩
 | _=>⟨none,0,0⟩
def nth (l:List Value) (k:Nat):Value:=(l[k]?).getD undef
def upd {α:Type} (X:Nat→α) (i:Nat) (u:α) (k:Nat):α:=bif Nat.beq k i then u else X k
theorem upd_other {α:Type} (X:Nat→α) {i k:Nat} (u:α) (h:k≠i):upd X i u k=X k:=by
 have:Nat.beq k i=false:=by cases hb:Nat.beq k i with|false=>rfl|true=>exact absurd (Nat.eq_of_beq_eq_true hb) h
 simp[upd,this]
theorem dep_upd (X:Nat→Value) {i:Nat} (u:Value) {dep:List Nat} (h:i∉dep):dep.map (upd X i u)=dep.map X:=
 List.map_congr_left fun k hk=>upd_other X u fun e=>h (e ▸ hk)
def fullE (a:Act):List (Nat×Value):=a.tmps.toList.zipIdx.map fun p=>(p.2,p.1)
theorem lk_full (l:List Value):∀(k t:Nat),lk ((l.zipIdx k).map fun p=>(p.2,p.1)) t=if t<k then none else l[t - k]?:=by
 induction l with
 | nil=>intro k t;simp[lk]
 | cons v l ih=>
  intro k t
  simp only[List.zipIdx_cons,List.map_cons,lk]
  cases hb:Nat.beq k t with
  | true=>
   have:=Nat.eq_of_beq_eq_true hb
   subst this
   simp
  | false=>
   have hne:k≠t:=fun e=>by subst e;simp[Nat.beq_refl] at hb
   rw[cond_false,ih (k+1) t]
   by_cases h1:t<k
   ·rw[if_pos h1,if_pos (by omega)]
   ·rw[if_neg h1,if_neg (by omega)]
    have:t - k=(t - (k+1))+1:=by omega
    rw[this,List.getElem?_cons_succ]
theorem lk_app (E F:List (Nat×Value)) (t:Nat):lk (E++F) t=(lk E t).or (lk F t):=by
 induction E with
 | nil=>simp[lk]
 | cons p E ih=>
  obtain⟨s,v⟩:=p
  simp only[List.cons_append,lk]
  cases Nat.beq s t<;>simp[ih]
theorem lk_mem {E:List (Nat×Value)} {t:Nat} {v:Value} (h:lk E t=some v):(t,v)∈E:=by
 induction E with
 | nil=>simp[lk] at h
 | cons p E ih=>
  obtain⟨s,u⟩:=p
  simp only[lk] at h
  cases hb:Nat.beq s t with
  | true=>
   rw[hb,cond_true] at h
   have:=Nat.eq_of_beq_eq_true hb
   subst this
   simp only[Option.some.injEq] at h
   subst h
   simp
  | false=>
   rw[hb,cond_false] at h
   exact List.mem_cons_of_mem _ (ih h)
abbrev GI:=List (Nat×Nat×List Nat×List Nat)
section
variable {P:Program} {ops:Array Oper} {N:Act→World→Prop} {n fuel:Nat} {E:List (Nat×Value)} {h0:Heap} {w0:World} {T:Heap→Heap→Prop}
def setAll (l:Array Bool) (is:List Nat):Array Bool:=is.foldl (fun l i=>l.setIfInBounds i true) l
theorem setAll_size (is:List Nat):∀l:Array Bool,(setAll l is).size=l.size:=by
 induction is with
 | nil=>intro l;rfl
 | cons i is ih=>intro l;simp only[setAll,List.foldl_cons] at ih ⊢;rw[ih];simp
theorem setAll_get (is:List Nat):∀(l:Array Bool) (j:Nat),j<l.size→(setAll l is)[j]?=if j∈is then some true else l[j]?:=by
 induction is with
 | nil=>intro l j hj;simp[setAll]
 | cons i is ih=>
  intro l j hj
  have e:setAll l (i :: is)=setAll (l.setIfInBounds i true) is:=rfl
  rw[e,ih _ j (by simpa using hj),Array.getElem?_setIfInBounds]
  by_cases h1:j∈is
  ·simp[h1]
  ·by_cases h2:i=j
   ·subst h2;simp[hj]
   ·have h3:¬j=i:=fun e=>h2 e.symm
    simp[h1,h2,h3]
theorem countP_set {is:List Nat} (hn:is.Nodup) {i:Nat} (hi:i∈is) {l:Array Bool} (hlt:i<l.size) (hl:l.getD i false=false) :
  is.countP (fun k=>!l.getD k false)=is.countP (fun k=>!(l.setIfInBounds i true).getD k false)+1:=by
 induction is with
 | nil=>cases hi
 | cons k is ih=>
  obtain⟨hk,hn'⟩:=List.nodup_cons.1 hn
  simp only[List.countP_cons]
  rcases List.mem_cons.1 hi with e|e
  ·subst e
   have:∀k∈is,(!l.getD k false)=(!(l.setIfInBounds i true).getD k false):=fun k hk'=>by
    have hne:i≠k:=fun e=>hk (by rw[e];exact hk')
    rw[getD_set_ne false hne]
   rw[List.countP_congr (q:=fun k=>!(l.setIfInBounds i true).getD k false) (fun k hk'=>by rw[this k hk'])]
   have e2:(l.setIfInBounds i true).getD i false=true:=by simp[hlt]
   rw[e2,hl]
   simp
  ·have hne:i≠k:=fun e'=>hk (by rw[←e'];exact e)
   rw[ih hn' e,getD_set_ne false hne]
   omega
theorem least_un {is:List Nat} {l:Array Bool} (h:is.countP (fun k=>!l.getD k false)≠0):∃i∈is,l.getD i false=false∧∀k∈is,k<i→l.getD k false=true:=by
 have:∃i,i∈is∧l.getD i false=false:=by
  rcases Nat.eq_zero_or_pos (is.countP (fun k=>!l.getD k false)) with e|e
  ·exact absurd e h
  ·obtain⟨i,hi,hp⟩:=List.countP_pos_iff.1 e
   exact⟨i,hi,by simpa using hp⟩
 obtain⟨i,hi⟩:=this
 induction i using Nat.strongRecOn with
 | _ i ih=>
  by_cases hk:∀k∈is,k<i→l.getD k false=true
  ·exact⟨i,hi.1,hi.2,hk⟩
  ·have:∃k,k∈is∧k<i∧l.getD k false=false:=by
    apply Classical.byContradiction
    intro hc
    refine hk fun k h1 h2=>?_
    cases hb:l.getD k false with
    | true=>rfl
    | false=>exact absurd ⟨k,h1,h2,hb⟩ hc
   obtain⟨k,h1,h2,h3⟩:=this
   exact ih k h2 ⟨h1,h3⟩
theorem inj_map {α:Type} {f:α→Nat}:∀ {l:List α},(l.map f).Nodup→∀a∈l,∀b∈l,f a=f b→a=b
 | [],_,a,ha,_,_,_=>by cases ha
 | x :: l,hn,a,ha,b,hb,e=>by
  simp only[List.map_cons,List.nodup_cons] at hn
  rcases List.mem_cons.1 ha with h1|h1
  ·rcases List.mem_cons.1 hb with h2|h2
   ·rw[h1,h2]
   ·have:=List.mem_map_of_mem (f:=f) h2
    rw[←e,h1] at this
    exact absurd this hn.1
  ·rcases List.mem_cons.1 hb with h2|h2
   ·have:=List.mem_map_of_mem (f:=f) h1
    rw[e,h2] at this
    exact absurd this hn.1
   ·exact inj_map hn.2 a h1 b h2 e
theorem getD_tf {l:Array Bool} {j:Nat} (hj:j<l.size):l.getD j true=l.getD j false:=by simp[hj]
structure GSt (h0:Heap) (w0:World) (T:Heap→Heap→Prop) (n:Nat) (E:List (Nat×Value)) (G:List GOp) (X:Nat→Value) (B:Nat→Nat×Nat) (listed:Array Bool) (a:Act) (w:World):Prop where
 base:St n E w.heap w0 a w
 t:T h0 w.heap
 slot:∀g∈G,listed.getD g.i false=true→a.tmps[g.d]?=some (g.sv (g.dep.map X))
 ok:∀g∈G,listed.getD g.i false=true→g.ok (g.dep.map X) (B g.i).1 (B g.i).2 w.heap
 rng:∀g∈G,listed.getD g.i false=true→h0.size≤(B g.i).1∧(B g.i).1≤(B g.i).2∧(B g.i).2≤w.heap.size
 dis:∀g∈G,∀k∈G,g.i≠k.i→listed.getD g.i false=true→listed.getD k.i false=true→(B g.i).2≤(B k.i).1∨(B k.i).2≤(B g.i).1
end
end Go.Lf
namespace Go.Lf
open Go
section
variable {P:Program} {ops:Array Oper} {N:Act→World→Prop} {rest:List Oper} {a:Act} {w w0:World} {n d:Nat} {E:List (Nat×Value)} {h:Heap} {v:Value} {o:Oper}
variable {ty t:TypeId} {ps:String} {af:Array Edge} {g:Option (Nat×Bool)} {x y:Operand} {p:Addr} {fuel:Nat} {listed:Array Bool}
theorem OL.zq (S:St n E h w0 a w) (r:(execOp a.eval o).run P w=.ok (.value v) w) (K:∀a',St n ((d,v) :: E) h w0 a' w→OL P ops N rest a' w)
  (hd:o.dst=some d:=by rfl) (hn:Nat.blt d n=true:=by rfl) (hg:GOk ops E o.guard:=by trivial):OL P ops N (o :: rest) a w:=OL.pure S r hd hn hg K
theorem OL.zn (S:St n E h w0 a w) (g:GNo ops E o.guard) (K:∀a',St n ((d,undef) :: E) h w0 a' w→OL P ops N rest a' w)
  (hd:o.dst=some d:=by rfl) (hn:Nat.blt d n=true:=by rfl):OL P ops N (o :: rest) a w:=OL.not S hd hn g K
theorem OL.zm (S:St n E h w0 a w) (K:∀a',St n ((d,v) :: E) h w0 a' w→OL P ops N rest a' w)
  (hx:evo E x=some v:=by rfl) (hn:Nat.blt d n=true:=by rfl) (hg:GOk ops E g:=by trivial):OL P ops N (⟨some d,.move x,ty,ps,af,g⟩ :: rest) a w:=OL.pure S (Lf.run_move (S.ev hx)) rfl hn hg K
theorem OL.za (S:St n E h w0 a w) (K:∀a',St n ((d,v) :: E) h w0 a' w→OL P ops N rest a' w)
  (hx:evo E x=some v:=by rfl) (hn:Nat.blt d n=true:=by rfl) (hg:GOk ops E g:=by trivial):OL P ops N (⟨some d,.assign x,ty,ps,af,g⟩ :: rest) a w:=OL.pure S (Lf.run_assign (S.ev hx)) rfl hn hg K
theorem OL.zf {i off:Nat} (S:St n E h w0 a w) (hf:fieldT P t i=some off) (K:∀a',St n ((d,.pointer (some (p.add off))) :: E) h w0 a' w→OL P ops N rest a' w)
  (hx:evo E x=some (.pointer (some p)):=by rfl) (hn:Nat.blt d n=true:=by rfl) (hg:GOk ops E g:=by trivial):OL P ops N (⟨some d,.fieldAddr t x i,ty,ps,af,g⟩ :: rest) a w:=OL.pure S (Lf.run_fa (S.ev hx) hf) rfl hn hg K
theorem OL.zl (S:St n E h w0 a w) (ht:flatT P t=true) (hc:Lf.cl h p=some v) (K:∀a',St n ((d,v) :: E) h w0 a' w→OL P ops N rest a' w)
  (hx:evo E x=some (.pointer (some p)):=by rfl) (hn:Nat.blt d n=true:=by rfl) (hg:GOk ops E g:=by trivial):OL P ops N (⟨some d,.load t x,ty,ps,af,g⟩ :: rest) a w:=OL.pure S (Lf.run_ld (S.ev hx) ht (S.cl hc)) rfl hn hg K
theorem AN.zq (i:Nat) (S:St n E h w0 a w) (hi:ops[i]?=some o) (r:∀w',(execOp a.eval o).run P w'=.ok (.value v) w')
  (k:∀a',St n ((d,v) :: E) h w0 a' w→AN P ops N fuel (listed.setIfInBounds i true) a' w)
  (ht:takeable P true ops listed i=true:=by kernel_rfl) (hd:o.dst=some d:=by rfl) (hn:Nat.blt d n=true:=by rfl) (hg:GOk ops E o.guard:=by trivial):AN P ops N (fuel+1) listed a w:=AN.pure i S hi ht r hd hn hg k
theorem AN.zl (i:Nat) (S:St n E h w0 a w) (hi:ops[i]?=some o) (r:∀w',Ext w w'→(execOp a.eval o).run P w'=.ok (.value v) w')
  (k:∀a',St n ((d,v) :: E) h w0 a' w→AN P ops N fuel (listed.setIfInBounds i true) a' w)
  (ht:takeable P false ops listed i=true:=by kernel_rfl) (hd:o.dst=some d:=by rfl) (hn:Nat.blt d n=true:=by rfl) (hg:GOk ops E o.guard:=by trivial):AN P ops N (fuel+1) listed a w:=AN.load i S hi ht r hd hn hg k
theorem AN.zn (i:Nat) (S:St n E h w0 a w) (hi:ops[i]?=some o) (g:GNo ops E o.guard)
  (k:∀a',St n ((d,undef) :: E) h w0 a' w→AN P ops N fuel (listed.setIfInBounds i true) a' w)
  (ht:takeable P true ops listed i=true:=by kernel_rfl) (hd:o.dst=some d:=by rfl) (hn:Nat.blt d n=true:=by rfl):AN P ops N (fuel+1) listed a w:=AN.not i S hi ht hd hn g k
end
end Go.Lf
namespace Go.Lf
open Go
set_option linter.unusedVariables false
structure IOp where
 i:Nat
 d:Nat
 b:Bool
 dep:List Nat
 sv:List Value→Value
def slotsI:List IOp→(Nat→Value)→List (Nat×Value)
 | [],_=>[]
 | g :: r,X=>bif g.b then (g.d,g.sv (g.dep.map X)) :: slotsI r X else slotsI r X
theorem slotsI_mem {t:Nat} {v:Value} {X:Nat→Value}:∀ {as_:List IOp},(t,v)∈slotsI as_ X→∃g∈as_,g.b=true∧t=g.d∧v=g.sv (g.dep.map X)
 | [],h=>by cases h
 | g :: r,h=>by
  unfold slotsI at h
  cases hb:g.b with
  | false=>
   rw[hb,cond_false] at h
   obtain⟨k,hk,e⟩:=slotsI_mem h
   exact⟨k,List.mem_cons_of_mem _ hk,e⟩
  | true=>
   rw[hb,cond_true] at h
   rcases List.mem_cons.1 h with e|e
   ·simp only[Prod.mk.injEq] at e
    exact⟨g,by simp,hb,e.1,e.2⟩
   ·obtain⟨k,hk,e⟩:=slotsI_mem e
    exact⟨k,List.mem_cons_of_mem _ hk,e⟩
def setL (L:Nat→Bool) (i:Nat):Nat→Bool:=fun k=>Nat.beq k i || L k
theorem setL_eq (l:Array Bool) {i:Nat} (hi:i<l.size):(fun k=>(l.setIfInBounds i true).getD k false)=setL (fun k=>l.getD k false) i:=by
 funext k
 unfold setL
 by_cases h:k=i
 ·subst h
  simp[hi,Nat.beq_refl]
 ·have hb:Nat.beq k i=false:=by cases hb:Nat.beq k i with|false=>rfl|true=>exact absurd (Nat.eq_of_beq_eq_true hb) h
  rw[hb,Bool.false_or,getD_set_ne false (Ne.symm h)]
def AllL:List IOp→(Nat→Bool)→Prop
 | [],_=>True
 | g :: r,L=>L g.i=true∧AllL r L
theorem allL_of {L:Nat→Bool}:∀ {l:List IOp},(∀g∈l,L g.i=true)→AllL l L
 | [],_=>trivial
 | g :: r,h=>⟨h g (by simp),allL_of fun k hk=>h k (by simp[hk])⟩
section
variable {P:Program} {ops:Array Oper} {N:Act→World→Prop} {n fuel:Nat} {E:List (Nat×Value)} {h0:Heap} {w0:World} {Inv:(Nat→Bool)→(Nat→Value)→Heap→Prop}
abbrev II:=List (Nat×Nat×Bool×List Nat×List Nat)
def invOk (ops:Array Oper) (listed:Array Bool) (keys:List Nat) (idx:II):Bool:=
 let is:=idx.map fun p=>p.1
 let wac:=is.map fun i=>(i,wacc i ops.toList #[])
 let anc (k i:Nat):Bool:=wac.any fun p=>p.1 == k && p.2.getD i false
 idx.all (fun p=>decide (p.1<ops.size) && !listed.getD p.1 true && (!p.2.2.1 || !keys.contains p.2.1) &&
  (p.2.2.2.1.all fun k=>k == p.1 || anc k p.1) && (p.2.2.2.2.all fun k=>k != p.1 && anc k p.1) &&
  (match ops[p.1]? with
   | none=>false
   | some o=>o.after.all fun e=>!Region.binds .any e || listed.getD e.on false || (is.contains e.on && decide (e.on<p.1)))) &&
 decide is.Nodup && decide (idx.map fun p=>p.2.1).Nodup &&
 (List.range ops.size).all fun j=>is.contains j || listed.getD j true || is.all fun i=>anc i j
def IRun (P:Program) (ops:Array Oper) (n:Nat) (E:List (Nat×Value)) (w0:World) (Inv:(Nat→Bool)→(Nat→Value)→Heap→Prop) (g:IOp) (as_:List IOp):Prop:=
 ∃o,ops[g.i]?=some o∧o.dst=(bif g.b then some g.d else none) ∧
  ∀(L:Nat→Bool) (X:Nat→Value) (a:Act) (w:World) (h:Heap) (Ef:List (Nat×Value)),St n (slotsI as_ X++(E++Ef)) h w0 a w→Inv L X h→L g.i=false→AllL as_ L →
   OL P ops (fun a' w'=>∃u h',St n (bif g.b then (g.d,g.sv (g.dep.map (upd X g.i u))) :: (slotsI as_ X++(E++Ef)) else slotsI as_ X++(E++Ef)) h' w0 a' w'∧Inv (setL L g.i) (upd X g.i u) h') [o] a w
def IRuns (P:Program) (ops:Array Oper) (n:Nat) (E:List (Nat×Value)) (w0:World) (Inv:(Nat→Bool)→(Nat→Value)→Heap→Prop):List (IOp×List IOp)→Prop
 | []=>True
 | p :: r=>IRun P ops n E w0 Inv p.1 p.2∧IRuns P ops n E w0 Inv r
theorem iruns_mem {G:List (IOp×List IOp)} (h:IRuns P ops n E w0 Inv G):∀p∈G,IRun P ops n E w0 Inv p.1 p.2:=by
 induction G with
 | nil=>intro p hp;cases hp
 | cons q r ih=>
  intro p hp
  rcases List.mem_cons.1 hp with e|e
  ·subst e;exact h.1
  ·exact ih h.2 p e
structure ISt (w0:World) (Inv:(Nat→Bool)→(Nat→Value)→Heap→Prop) (n:Nat) (E:List (Nat×Value)) (G:List IOp) (X:Nat→Value) (listed:Array Bool) (a:Act) (w:World):Prop where
 base:St n E w.heap w0 a w
 slot:∀g∈G,g.b=true→listed.getD g.i false=true→a.tmps[g.d]?=some (g.sv (g.dep.map X))
 inv:Inv (fun k=>listed.getD k false) X w.heap
theorem AN.inv {a:Act} {w:World} {listed:Array Bool} (Inv:(Nat→Bool)→(Nat→Value)→Heap→Prop) (X0:Nat→Value) (G:List (IOp×List IOp)) (idx:II) (keys:List Nat) (S:St n E h0 w0 a w)
  (hidx:(G.map fun p=>(p.1.i,p.1.d,p.1.b,p.1.dep,p.2.map fun g=>g.i))=idx) (hkeys:(E.map fun p=>p.1)=keys) (hg:invOk ops listed keys idx=true)
  (has:∀p∈G,∀g∈p.2,g∈G.map fun p=>p.1) (hinv:∀L:Nat→Bool,(∀p∈idx,L p.1=false)→Inv L X0 h0)
  (hrun:IRuns P ops n E w0 Inv G)
  (hfin:∀(L:Nat→Bool) (X:Nat→Value) (a:Act) (w:World) (h:Heap),St n (slotsI (G.map fun p=>p.1) X++E) h w0 a w→Inv L X h→AllL (G.map fun p=>p.1) L→AN P ops N fuel (setAll listed (idx.map fun p=>p.1)) a w) :
  AN P ops N (fuel+idx.length) listed a w:=by
 intro C0 XX RR
 unfold invOk at hg
 simp only[Bool.and_eq_true] at hg
 obtain⟨⟨⟨hA,hN1⟩,hN2⟩,hcl⟩:=hg
 have hN1:=of_decide_eq_true hN1
 have hN2:=of_decide_eq_true hN2
 rw[List.all_eq_true] at hA hcl
 generalize hGs:(G.map fun p=>p.1)=Gs at *
 have his:(idx.map fun p=>p.1)=Gs.map fun g=>g.i:=by rw[←hidx,←hGs];simp[List.map_map,Function.comp_def]
 have hds:(idx.map fun p=>p.2.1)=Gs.map fun g=>g.d:=by rw[←hidx,←hGs];simp[List.map_map,Function.comp_def]
 have hwac:∀k i,((idx.map fun p=>p.1).map fun i=>(i,wacc i ops.toList #[])).any (fun p=>p.1 == k && p.2.getD i false)=true→k∈(idx.map fun p=>p.1)∧(wacc k ops.toList #[]).getD i false=true:=by
  intro k i h
  rw[List.any_eq_true] at h
  obtain⟨p,hp,hb⟩:=h
  obtain⟨q,hq,rfl⟩:=List.mem_map.1 hp
  simp only[Bool.and_eq_true,beq_iff_eq] at hb
  obtain⟨rfl,hb⟩:=hb
  exact⟨hq,hb⟩
 have hmem:∀p∈G,(p.1.i,p.1.d,p.1.b,p.1.dep,p.2.map fun g=>g.i)∈idx:=fun p hp=>by rw[←hidx];exact List.mem_map.2 ⟨p,hp,rfl⟩
 have hGm:∀g∈Gs,∃as_,(g,as_)∈G:=fun g hg=>by
  rw[←hGs] at hg
  obtain⟨p,hp,rfl⟩:=List.mem_map.1 hg
  exact⟨p.2,hp⟩
 have facts:∀g as_,(g,as_)∈G→g.i<ops.size∧listed.getD g.i true=false∧(g.b=true→g.d∉keys)∧(∀k∈g.dep,k=g.i∨(k∈Gs.map (fun g=>g.i)∧(wacc k ops.toList #[]).getD g.i false=true)) ∧
   (∀k∈as_,k.i≠g.i∧(wacc k.i ops.toList #[]).getD g.i false=true)∧∃o,ops[g.i]?=some o∧∀e∈o.after,Region.binds .any e=true→listed.getD e.on false=true∨(e.on∈Gs.map (fun g=>g.i)∧e.on<g.i):=by
  intro g as_ hga
  have h:=hA _ (hmem _ hga)
  simp only[Bool.and_eq_true,Bool.not_eq_true',decide_eq_true_eq] at h
  obtain⟨⟨⟨⟨⟨h1,h2⟩,h4⟩,h5⟩,h6⟩,h7⟩:=h
  rw[List.all_eq_true] at h5 h6
  refine⟨h1,h2,fun hb=>by rw[hb] at h4;simpa using h4,fun k hk=>?_,fun k hk=>?_,?_⟩
  ·have:=h5 k hk
   simp only[Bool.or_eq_true,beq_iff_eq] at this
   refine this.imp id fun h=>?_
   have:=hwac _ _ h
   rw[his] at this
   exact this
  ·have:=h6 k.i (List.mem_map.2 ⟨k,hk,rfl⟩)
   simp only[Bool.and_eq_true,bne_iff_ne,ne_eq] at this
   exact⟨this.1,(hwac _ _ this.2).2⟩
  ·cases ho:ops[g.i]? with
   | none=>rw[ho] at h7;cases h7
   | some o=>
    rw[ho] at h7
    refine⟨o,rfl,fun e he hb=>?_⟩
    have:=Array.all_eq_true_iff_forall_mem.1 h7 e he
    simp only[Bool.or_eq_true,Bool.not_eq_true',hb,Bool.and_eq_true,decide_eq_true_eq] at this
    rcases this with (h|h)|h
    ·cases h
    ·exact .inl h
    ·rw[←his];exact .inr ⟨by simpa using h.1,h.2⟩
 have hcl':∀j,j<ops.size→j∉Gs.map (fun g=>g.i)→listed.getD j true=false→∀g∈Gs,(wacc g.i ops.toList #[]).getD j false=true:=by
  intro j hj hn hl g hg
  have h:=hcl j (List.mem_range.2 hj)
  rw[hl] at h
  simp only[Bool.or_eq_true] at h
  rcases h with (h|h)|h
  ·rw[←his] at hn
   exact absurd (by simpa using h) hn
  ·cases h
  ·rw[List.all_eq_true] at h
   exact (hwac _ _ (h g.i (by rw[his];exact List.mem_map.2 ⟨g,hg,rfl⟩))).2
 rw[his] at hN1 hfin
 rw[hds] at hN2
 have hiN:∀g∈Gs,∀k∈Gs,g.i=k.i→g=k:=inj_map hN1
 have hdN:∀g∈Gs,∀k∈Gs,g.d=k.d→g=k:=inj_map hN2
 have hkE:∀t v,lk E t=some v→t∈keys:=fun t v h=>by rw[←hkeys];exact List.mem_map.2 ⟨_,lk_mem h,rfl⟩
 have hlen:idx.length=Gs.length:=by rw[←hidx,←hGs];simp
 have szL:=C0.size
 have key:∀(m:Nat) (l:Array Bool) (X:Nat→Value) (a:Act) (w:World),Closed ops l→(∀j,j∉Gs.map (fun g=>g.i)→l[j]?=listed[j]?)→(Gs.map fun g=>g.i).countP (fun k=>!l.getD k false)=m →
   ISt w0 Inv n E Gs X l a w→wpAny P .any ops (Qx N XX RR) (fuel+m) l a w:=by
  intro m
  induction m with
  | zero=>
   intro l X a w C hbt hc I
   have hall:∀g∈Gs,l.getD g.i false=true:=fun g hg=>by
    have:=List.countP_eq_zero.1 hc g.i (List.mem_map.2 ⟨g,hg,rfl⟩)
    simpa using this
   have hsz:l.size=listed.size:=by rw[C.size,szL]
   have hl:l=setAll listed (Gs.map fun g=>g.i):=by
    apply Array.ext_getElem?
    intro j
    by_cases hj:j<listed.size
    ·rw[setAll_get _ _ _ hj]
     by_cases hm:j∈Gs.map fun g=>g.i
     ·rw[if_pos hm]
      obtain⟨g,hg,rfl⟩:=List.mem_map.1 hm
      have:=hall g hg
      have hj':g.i<l.size:=by omega
      simp only[Array.getD_eq_getD_getElem?,Array.getElem?_eq_getElem hj',Option.getD_some] at this
      rw[Array.getElem?_eq_getElem hj',this]
     ·rw[if_neg hm];exact hbt j hm
    ·rw[Array.getElem?_eq_none (by omega),Array.getElem?_eq_none (by rw[setAll_size];omega)]
   have:=hfin (fun k=>l.getD k false) X a w w.heap ⟨I.base.size,fun t v ht=>?_,I.base.defers,rfl,I.base.rest⟩ I.inv (allL_of hall)
   ·rw[←hl] at this
    exact this C XX RR
   ·rw[lk_app] at ht
    cases hs:lk (slotsI Gs X) t with
    | some u=>
     rw[hs] at ht
     simp at ht
     subst ht
     obtain⟨g,hg,hb,rfl,rfl⟩:=slotsI_mem (lk_mem hs)
     exact I.slot g hg hb (hall g hg)
    | none=>
     rw[hs] at ht
     exact I.base.at_ t v (by simpa using ht)
  | succ m ih=>
   intro l X a w C hbt hc I
   have hsz:l.size=listed.size:=by rw[C.size,szL]
   have hlm:∀j,listed.getD j false=true→j∉Gs.map (fun g=>g.i)→l.getD j false=true:=fun j h1 hn=>by
    have:=hbt j hn
    simp only[Array.getD_eq_getD_getElem?] at h1 ⊢
    rw[this];exact h1
   have hnotin:∀j,listed.getD j false=true→j∉Gs.map (fun g=>g.i):=fun j h1 hn=>by
    obtain⟨g,hg,rfl⟩:=List.mem_map.1 hn
    obtain⟨as_,hga⟩:=hGm g hg
    have:=(facts g as_ hga).2.1
    rw[getDft this] at h1
    cases h1
   have hun:=least_un (is:=Gs.map fun g=>g.i) (l:=l) (by omega)
   refine⟨fun hr=>?_,fun j hj=>?_⟩
   ·obtain⟨i,hi,hi0,hlt⟩:=hun
    obtain⟨g,hg,rfl⟩:=List.mem_map.1 hi
    obtain⟨as_,hga⟩:=hGm g hg
    obtain⟨f1,f2,_,_,_,o,ho,haf⟩:=facts g as_ hga
    have:g.i∈Region.ready .any ops l:=by
     rw[mem_ready]
     refine⟨by rw[getD_tf (by rw[C.size];exact f1)];exact hi0,o,ho,fun e he hb=>?_⟩
     rcases haf e he hb with h|⟨h,h'⟩
     ·exact hlm _ h (hnotin _ h)
     ·exact hlt _ h h'
    rw[hr] at this
    cases this
   ·obtain⟨hjun,oj,hoj,hall⟩:=mem_ready.1 hj
    have hjs:j<ops.size:=(Array.getElem?_eq_some_iff.1 hoj).1
    have Cj:=C.set hj
    have hjG:j∈Gs.map fun g=>g.i:=by
     apply Classical.byContradiction
     intro hn
     obtain⟨i,hi,hi0,_⟩:=hun
     obtain⟨g,hg,rfl⟩:=List.mem_map.1 hi
     have hlj:listed.getD j true=false:=by
      have:=hbt j hn
      simp only[Array.getD_eq_getD_getElem?] at hjun ⊢
      rw[←this];exact hjun
     have hw:=hcl' j hjs hn hlj g hg
     have hne:j≠g.i:=fun e=>hn (by rw[e];exact hi)
     have:=Cj.wacc (i:=g.i) (by rw[getD_set_ne false hne];exact hi0) ops.toList #[] (by simp) (by simp) j hw
     have hjl:j<l.size:=by rw[C.size];exact hjs
     simp[hjl] at this
    obtain⟨g,hg,rfl⟩:=List.mem_map.1 hjG
    obtain⟨as_,hga⟩:=hGm g hg
    obtain⟨f1,f2,f4,f5,f6,_⟩:=facts g as_ hga
    have hanc:∀k,(wacc k ops.toList #[]).getD g.i false=true→k≠g.i→l.getD k false=true:=fun k hk hne=>by
     cases hb:l.getD k false with
     | true=>rfl
     | false=>
      have:=Cj.wacc (i:=k) (by rw[getD_set_ne false (Ne.symm hne)];exact hb) ops.toList #[] (by simp) (by simp) g.i hk
      have hjl:g.i<l.size:=by rw[C.size];exact hjs
      simp[hjl] at this
    obtain⟨o,ho,hd,hr⟩:=iruns_mem hrun _ hga
    have hasG:∀k∈as_,k∈Gs:=fun k hk=>has (g,as_) hga k hk
    have hasl:∀k∈as_,l.getD k.i false=true:=fun k hk=>hanc k.i (f6 k hk).2 (f6 k hk).1
    have hS:St n (slotsI as_ X++(E++fullE a)) w.heap w0 a w:=by
     refine⟨I.base.size,fun t v ht=>?_,I.base.defers,rfl,I.base.rest⟩
     rw[lk_app,lk_app] at ht
     cases hs:lk (slotsI as_ X) t with
     | some u=>
      rw[hs] at ht
      simp at ht
      subst ht
      obtain⟨k,hk,hb,rfl,rfl⟩:=slotsI_mem (lk_mem hs)
      exact I.slot k (hasG k hk) hb (hasl k hk)
     | none=>
      rw[hs] at ht
      cases he:lk E t with
      | some u=>
       rw[he] at ht
       simp at ht
       subst ht
       exact I.base.at_ t u he
      | none=>
       rw[he] at ht
       simp only[Option.none_or] at ht
       unfold fullE at ht
       rw[lk_full] at ht
       simpa using ht
    have hjl:g.i<l.size:=by rw[C.size];exact hjs
    have hrr:=hr (fun k=>l.getD k false) X a w w.heap (fullE a) hS I.inv (getDft hjun) (allL_of hasl)
    refine wpOp_mono (fun a' w' h'=>?_) (wpOp_of_OL (N:=N) (X:=XX) (R:=RR) ho hrr)
    obtain⟨u,h',S',hinv'⟩:=h'
    have hh:=S'.heap
    subst hh
    have hdep:∀k∈Gs,k.i≠g.i→l.getD k.i false=true→k.dep.map (upd X g.i u)=k.dep.map X:=fun k hk hne hkl=>by
     refine dep_upd X u fun hm=>?_
     obtain⟨as',hga'⟩:=hGm k hk
     rcases (facts k as' hga').2.2.2.1 g.i hm with e|⟨_,e⟩
     ·exact hne e.symm
     ·have:=C.wacc (i:=g.i) (getDft hjun) ops.toList #[] (by simp) (by simp) k.i e
      rw[hkl] at this
      cases this
    have hlk:∀k,k≠g.i→(l.setIfInBounds g.i true).getD k false=l.getD k false:=fun k hne=>getD_set_ne false (Ne.symm hne)
    have keep:∀t v,(g.b=true→t≠g.d)→a.tmps[t]?=some v→a'.tmps[t]?=some v:=fun t v hne hv=>by
     have hbase:lk (slotsI as_ X++(E++fullE a)) t=some v:=by
      rw[lk_app]
      cases hs:lk (slotsI as_ X) t with
      | some u'=>
       have:=hS.at_ t u' (by rw[lk_app,hs];rfl)
       rw[hv] at this
       rw[Option.some_or]
       exact this.symm
      | none=>
       rw[Option.none_or,lk_app]
       cases he:lk E t with
       | some u'=>
        have:=I.base.at_ t u' he
        rw[hv] at this
        rw[Option.some_or]
        exact this.symm
       | none=>
        rw[Option.none_or]
        unfold fullE
        rw[lk_full]
        simpa using hv
     refine S'.at_ t v ?_
     cases hgb:g.b with
     | false=>rw[cond_false];exact hbase
     | true=>
      have hb:Nat.beq g.d t=false:=by cases hb:Nat.beq g.d t with|false=>rfl|true=>exact absurd (Nat.eq_of_beq_eq_true hb).symm (hne hgb)
      rw[cond_true]
      simp only[lk,hb,cond_false]
      exact hbase
    refine ih (l.setIfInBounds g.i true) (upd X g.i u) a' w' Cj (fun k hk=>?_) ?_ ?_
    ·have hne:g.i≠k:=fun e=>hk (by rw[←e];exact hjG)
     rw[Array.getElem?_setIfInBounds_ne hne]
     exact hbt k hk
    ·have:=countP_set hN1 hjG hjl (getDft hjun)
     omega
    ·refine⟨⟨S'.size,fun t v hv=>?_,S'.defers,rfl,S'.rest⟩,fun k hk hkb hkl=>?_,?_⟩
     ·refine keep t v (fun hb e=>f4 hb (by rw[←e];exact hkE t v hv)) (I.base.at_ t v hv)
     ·by_cases e:k.i=g.i
      ·obtain rfl:=hiN k hk g hg e
       refine S'.at_ _ _ ?_
       rw[hkb,cond_true]
       simp[lk,Nat.beq_refl]
      ·rw[hlk _ e] at hkl
       rw[hdep k hk e hkl]
       exact keep _ _ (fun _ e'=>e (by rw[hdN k hk g hg e'])) (I.slot k hk hkb hkl)
     ·rw[setL_eq l hjl]
      exact hinv'
 have hc0:(Gs.map fun g=>g.i).countP (fun k=>!listed.getD k false)=idx.length:=by
  rw[hlen,←(List.length_map (fun g:IOp=>g.i):(Gs.map fun g:IOp=>g.i).length=Gs.length),List.countP_eq_length]
  intro i hi
  obtain⟨g,hg,rfl⟩:=List.mem_map.1 hi
  obtain⟨as_,hga⟩:=hGm g hg
  rw[getDft (facts g as_ hga).2.1]
  rfl
 have hno:∀g∈Gs,listed.getD g.i false=false:=fun g hg=>by
  obtain⟨as_,hga⟩:=hGm g hg
  exact getDft (facts g as_ hga).2.1
 refine key idx.length listed X0 a w C0 (fun _ _=>rfl) hc0 ⟨by rw[S.heap];exact S,fun g hg _ h=>?_,?_⟩
 ·rw[hno g hg] at h;cases h
 ·rw[S.heap]
  refine hinv _ fun p hp=>?_
  rw[←hidx] at hp
  obtain⟨q,hq,rfl⟩:=List.mem_map.1 hp
  exact hno q.1 (by rw[←hGs];exact List.mem_map.2 ⟨q,hq,rfl⟩)
end
end Go.Lf
namespace Go.Proofs.Ytggacajnmgligaa
open Go Go.Lf
set_option linter.unusedVariables false
set_option maxRecDepth 100000
theorem ag28:aggT Try.prog 28=true:=by kernel_rfl
theorem ag33:aggT Try.prog 33=true:=by kernel_rfl
theorem ag58:aggT Try.prog 58=true:=by kernel_rfl
theorem ag61:aggT Try.prog 61=true:=by kernel_rfl
theorem ag80:aggT Try.prog 80=true:=by kernel_rfl
theorem ag89:aggT Try.prog 89=true:=by kernel_rfl
theorem fa28_0:fieldT Try.prog 28 0=some 0:=by kernel_rfl
theorem fa28_1:fieldT Try.prog 28 1=some 1:=by kernel_rfl
theorem fa28_2:fieldT Try.prog 28 2=some 2:=by kernel_rfl
theorem fa33_0:fieldT Try.prog 33 0=some 0:=by kernel_rfl
theorem fa33_1:fieldT Try.prog 33 1=some 1:=by kernel_rfl
theorem fa33_2:fieldT Try.prog 33 2=some 2:=by kernel_rfl
theorem fa33_3:fieldT Try.prog 33 3=some 3:=by kernel_rfl
theorem fa33_4:fieldT Try.prog 33 4=some 4:=by kernel_rfl
theorem fa56_0:fieldT Try.prog 56 0=some 0:=by kernel_rfl
theorem fa56_1:fieldT Try.prog 56 1=some 1:=by kernel_rfl
theorem fa56_2:fieldT Try.prog 56 2=some 2:=by kernel_rfl
theorem fa56_3:fieldT Try.prog 56 3=some 3:=by kernel_rfl
theorem fa58_0:fieldT Try.prog 58 0=some 0:=by kernel_rfl
theorem fa58_1:fieldT Try.prog 58 1=some 3:=by kernel_rfl
theorem fa61_0:fieldT Try.prog 61 0=some 0:=by kernel_rfl
theorem fa61_1:fieldT Try.prog 61 1=some 1:=by kernel_rfl
theorem fa61_2:fieldT Try.prog 61 2=some 2:=by kernel_rfl
theorem fa61_3:fieldT Try.prog 61 3=some 3:=by kernel_rfl
theorem fa61_4:fieldT Try.prog 61 4=some 4:=by kernel_rfl
theorem fa61_5:fieldT Try.prog 61 5=some 11:=by kernel_rfl
theorem fa74_0:fieldT Try.prog 74 0=some 0:=by kernel_rfl
theorem fa74_1:fieldT Try.prog 74 1=some 1:=by kernel_rfl
theorem fa74_2:fieldT Try.prog 74 2=some 2:=by kernel_rfl
theorem fa74_3:fieldT Try.prog 74 3=some 3:=by kernel_rfl
theorem fa74_4:fieldT Try.prog 74 4=some 4:=by kernel_rfl
theorem fa78_0:fieldT Try.prog 78 0=some 0:=by kernel_rfl
theorem fa78_1:fieldT Try.prog 78 1=some 1:=by kernel_rfl
theorem fa78_2:fieldT Try.prog 78 2=some 8:=by kernel_rfl
theorem fa80_0:fieldT Try.prog 80 0=some 0:=by kernel_rfl
theorem fa80_1:fieldT Try.prog 80 1=some 1:=by kernel_rfl
theorem fa80_2:fieldT Try.prog 80 2=some 2:=by kernel_rfl
theorem fa89_0:fieldT Try.prog 89 0=some 0:=by kernel_rfl
theorem fa89_1:fieldT Try.prog 89 1=some 1:=by kernel_rfl
theorem fa89_2:fieldT Try.prog 89 2=some 8:=by kernel_rfl
theorem fl22:flatT Try.prog 22=true:=by kernel_rfl
theorem fl26:flatT Try.prog 26=true:=by kernel_rfl
theorem fl3:flatT Try.prog 3=true:=by kernel_rfl
theorem fl31:flatT Try.prog 31=true:=by kernel_rfl
theorem fl4:flatT Try.prog 4=true:=by kernel_rfl
theorem fl54:flatT Try.prog 54=true:=by kernel_rfl
theorem fl69:flatT Try.prog 69=true:=by kernel_rfl
theorem fl72:flatT Try.prog 72=true:=by kernel_rfl
theorem fl75:flatT Try.prog 75=true:=by kernel_rfl
theorem fl9:flatT Try.prog 9=true:=by kernel_rfl
theorem isfn10:IsFn Try.prog 10:=⟨Try.f10,Try.func10,by kernel_rfl,by kernel_rfl⟩
theorem isfn11:IsFn Try.prog 11:=⟨Try.f11,Try.func11,by kernel_rfl,by kernel_rfl⟩
theorem isfn12:IsFn Try.prog 12:=⟨Try.f12,Try.func12,by kernel_rfl,by kernel_rfl⟩
theorem isfn13:IsFn Try.prog 13:=⟨Try.f13,Try.func13,by kernel_rfl,by kernel_rfl⟩
theorem isfn14:IsFn Try.prog 14:=⟨Try.f14,Try.func14,by kernel_rfl,by kernel_rfl⟩
theorem isfn15:IsFn Try.prog 15:=⟨Try.f15,Try.func15,by kernel_rfl,by kernel_rfl⟩
theorem isfn17:IsFn Try.prog 17:=⟨Try.f17,Try.func17,by kernel_rfl,by kernel_rfl⟩
theorem isfn18:IsFn Try.prog 18:=⟨Try.f18,Try.func18,by kernel_rfl,by kernel_rfl⟩
theorem isfn19:IsFn Try.prog 19:=⟨Try.f19,Try.func19,by kernel_rfl,by kernel_rfl⟩
theorem isfn20:IsFn Try.prog 20:=⟨Try.f20,Try.func20,by kernel_rfl,by kernel_rfl⟩
theorem isfn21:IsFn Try.prog 21:=⟨Try.f21,Try.func21,by kernel_rfl,by kernel_rfl⟩
theorem isfn22:IsFn Try.prog 22:=⟨Try.f22,Try.func22,by kernel_rfl,by kernel_rfl⟩
theorem isfn23:IsFn Try.prog 23:=⟨Try.f23,Try.func23,by kernel_rfl,by kernel_rfl⟩
theorem isfn24:IsFn Try.prog 24:=⟨Try.f24,Try.func24,by kernel_rfl,by kernel_rfl⟩
theorem isfn25:IsFn Try.prog 25:=⟨Try.f25,Try.func25,by kernel_rfl,by kernel_rfl⟩
theorem isfn27:IsFn Try.prog 27:=⟨Try.f27,Try.func27,by kernel_rfl,by kernel_rfl⟩
theorem isfn28:IsFn Try.prog 28:=⟨Try.f28,Try.func28,by kernel_rfl,by kernel_rfl⟩
theorem isfn29:IsFn Try.prog 29:=⟨Try.f29,Try.func29,by kernel_rfl,by kernel_rfl⟩
theorem isfn30:IsFn Try.prog 30:=⟨Try.f30,Try.func30,by kernel_rfl,by kernel_rfl⟩
theorem isfn31:IsFn Try.prog 31:=⟨Try.f31,Try.func31,by kernel_rfl,by kernel_rfl⟩
theorem isfn32:IsFn Try.prog 32:=⟨Try.f32,Try.func32,by kernel_rfl,by kernel_rfl⟩
theorem isfn33:IsFn Try.prog 33:=⟨Try.f33,Try.func33,by kernel_rfl,by kernel_rfl⟩
theorem isfn34:IsFn Try.prog 34:=⟨Try.f34,Try.func34,by kernel_rfl,by kernel_rfl⟩
theorem isfn35:IsFn Try.prog 35:=⟨Try.f35,Try.func35,by kernel_rfl,by kernel_rfl⟩
theorem isfn36:IsFn Try.prog 36:=⟨Try.f36,Try.func36,by kernel_rfl,by kernel_rfl⟩
theorem isfn37:IsFn Try.prog 37:=⟨Try.f37,Try.func37,by kernel_rfl,by kernel_rfl⟩
theorem isfn38:IsFn Try.prog 38:=⟨Try.f38,Try.func38,by kernel_rfl,by kernel_rfl⟩
theorem isfn39:IsFn Try.prog 39:=⟨Try.f39,Try.func39,by kernel_rfl,by kernel_rfl⟩
theorem isfn40:IsFn Try.prog 40:=⟨Try.f40,Try.func40,by kernel_rfl,by kernel_rfl⟩
theorem isfn41:IsFn Try.prog 41:=⟨Try.f41,Try.func41,by kernel_rfl,by kernel_rfl⟩
theorem isfn42:IsFn Try.prog 42:=⟨Try.f42,Try.func42,by kernel_rfl,by kernel_rfl⟩
theorem isfn44:IsFn Try.prog 44:=⟨Try.f44,Try.func44,by kernel_rfl,by kernel_rfl⟩
theorem isfn45:IsFn Try.prog 45:=⟨Try.f45,Try.func45,by kernel_rfl,by kernel_rfl⟩
theorem isfn47:IsFn Try.prog 47:=⟨Try.f47,Try.func47,by kernel_rfl,by kernel_rfl⟩
theorem isfn48:IsFn Try.prog 48:=⟨Try.f48,Try.func48,by kernel_rfl,by kernel_rfl⟩
theorem isfn49:IsFn Try.prog 49:=⟨Try.f49,Try.func49,by kernel_rfl,by kernel_rfl⟩
theorem isfn50:IsFn Try.prog 50:=⟨Try.f50,Try.func50,by kernel_rfl,by kernel_rfl⟩
theorem isfn51:IsFn Try.prog 51:=⟨Try.f51,Try.func51,by kernel_rfl,by kernel_rfl⟩
theorem isfn52:IsFn Try.prog 52:=⟨Try.f52,Try.func52,by kernel_rfl,by kernel_rfl⟩
theorem isfn53:IsFn Try.prog 53:=⟨Try.f53,Try.func53,by kernel_rfl,by kernel_rfl⟩
theorem isfn54:IsFn Try.prog 54:=⟨Try.f54,Try.func54,by kernel_rfl,by kernel_rfl⟩
theorem isfn55:IsFn Try.prog 55:=⟨Try.f55,Try.func55,by kernel_rfl,by kernel_rfl⟩
theorem isfn56:IsFn Try.prog 56:=⟨Try.f56,Try.func56,by kernel_rfl,by kernel_rfl⟩
theorem isfn57:IsFn Try.prog 57:=⟨Try.f57,Try.func57,by kernel_rfl,by kernel_rfl⟩
theorem isfn58:IsFn Try.prog 58:=⟨Try.f58,Try.func58,by kernel_rfl,by kernel_rfl⟩
theorem isfn59:IsFn Try.prog 59:=⟨Try.f59,Try.func59,by kernel_rfl,by kernel_rfl⟩
theorem isfn61:IsFn Try.prog 61:=⟨Try.f61,Try.func61,by kernel_rfl,by kernel_rfl⟩
theorem isfn62:IsFn Try.prog 62:=⟨Try.f62,Try.func62,by kernel_rfl,by kernel_rfl⟩
theorem isfn63:IsFn Try.prog 63:=⟨Try.f63,Try.func63,by kernel_rfl,by kernel_rfl⟩
theorem isfn8:IsFn Try.prog 8:=⟨Try.f8,Try.func8,by kernel_rfl,by kernel_rfl⟩
theorem isfn9:IsFn Try.prog 9:=⟨Try.f9,Try.func9,by kernel_rfl,by kernel_rfl⟩
theorem pl28:placesT Try.prog 28=some [(0,1),(1,1),(2,1)]:=by kernel_rfl
theorem pl33:placesT Try.prog 33=some [(0,1),(1,1),(2,1),(3,1),(4,3)]:=by kernel_rfl
theorem pl56:placesT Try.prog 56=some [(0,1),(1,1),(2,1),(3,1)]:=by kernel_rfl
theorem pl58:placesT Try.prog 58=some [(0,3),(3,3)]:=by kernel_rfl
theorem pl74:placesT Try.prog 74=some [(0,1),(1,1),(2,1),(3,1),(4,1)]:=by kernel_rfl
theorem pl78:placesT Try.prog 78=some [(0,1),(1,7),(8,1)]:=by kernel_rfl
theorem pl80:placesT Try.prog 80=some [(0,1),(1,1),(2,1)]:=by kernel_rfl
theorem pl89:placesT Try.prog 89=some [(0,1),(1,7),(8,1)]:=by kernel_rfl
theorem ti26:tinfo Try.prog 26=some (some (Value.slice (⟨none,0,0⟩:Sv).a (⟨none,0,0⟩:Sv).n (⟨none,0,0⟩:Sv).c),1,24):=by kernel_rfl
theorem ti28:tinfo Try.prog 28=some (some (Value.agg #[Value.int .i64 0,Value.slice (⟨none,0,0⟩:Sv).a (⟨none,0,0⟩:Sv).n (⟨none,0,0⟩:Sv).c,Value.int .i64 0]),3,40):=by kernel_rfl
theorem ti3:tinfo Try.prog 3=some (some (Value.int .i64 0),1,8):=by kernel_rfl
theorem ti31:tinfo Try.prog 31=some (some (Value.slice (⟨none,0,0⟩:Sv).a (⟨none,0,0⟩:Sv).n (⟨none,0,0⟩:Sv).c),1,24):=by kernel_rfl
theorem ti33:tinfo Try.prog 33=some (some (Value.agg #[Value.int .i64 0,Value.int .u64 0,Value.string (⟨#[]⟩:ByteArray),Value.slice (⟨none,0,0⟩:Sv).a (⟨none,0,0⟩:Sv).n (⟨none,0,0⟩:Sv).c,Value.int .i64 0,Value.slice (⟨none,0,0⟩:Sv).a (⟨none,0,0⟩:Sv).n (⟨none,0,0⟩:Sv).c,Value.int .i64 0]),7,96):=by kernel_rfl
theorem ti4:tinfo Try.prog 4=some (some (Value.bool false),1,1):=by kernel_rfl
theorem ti54:tinfo Try.prog 54=some (some (Value.slice (⟨none,0,0⟩:Sv).a (⟨none,0,0⟩:Sv).n (⟨none,0,0⟩:Sv).c),1,24):=by kernel_rfl
theorem ti56:tinfo Try.prog 56=some (some (Value.agg #[Value.slice (⟨none,0,0⟩:Sv).a (⟨none,0,0⟩:Sv).n (⟨none,0,0⟩:Sv).c,Value.int .i64 0,Value.int .i64 0,Value.bool false]),4,48):=by kernel_rfl
theorem ti58:tinfo Try.prog 58=some (some (Value.agg #[Value.int .i64 0,Value.slice (⟨none,0,0⟩:Sv).a (⟨none,0,0⟩:Sv).n (⟨none,0,0⟩:Sv).c,Value.int .i64 0,Value.int .i64 0,Value.slice (⟨none,0,0⟩:Sv).a (⟨none,0,0⟩:Sv).n (⟨none,0,0⟩:Sv).c,Value.int .i64 0]),6,80):=by kernel_rfl
theorem ti61:tinfo Try.prog 61=some (some (Value.agg #[Value.int .i64 0,Value.int .i64 0,Value.int .i64 0,Value.slice (⟨none,0,0⟩:Sv).a (⟨none,0,0⟩:Sv).n (⟨none,0,0⟩:Sv).c,Value.int .i64 0,Value.int .u64 0,Value.string (⟨#[]⟩:ByteArray),Value.slice (⟨none,0,0⟩:Sv).a (⟨none,0,0⟩:Sv).n (⟨none,0,0⟩:Sv).c,Value.int .i64 0,Value.slice (⟨none,0,0⟩:Sv).a (⟨none,0,0⟩:Sv).n (⟨none,0,0⟩:Sv).c,Value.int .i64 0,Value.int .i64 0]),12,152):=by kernel_rfl
theorem ti69:tinfo Try.prog 69=some (some (Value.slice (⟨none,0,0⟩:Sv).a (⟨none,0,0⟩:Sv).n (⟨none,0,0⟩:Sv).c),1,24):=by kernel_rfl
theorem ti72:tinfo Try.prog 72=some (some (Value.slice (⟨none,0,0⟩:Sv).a (⟨none,0,0⟩:Sv).n (⟨none,0,0⟩:Sv).c),1,24):=by kernel_rfl
theorem ti74:tinfo Try.prog 74=some (some (Value.agg #[Value.slice (⟨none,0,0⟩:Sv).a (⟨none,0,0⟩:Sv).n (⟨none,0,0⟩:Sv).c,Value.int .i64 0,Value.int .i64 0,Value.int .i64 0,Value.bool false]),5,56):=by kernel_rfl
theorem ti75:tinfo Try.prog 75=some (some (Value.pointer none),1,8):=by kernel_rfl
theorem ti78:tinfo Try.prog 78=some (some (Value.agg #[Value.bool false,Value.int .i64 0,Value.int .u64 0,Value.string (⟨#[]⟩:ByteArray),Value.slice (⟨none,0,0⟩:Sv).a (⟨none,0,0⟩:Sv).n (⟨none,0,0⟩:Sv).c,Value.int .i64 0,Value.slice (⟨none,0,0⟩:Sv).a (⟨none,0,0⟩:Sv).n (⟨none,0,0⟩:Sv).c,Value.int .i64 0,Value.slice (⟨none,0,0⟩:Sv).a (⟨none,0,0⟩:Sv).n (⟨none,0,0⟩:Sv).c]),9,128):=by kernel_rfl
theorem ti80:tinfo Try.prog 80=some (some (Value.agg #[Value.int .i64 0,Value.slice (⟨none,0,0⟩:Sv).a (⟨none,0,0⟩:Sv).n (⟨none,0,0⟩:Sv).c,Value.bool false]),3,40):=by kernel_rfl
theorem ti89:tinfo Try.prog 89=some (some (Value.agg #[Value.bool false,Value.int .i64 0,Value.int .u64 0,Value.string (⟨#[]⟩:ByteArray),Value.slice (⟨none,0,0⟩:Sv).a (⟨none,0,0⟩:Sv).n (⟨none,0,0⟩:Sv).c,Value.int .i64 0,Value.slice (⟨none,0,0⟩:Sv).a (⟨none,0,0⟩:Sv).n (⟨none,0,0⟩:Sv).c,Value.int .i64 0,Value.slice (⟨none,0,0⟩:Sv).a (⟨none,0,0⟩:Sv).n (⟨none,0,0⟩:Sv).c]),9,128):=by kernel_rfl
end Go.Proofs.Ytggacajnmgligaa

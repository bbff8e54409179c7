/- LoansMore: with more points, and more loans, no clash is lost: proved for every input, with no conditions. -/
import Derived.Test.YtkpahlkendlahaaLM3
import Derived.Test.YtkpahlkendlahaaRows
import Derived.SizedLaws
namespace Go.Proofs.Ytkpahlkendlahaa
open Go Go.Lf
set_option linter.unusedVariables false
structure Lnv where
 at_:Int
 l:Int
 s:Sv
 mu:Bool
 ow:Bool
 pt:Sv
abbrev lns (v:Lnv):List Value:=[.int .i64 v.at_,.int .i64 v.l,.slice v.s.a v.s.n v.s.c,.bool v.mu,.bool v.ow,.slice v.pt.a v.pt.n v.pt.c]
theorem lns_len (v:Lnv):(lns v).length=6:=rfl
theorem one_lns (v:Lnv):∀u∈lns v,u.oneCell'=true:=by
 intro u hu
 simp only[List.mem_cons,List.not_mem_nil,or_false] at hu
 rcases hu with rfl|rfl|rfl|rfl|rfl|rfl<;>rfl
structure LnsAt (h:Heap) (pth:Pth) (L:List Lnv) (s:Sv):Prop where
 rows:Rows s 6 L.length fun i p=>∃hi:i<L.length,CsAt h p (lns L[i])
 few:L.length≤1000
 pl:∀v∈L,Pv h pth v.s
 pt:∀v∈L,Pv h pth v.pt
theorem LnsAt.grow {h h':Heap} {pth:Pth} {L:List Lnv} {s:Sv} (x:LnsAt h pth L s) (f:Grow h h'):LnsAt h' pth L s:=
 ⟨⟨x.rows.len,fun i hi=>by obtain⟨p,e,hi,c⟩:=x.rows.at_ i hi;exact⟨p,e,hi,c.grow f⟩⟩,x.few,fun v hv=>(x.pl v hv).grow f,fun v hv=>(x.pt v hv).grow f⟩
def forbV (pth:Pth) (v:Lnv) (a:Acv):Bool:=
 if a.k=1 then v.mu && meetB v.l (pth v.s) a.l (pth a.s)
 else if 2≤a.k∧a.k≤4 then meetB v.l (pth v.s) a.l (pth a.s)
 else if a.k=5∨a.k=6 then v.ow && v.l == a.l else false
def hasP (pth:Pth) (v:Lnv) (i:Nat):Bool:=decide ((i:Int)∈pth v.pt)
def Srt (xs:List Int):Prop:=∀i (h:i+1<xs.length),xs[i]'(by omega)≤xs[i+1]
theorem Srt.le {xs:List Int} (x:Srt xs):∀ {i j:Nat} (hij:i≤j) (hj:j<xs.length),xs[i]'(by omega)≤xs[j]:=by
 intro i j hij hj
 induction j with
 | zero=>
  obtain rfl:i=0:=by omega
  exact Int.le_refl _
 | succ j ih=>
  by_cases e:i=j+1
  ·subst e;exact Int.le_refl _
  ·exact Int.le_trans (ih (by omega) (by omega)) (x j hj)
section
variable {h:Heap}
theorem newL {v:Lnv} {K:Addr→Heap→Prop} (k:∀h',blk h' h.size (lns v).toArray→Grow h h'→K ⟨h.size,0,none⟩ h'):new 51 (lns v).toArray h K:=by
 rintro p h' rfl rfl
 exact k _ (blk.new _ _ _) (Fr.push _ _ _)
theorem newA {a:Acv} {K:Addr→Heap→Prop} (k:∀h',blk h' h.size (acs a).toArray→Grow h h'→K ⟨h.size,0,none⟩ h'):new 63 (acs a).toArray h K:=by
 rintro p h' rfl rfl
 exact k _ (blk.new _ _ _) (Fr.push _ _ _)
theorem mineL {v:Lnv} {K:Addr→Heap→Prop} (k:∀h',blk h' h.size (lns v).toArray→Grow h h'→K ⟨h.size,0,none⟩ h'):new 51 (lns ⟨0,0,nlS,false,false,nlS⟩).toArray h fun p h1=>stoA h1 p (lns v) fun h2=>K p h2:=by
 refine newL fun h1 b1 f1=>?_
 refine stoA_i b1 rfl (one_lns v) fun h2 b2 f2=>k h2 b2 (f1.trans' f2 fun i hi e=>by omega)
theorem forb_spec {pth:Pth} {v:Lnv} {a:Acv} (hv:Pv h pth v.s) (ha:Pv h pth a.s):CallsH Try.prog 24 #[.agg (lns v).toArray,.agg (acs a).toArray] h (fun u h'=>Grow h h'∧u=.bool (forbV pth v a)):=by
 apply F24
 unfold L24
 refine newL (v:=v) fun h1 b1 f1=>newA (a:=a) fun h2 b2 f2=>?_
 have B1:=f2.blk b1 fun h=>h
 have g2:=f1.trans f2
 have hv:=hv.grow g2
 have ha:=ha.grow g2
 refine ldI_i (x:=a.k) (by rw[add_plain,b2.cl];rfl) ?_
 unfold forbV
 refine ifb_iff (q:=a.k=1) (by simp) (fun q=>?_) (fun q=>?_)
 ·rw[if_pos q]
  refine ldB_i (x:=v.mu) (by rw[add_plain,B1.cl];rfl) ?_
  refine⟨fun c h'=>Grow h2 h'∧c=(v.mu && meetB v.l (pth v.s) a.l (pth a.s)),⟨fun e=>?_,fun e=>⟨Fr.refl _ _,by rw[e];rfl⟩⟩,?_⟩
  ·refine⟨v.l,v.s,by rw[add_plain,B1.cl];rfl,by rw[add_plain,add_plain,B1.cl];rfl,a.l,a.s,by rw[b2.cl];rfl,by rw[add_plain,b2.cl];rfl,?_⟩
   refine cal_of (meet_spec v.l a.l hv ha) ?_
   rintro _ h4 ⟨f4,rfl⟩
   exact⟨_,rfl,f4,by rw[e];rfl⟩
  ·rintro _ h3 ⟨f3,rfl⟩
   exact⟨g2.trans f3,rfl⟩
 rw[if_neg q]
 refine⟨fun c=>c=decide (2≤a.k∧a.k≤4),ifb_iff (q:=a.k=2) (by simp) (fun q=>by simp[q]) (fun q2=>ifb_iff (q:=a.k=3) (by simp) (fun q=>by simp[q]) (fun q3=>?_)),?_⟩
 ·show (a.k == 4)=_
  rw[Bool.eq_iff_iff];simp;omega
 rintro _ rfl
 refine ifb_dec (fun q2=>?_) (fun q2=>?_)
 ·rw[if_pos q2]
  refine⟨v.l,v.s,by rw[add_plain,B1.cl];rfl,by rw[add_plain,add_plain,B1.cl];rfl,a.l,a.s,by rw[b2.cl];rfl,by rw[add_plain,b2.cl];rfl,?_⟩
  refine cal_of (meet_spec v.l a.l hv ha) ?_
  rintro _ h4 ⟨f4,rfl⟩
  exact⟨_,rfl,g2.trans f4,rfl⟩
 rw[if_neg q2]
 refine⟨fun c=>c=decide (a.k=5∨a.k=6),ifb_iff (q:=a.k=5) (by simp) (fun q=>by simp[q]) (fun q=>by simp[q];rfl),?_⟩
 rintro _ rfl
 refine ifb_dec (fun q5=>?_) (fun q5=>?_)
 ·rw[if_pos q5]
  refine ldB_i (x:=v.ow) (by rw[add_plain,B1.cl];rfl) ?_
  refine⟨fun c=>c=(v.ow && v.l == a.l),⟨fun e=>ldI_i (x:=v.l) (by rw[add_plain,B1.cl];rfl) (ldI_i (x:=a.l) (by rw[b2.cl];rfl) (by rw[e];rfl)),fun e=>by rw[e];rfl⟩,?_⟩
  rintro _ rfl
  exact⟨g2,rfl⟩
 ·rw[if_neg q5]
  exact⟨g2,rfl⟩
theorem less_spec (x y:Int):CallsH Try.prog 51 #[.int .i64 x,.int .i64 y] h (fun v h'=>h=h'∧v=.bool (decide (x<y))):=by
 apply F51
 unfold L51
 have nan:∀z:Int,CallsH Try.prog 61 #[.int .i64 z] h (fun v h'=>h=h'∧v=.bool false):=fun z=>by
  apply F61
  unfold L61
  exact⟨rfl,by simp⟩
 refine cal_of (nan x) ?_
 rintro _ _ ⟨rfl,rfl⟩
 refine⟨_,rfl,fun c h'=>c=false∧h=h',⟨fun e=>(by cases e),fun _=>⟨rfl,rfl⟩⟩,?_⟩
 rintro _ _ ⟨rfl,rfl⟩
 exact⟨rfl,rfl⟩
theorem half {i j:Nat} (h:i+j≤4000000):IntKind.i64.wrap (((IntKind.u64.wrap (IntKind.i64.wrap ((i:Int)+(j:Int)))):Int).fdiv (2 ^ (min (1:Int).toNat IntKind.u64.bits)))=(((i+j) / 2:Nat):Int):=by
 have e1:IntKind.i64.wrap ((i:Int)+(j:Int))=((i+j:Nat):Int):=by rw[wrap64_id (by omega) (by omega)];omega
 have e2:IntKind.u64.wrap ((i+j:Nat):Int)=((i+j:Nat):Int):=by rw[IntKind.wrap_u64];omega
 have e3:(2:Int) ^ (min (1:Int).toNat IntKind.u64.bits)=2:=by decide
 rw[e1,e2,e3]
 have e4:((i+j:Nat):Int).fdiv 2=(((i+j) / 2:Nat):Int):=by
  rw[Int.fdiv_eq_ediv_of_nonneg _ (by omega)];omega
 rw[e4,wrap64_id (by omega) (by omega)]
theorem search_spec {s:Sv} {xs:List Int} (x:IntsAt h s xs) (hl:xs.length≤1000000) (hs:Srt xs) (t:Int):CallsH Try.prog 40 #[.slice s.a s.n s.c,.int .i64 t] h (fun v h'=>h=h'∧∃i:Int,v=.tuple #[.int .i64 i,.bool (decide (t∈xs))]):=by
 apply F40
 unfold L40
 have hn:=x.len
 refine⟨fun i j hh=>∃a b:Nat,i=a∧j=b∧a≤b∧b≤xs.length∧h=hh∧(∀q (hq:q<xs.length),q<a→xs[q]<t)∧∀q (hq:q<xs.length),b≤q→t≤xs[q],fun i j _=>j.toNat - i.toNat,⟨0,xs.length,rfl,by rw[hn],by omega,by omega,rfl,fun q hq h=>by omega,fun q hq h=>by omega⟩,?_⟩
 rintro _ _ h1 ⟨a,b,rfl,rfl,hab,hb,rfl,ha,hbb⟩
 refine ifb_iff (q:=a<b) (by simp) (fun hl2=>?_) (fun hge=>?_)
 ·rw[half (by omega)]
  have hc:(a+b) / 2<xs.length:=by omega
  have hc1:a≤(a+b) / 2:=by omega
  have hc2:(a+b) / 2<b:=by omega
  generalize (a+b) / 2=c at hc hc1 hc2
  obtain⟨p,e,k⟩:=x.at_ c hc
  refine⟨p,e,by omega,by rw[hn];omega,xs[c],by rw[Int.toNat_natCast];exact k,?_⟩
  refine cal_of (less_spec xs[c] t) ?_
  rintro _ _ ⟨rfl,rfl⟩
  refine⟨_,rfl,ifb_dec (fun hlt=>?_) (fun hnl=>?_)⟩
  ·rw[wrap_succ hc (by omega)]
   refine⟨⟨c+1,b,rfl,rfl,by omega,hb,rfl,fun q hq hqc=>?_,hbb⟩,by simp;omega⟩
   have:=hs.le (i:=q) (j:=c) (by omega) hc
   omega
  ·refine⟨⟨a,c,rfl,rfl,by omega,by omega,rfl,ha,fun q hq hqc=>?_⟩,by simp;omega⟩
   have:=hs.le (i:=c) (j:=q) hqc hq
   omega
 ·obtain rfl:a=b:=by omega
  refine⟨fun c hh=>h=hh∧c=decide (t∈xs),⟨fun e=>?_,fun e=>⟨rfl,?_⟩⟩,?_⟩
  ·have hlt:a<xs.length:=by rw[hn] at e;simp at e;omega
   obtain⟨p,ep,k⟩:=x.at_ a hlt
   refine⟨p,ep,by omega,by rw[hn];omega,xs[a],by rw[Int.toNat_natCast];exact k,?_⟩
   refine⟨fun c hh=>h=hh∧c=decide (xs[a]=t),⟨fun e=>⟨rfl,by simp at e;simp[e]⟩,fun e=>?_⟩,?_⟩
   ·refine⟨p,ep,by omega,by rw[hn];omega,xs[a],by rw[Int.toNat_natCast];exact k,?_⟩
    have nan:CallsH Try.prog 52 #[.int .i64 xs[a]] h (fun v h'=>h=h'∧v=.bool false):=by
     apply F52
     unfold L52
     exact⟨rfl,by simp⟩
    refine cal_of nan ?_
    rintro _ _ ⟨rfl,rfl⟩
    refine⟨_,rfl,fun c hh=>h=hh∧c=false,⟨fun e=>(by cases e),fun _=>⟨rfl,rfl⟩⟩,?_⟩
    rintro _ _ ⟨rfl,rfl⟩
    exact⟨rfl,by simp at e;simp[e]⟩
   ·rintro _ _ ⟨rfl,rfl⟩
    refine⟨rfl,?_⟩
    rw[Bool.eq_iff_iff]
    simp only[decide_eq_true_eq]
    refine⟨fun e=>e ▸ List.getElem_mem _,fun hm=>?_⟩
    obtain⟨q,hq,e9⟩:=List.getElem_of_mem hm
    rcases Nat.lt_trichotomy q a with h|h|h
    ·have:=ha q hq h;omega
    ·subst h;exact e9
    ·have h1:=hbb a hlt (Nat.le_refl _)
     have h2:=hs.le (i:=a) (j:=q) (by omega) hq
     omega
  ·have hge':¬a<xs.length:=by rw[hn] at e;simp at e;omega
   symm
   rw[decide_eq_false_iff_not]
   intro hm
   obtain⟨q,hq,e⟩:=List.getElem_of_mem hm
   have:=ha q hq (by omega);omega
  ·rintro _ _ ⟨rfl,rfl⟩
   exact⟨rfl,_,rfl⟩
theorem has_spec {pth:Pth} {v:Lnv} (hp:Pv h pth v.pt) (hs:Srt (pth v.pt)) (i:Nat):CallsH Try.prog 28 #[.agg (lns v).toArray,.int .i64 i] h (fun u h'=>Grow h h'∧u=.bool (hasP pth v i)):=by
 apply F28
 unfold L28
 refine newL (v:=v) fun h1 b1 f1=>ldS_i (s:=v.pt) (by rw[add_plain,b1.cl];rfl) ?_
 refine cal_of (search_spec (PAt.grow hp f1).ints hp.few hs i) ?_
 rintro _ _ ⟨rfl,j,rfl⟩
 exact⟨_,_,rfl,f1,rfl⟩
theorem sorted_spec {s:Sv} {xs:List Int} (x:IntsAt h s xs) (hl:xs.length≤1000000):CallsH Try.prog 39 #[.slice s.a s.n s.c] h (fun v h'=>h=h'∧∃c:Bool,v=.bool c∧(c=true↔Srt xs)):=by
 apply F39
 unfold L39
 have hn:=x.len
 have e0:IntKind.i64.wrap (((s.n:Nat):Int) - 1)=(xs.length:Int) - 1:=by rw[hn,wrap64_id (by omega) (by omega)]
 refine⟨fun i hh=>h=hh∧-1≤i∧i<xs.length∧∀q (hq:q+1<xs.length),i≤q→xs[q]'(by omega)≤xs[q+1],fun i _=>i.toNat,⟨rfl,by rw[e0];omega,by rw[e0];omega,fun q hq h=>by rw[e0] at h;omega⟩,?_⟩
 rintro i _ ⟨rfl,h0,h1,hall⟩
 refine ifb_iff (q:=0<i) (by simp) (fun hlt=>?_) (fun hge=>⟨rfl,true,rfl,by simp;exact fun q hq=>hall q hq (by omega)⟩)
 obtain⟨k,rfl⟩:∃k:Nat,i=((k+1:Nat):Int):=⟨i.toNat - 1,by omega⟩
 obtain⟨p,e,c⟩:=x.at_ (k+1) (by omega)
 obtain⟨p',e',c'⟩:=x.at_ k (by omega)
 have ew:IntKind.i64.wrap (((k+1:Nat):Int) - 1)=(k:Int):=by rw[wrap64_id (by omega) (by omega)];omega
 rw[ew]
 refine⟨p,e,by omega,by rw[hn];omega,_,by rw[Int.toNat_natCast];exact c,p',e',by omega,by rw[hn];omega,_,by rw[Int.toNat_natCast];exact c',?_⟩
 refine cal_of (less_spec _ _) ?_
 rintro _ _ ⟨rfl,rfl⟩
 refine⟨_,rfl,ifb_dec (fun hl2=>⟨rfl,false,rfl,?_⟩) (fun hnl=>?_)⟩
 ·refine⟨fun e=>(by cases e),fun hs=>?_⟩
  have:=hs k (by omega);omega
 ·refine⟨⟨rfl,by omega,by omega,fun q hq h=>?_⟩,by simp⟩
  by_cases eq:q=k
  ·subst eq;omega
  ·exact hall q hq (by omega)
end
end Go.Proofs.Ytkpahlkendlahaa
namespace Go.Proofs.Ytkpahlkendlahaa.fl
open Go Go.Lf Go.Proofs.Ytkpahlkendlahaa
structure Pb where
  s : List (List Int)
  w : Int
  g : List (List Int)
  k : List (List Int)
  e : List Int
structure PbAt (h : Heap) (a0 : Sv) (a1 : Int) (a2 a3 a4 : Sv) (p : Pb) : Prop where
  s : ListsAt h a0 p.s
  w : a1 = p.w
  g : ListsAt h a2 p.g
  k : ListsAt h a3 p.k
  e : IntsAt h a4 p.e
theorem PbAt.keep {h h' : Heap} {a0 : Sv} {a1 : Int} {a2 a3 a4 : Sv} {p : Pb} {T : Nat → Prop} (x : PbAt h a0 a1 a2 a3 a4 p) (f : Fr T h h') (hT : ∀ b, b < h.size → ¬ T b) : PbAt h' a0 a1 a2 a3 a4 p :=
  ⟨x.s.keep f hT, x.w, x.g.keep f hT, x.k.keep f hT, x.e.keep f hT⟩
theorem PbAt.grow {h h' : Heap} {a0 : Sv} {a1 : Int} {a2 a3 a4 : Sv} {p : Pb} (x : PbAt h a0 a1 a2 a3 a4 p) (f : Grow h h') : PbAt h' a0 a1 a2 a3 a4 p := x.keep f fun _ _ h => h
def at_ (ls : List (List Int)) (i : Nat) : List Int := (ls[i]?).getD []
theorem at_lt {ls : List (List Int)} {i : Nat} (hi : i < ls.length) : at_ ls i = ls[i] := by simp [at_, hi]
theorem at_ge {ls : List (List Int)} {i : Nat} (hi : ls.length ≤ i) : at_ ls i = [] := by simp [at_, hi]
def inB (m : Int) (l : List Int) : Bool := l.all fun y => decide (0 ≤ y ∧ y < m)
theorem list_spec {h0 h : Heap} {s : Sv} {ls : List (List Int)} (x : ListsAt h0 s ls) (g : Grow h0 h) (i : Nat) :
    CallsH Try.prog 54 #[.slice s.a s.n s.c, .int .i64 i] h (fun v h' => h = h' ∧ ∃ t : Sv, v = t.v ∧ IntsAt h0 t (at_ ls i)) := by
  apply F54
  unfold L54
  refine ifb_dec (fun hle => ?_) (fun hgt => ?_)
  · refine ⟨rfl, ⟨none, 0, 0⟩, rfl, ?_⟩
    rw [at_ge (by rw [x.len] at hle; omega)]
    exact IntsAt.nil _ _ _
  · have hi : i < ls.length := by rw [x.len] at hgt; omega
    obtain ⟨p, e, t, c, y⟩ := x.at_ i hi
    refine ⟨p, e, by omega, by rw [x.len]; omega, t, by rw [Int.toNat_natCast]; exact g.clk c (fun h => h), rfl, t, rfl, ?_⟩
    rw [at_lt hi]
    exact y
theorem all_take_succ {α : Type} {l : List α} {k : Nat} (hk : k < l.length) (f : α → Bool) : (l.take (k + 1)).all f = ((l.take k).all f && f l[k]) := by
  rw [List.take_succ_eq_append_getElem hk, List.all_append]
  simp
theorem fits_spec {h : Heap} {s : Sv} {ls : List (List Int)} (x : ListsAt h s ls) (n : Nat) (most : Int) (hn : n ≤ 1000000) (hl : ∀ l ∈ ls, l.length ≤ 1000000) :
    CallsH Try.prog 53 #[.slice s.a s.n s.c, .int .i64 n, .int .i64 most] h (fun v h' => h = h' ∧ v = .bool (decide (ls.length ≤ n) && ls.all (inB most))) := by
  apply F53
  unfold L53
  have hsl := x.len
  refine ifb_dec (fun hlt => ?_) (fun hge => ?_)
  · have : ¬ ls.length ≤ n := by omega
    exact ⟨rfl, by simp [this]⟩
  have hle : ls.length ≤ n := by omega
  refine ⟨fun y => ∃ i : Nat, y = i ∧ i ≤ ls.length ∧ (ls.take i).all (inB most) = true, fun y => (ls.length - y).toNat, ⟨0, rfl, by omega, by simp⟩, ?_⟩
  rintro y ⟨i, rfl, hi, hall⟩
  refine ifb_dec (fun hlt => ?_) (fun hge => ?_)
  · have hil : i < ls.length := by omega
    have hwi : IntKind.i64.wrap ((i : Int) + 1) = ((i + 1 : Nat) : Int) := by rw [wrap64_id (by omega) (by omega)]; omega
    have hll := hl _ (List.getElem_mem hil)
    refine x.get hil fun t y => ?_
    have htl := y.len
    refine ⟨fun z => ∃ k : Nat, z = k ∧ k ≤ ls[i].length ∧ inB most (ls[i].take k) = true, fun z => (ls[i].length - z).toNat, ⟨0, rfl, by omega, by simp [inB]⟩, ?_⟩
    rintro z ⟨k, rfl, hk, hak⟩
    refine ifb_dec (fun hlt => ?_) (fun hge => ?_)
    · have hkl : k < ls[i].length := by omega
      have hwk : IntKind.i64.wrap ((k : Int) + 1) = ((k + 1 : Nat) : Int) := by rw [wrap64_id (by omega) (by omega)]; omega
      refine y.get hkl ?_
      refine ifb_iff (q := ¬ (0 ≤ ls[i][k] ∧ ls[i][k] < most)) (by simp; omega) (fun hb => ⟨rfl, ?_⟩) (fun hb => ?_)
      · have : ls.all (inB most) = false := by
          rw [List.all_eq_false]
          refine ⟨ls[i], List.getElem_mem hil, ?_⟩
          rw [Bool.not_eq_true, inB, List.all_eq_false]
          exact ⟨_, List.getElem_mem hkl, by simpa using hb⟩
        simp [this]
      · refine ⟨⟨k + 1, hwk, by omega, ?_⟩, by rw [hwk]; (try dsimp only); omega⟩
        rw [inB, all_take_succ hkl, ← inB, hak, Bool.true_and]
        exact decide_eq_true (Classical.not_not.1 hb)
    · have : k = ls[i].length := by omega
      subst this
      rw [List.take_length] at hak
      refine ⟨⟨i + 1, hwi, by omega, ?_⟩, by rw [hwi]; (try dsimp only); omega⟩
      rw [all_take_succ hil, hall, hak]
      rfl
  · have : i = ls.length := by omega
    subst this
    rw [List.take_length] at hall
    exact ⟨rfl, by simp [hall, hle]⟩
end Go.Proofs.Ytkpahlkendlahaa.fl
namespace Go.Proofs.Ytkpahlkendlahaa.fl
open Go Go.Lf Go.Proofs.Ytkpahlkendlahaa
def fitsB (n : Nat) (m : Int) (ls : List (List Int)) : Bool := decide (ls.length ≤ n) && ls.all (inB m)
def Pb.okB (p : Pb) : Bool := fitsB p.s.length p.s.length p.s && fitsB p.s.length p.w p.g && fitsB p.s.length p.w p.k && fitsB 1 p.w [p.e]
def Pb.wide (p : Pb) : Bool := decide (1201 < p.s.length) || decide (p.w < 0) || decide (4000 < p.w)
def Pb.chk (p : Pb) : Int := if p.wide then 2 else if p.okB then 0 else 14
structure Pb.Bd (p : Pb) : Prop where
  s : p.s.length ≤ 1000000
  g : p.g.length ≤ 1000000
  k : p.k.length ≤ 1000000
  s1 : ∀ l ∈ p.s, l.length ≤ 1000000
  g1 : ∀ l ∈ p.g, l.length ≤ 1000000
  k1 : ∀ l ∈ p.k, l.length ≤ 1000000
  e : p.e.length ≤ 1000000
section
variable {h : Heap} {a0 : Sv} {a1 : Int} {a2 a3 a4 : Sv} {p : Pb}
def pbV (a0 : Sv) (a1 : Int) (a2 a3 a4 : Sv) : Value := .agg #[.slice a0.a a0.n a0.c, .int .i64 a1, .slice a2.a a2.n a2.c, .slice a3.a a3.n a3.c, .slice a4.a a4.n a4.c]
def pbC (a0 : Sv) (a1 : Int) (a2 a3 a4 : Sv) : Array Value := #[.slice a0.a a0.n a0.c, .int .i64 a1, .slice a2.a a2.n a2.c, .slice a3.a a3.n a3.c, .slice a4.a a4.n a4.c]
theorem one_list {h : Heap} {g : Nat} {s : Sv} {xs : List Int} (k : blk h g #[.slice s.a s.n s.c]) (x : IntsAt h s xs) : ListsAt h ⟨some ⟨g, 0, none⟩, 1, 1⟩ [xs] := by
  refine ⟨rfl, fun i hi => ⟨_, rfl, s, ?_, ?_⟩⟩
  · have : i = 0 := by simp at hi; omega
    subst this
    rw [add_plain, k.cl]
    rfl
  · have : i = 0 := by simp at hi; omega
    subst this
    exact x
theorem check_spec (x : PbAt h a0 a1 a2 a3 a4 p) (B : p.Bd) :
    CallsH Try.prog 41 #[pbV a0 a1 a2 a3 a4] h (fun v h' => v = .int .i64 p.chk ∧ Grow h h') := by
  apply F41
  unfold L41
  rintro p1 h1 rfl rfl
  have f1 : Grow h (h.push (.cells (pbC a0 a1 a2 a3 a4) 88)) := Fr.push _ _ _
  have kb := blk.new h (pbC a0 a1 a2 a3 a4) 88
  have x1 := x.grow f1
  have e1 : h.push (.cells #[.slice a0.a a0.n a0.c, .int .i64 a1, .slice a2.a a2.n a2.c, .slice a3.a a3.n a3.c, .slice a4.a a4.n a4.c] 88) = h.push (.cells (pbC a0 a1 a2 a3 a4) 88) := rfl
  rw [e1]
  generalize h.push (.cells (pbC a0 a1 a2 a3 a4) 88) = h1 at *
  have hw := x.w
  have hn := x.s.len
  have hB := B.s
  refine ldS_i (s := a0) (by rw [kb.cl]; rfl) ?_
  refine ⟨fun b => b = (decide (1201 < p.s.length) || decide (p.w < 0)), ⟨fun e => ?_, fun e => ldI_i (x := p.w) (by rw [add_plain, kb.cl, ← hw]; rfl) ?_⟩, ?_⟩
  · have : 1201 < p.s.length := by simp at e; omega
    simp [this]
  · have : ¬ 1201 < p.s.length := by simp at e; omega
    simp [this]
  rintro _ rfl
  refine ⟨fun b => b = p.wide, ⟨fun e => ?_, fun e => ldI_i (x := p.w) (by rw [add_plain, kb.cl, ← hw]; rfl) ?_⟩, ?_⟩
  · simp [Pb.wide] at e ⊢; omega
  · simp only [Pb.wide, e, Bool.false_or]
  rintro _ rfl
  refine ⟨fun e => ⟨?_, f1⟩, fun e => ?_⟩
  · simp [Pb.chk, e]
  have hn' : p.s.length ≤ 1201 := by simp [Pb.wide] at e; omega
  refine ldS_i (s := a0) (by rw [kb.cl]; rfl) ?_
  refine cal_of (fits_spec x1.s a0.n (a0.n : Int) (by omega) B.s1) ?_
  rintro _ _ ⟨rfl, rfl⟩
  refine ⟨_, rfl, ?_⟩
  refine ⟨fun b h' => h1 = h' ∧ b = !(fitsB p.s.length p.s.length p.s && fitsB p.s.length p.w p.g), ⟨fun e => ⟨rfl, ?_⟩, fun e => ?_⟩, ?_⟩
  · have e' : fitsB p.s.length p.s.length p.s = false := by simpa [fitsB, hn] using e
    rw [e']; rfl
  · have e' : fitsB p.s.length p.s.length p.s = true := by simpa [fitsB, hn] using e
    refine ldS_i (s := a2) (by rw [add_plain, kb.cl]; rfl) (ldI_i (x := p.w) (by rw [add_plain, kb.cl, ← hw]; rfl) ?_)
    refine cal_of (by rw [hn]; exact fits_spec x1.g _ _ (by omega) B.g1) ?_
    rintro _ _ ⟨rfl, rfl⟩
    refine ⟨_, rfl, rfl, ?_⟩
    rw [e', Bool.true_and]
    simp [fitsB]
  rintro _ _ ⟨rfl, rfl⟩
  refine ⟨fun b h' => h1 = h' ∧ b = !(fitsB p.s.length p.s.length p.s && fitsB p.s.length p.w p.g && fitsB p.s.length p.w p.k), ⟨fun e => ⟨rfl, ?_⟩, fun e => ?_⟩, ?_⟩
  · have e' : (fitsB p.s.length p.s.length p.s && fitsB p.s.length p.w p.g) = false := by rw [← Bool.not_eq_true']; exact e
    rw [e']; rfl
  · have e' : (fitsB p.s.length p.s.length p.s && fitsB p.s.length p.w p.g) = true := by rw [← Bool.not_eq_false']; exact e
    refine ldS_i (s := a3) (by rw [add_plain, kb.cl]; rfl) (ldI_i (x := p.w) (by rw [add_plain, kb.cl, ← hw]; rfl) ?_)
    refine cal_of (by rw [hn]; exact fits_spec x1.k _ _ (by omega) B.k1) ?_
    rintro _ _ ⟨rfl, rfl⟩
    refine ⟨_, rfl, rfl, ?_⟩
    rw [e', Bool.true_and]
    simp [fitsB]
  rintro _ _ ⟨rfl, rfl⟩
  refine ⟨fun b h' => Grow h1 h' ∧ b = !p.okB, ⟨fun e => ⟨Fr.refl _ _, ?_⟩, fun e => ?_⟩, ?_⟩
  · have e' : (fitsB p.s.length p.s.length p.s && fitsB p.s.length p.w p.g && fitsB p.s.length p.w p.k) = false := by rw [← Bool.not_eq_true']; exact e
    rw [Pb.okB, e']; rfl
  · have e' : (fitsB p.s.length p.s.length p.s && fitsB p.s.length p.w p.g && fitsB p.s.length p.w p.k) = true := by rw [← Bool.not_eq_false']; exact e
    refine ldS_i (s := a4) (by rw [add_plain, kb.cl]; rfl) ?_
    rintro s46 h8 rfl rfl
    have f8 : Grow h1 (h1.push (.cells #[.slice a4.a a4.n a4.c] 47)) := Fr.push _ _ _
    have k8 := blk.new h1 #[.slice a4.a a4.n a4.c] 47
    have y8 := one_list k8 (x1.e.keep f8 fun _ _ h => h)
    have kb8 := f8.blk kb (fun h => h)
    generalize h1.push (.cells #[.slice a4.a a4.n a4.c] 47) = h8 at *
    refine ldI_i (x := p.w) (by rw [add_plain, kb8.cl, ← hw]; rfl) ?_
    refine cal_of (fits_spec y8 1 p.w (by omega) (by simpa using B.e)) ?_
    rintro _ _ ⟨rfl, rfl⟩
    refine ⟨_, rfl, f8, ?_⟩
    rw [Pb.okB, e', Bool.true_and]
    simp [fitsB]
  rintro _ h7 ⟨g7, rfl⟩
  refine ⟨fun e1 => ⟨?_, f1.trans g7⟩, fun e1 => ⟨?_, f1.trans g7⟩⟩
  · have : p.okB = false := by rw [← Bool.not_eq_true']; exact e1
    simp [Pb.chk, e, this]
  · have : p.okB = true := by rw [← Bool.not_eq_false']; exact e1
    simp [Pb.chk, e, this]
end
end Go.Proofs.Ytkpahlkendlahaa.fl
namespace Go.Proofs.Ytkpahlkendlahaa.fl
open Go Go.Lf Go.Proofs.Ytkpahlkendlahaa
theorem div_word {m : Nat} (hm : m ≤ 100000000) : IntKind.i64.wrap ((m : Int).tdiv 64) = ((m / 64 : Nat) : Int) := by
  have e : (m : Int).tdiv 64 = ((m / 64 : Nat) : Int) := by rw [Int.tdiv_eq_ediv_of_nonneg (by omega)]; omega
  rw [e, wrap64_id (by omega) (by omega)]
theorem mod_word (m : Nat) : (m : Int).tmod 64 = ((m % 64 : Nat) : Int) := by
  rw [Int.tmod_eq_emod_of_nonneg (by omega)]; omega
theorem put_spec {h0 h : Heap} {g nw c : Nat} {f : Nat → Bool} {l : Sv} {xs : List Int} (x : IntsAt h0 l xs) (g0 : Grow h0 h) (hg : h0.size ≤ g) (W : WordsAt h g nw f)
    (hx : ∀ y ∈ xs, 0 ≤ y ∧ y < ((64 * nw : Nat) : Int)) (hnw : nw ≤ 1000000) (hl : xs.length ≤ 1000000) :
    CallsH Try.prog 43 #[.slice (some ⟨g, 0, none⟩) nw c, .slice l.a l.n l.c] h (fun _ h' => WordsAt h' g nw (fun e => f e || decide ((e : Int) ∈ xs)) ∧ Fr (fun b => b = g) h h') := by
  have F := @F43 ⟨some ⟨g, 0, none⟩, nw, c⟩ l h
  refine F ?_
  unfold L43
  have hln := x.len
  refine ⟨fun y h1 => ∃ k : Nat, y = k ∧ k ≤ xs.length ∧ WordsAt h1 g nw (fun e => f e || decide ((e : Int) ∈ xs.take k)) ∧ Fr (fun b => b = g) h h1, fun y _ => (xs.length - y).toNat, ⟨0, rfl, by omega, W.congr (by simp), Fr.refl _ _⟩, ?_⟩
  rintro y h1 ⟨k, rfl, hk, W1, f1⟩
  refine ifb_dec (fun hlt => ?_) (fun hge => ?_)
  · have hkl : k < xs.length := by omega
    have hwk : IntKind.i64.wrap ((k : Int) + 1) = ((k + 1 : Nat) : Int) := by rw [wrap64_id (by omega) (by omega)]; omega
    have g1 : Grow h0 h1 := g0.trans' f1 fun i hi e => by omega
    refine (x.keep g1 fun _ _ h => h).get hkl ?_
    obtain ⟨m, em⟩ := Int.eq_ofNat_of_zero_le (hx _ (List.getElem_mem hkl)).1
    have hm := (hx _ (List.getElem_mem hkl)).2
    rw [em] at hm ⊢
    have hm' : m < 64 * nw := by omega
    have hb : m % 64 < 64 := by omega
    rw [div_word (by omega), mod_word]
    obtain ⟨w, cw, hw⟩ := W1.cell (k := m / 64) (by omega)
    refine ixS_i rfl (by omega) (by show ((m / 64 : Nat) : Int) < (nw : Int); omega) (ldI_i (x := (w.toNat : Int)) (by simpa only [add_plain, Int.toNat_natCast, Nat.zero_add, Nat.mul_one] using cw) ⟨by omega, ?_⟩)
    refine ixS_i rfl (by omega) (by show ((m / 64 : Nat) : Int) < (nw : Int); omega) ?_
    rw [Int.toNat_natCast, Int.toNat_natCast, one_word hb, bitsI_or, add_plain, Nat.zero_add, Nat.mul_one]
    refine W1.put (by omega) _ fun h2 W2 f2 => ⟨⟨k + 1, hwk, by omega, W2.congr fun e he => ?_, f1.trans f2⟩, by rw [hwk]; (try dsimp only); omega⟩
    rw [List.take_succ_eq_append_getElem hkl, em]
    by_cases e1 : e / 64 = m / 64
    · have h3 := hw (e % 64) (by omega)
      have e2 : 64 * (m / 64) + e % 64 = e := by omega
      rw [e2] at h3
      rw [if_pos e1, BitVec.getLsbD_or, h3, one_bit hb, Bool.eq_iff_iff]
      have : e % 64 = m % 64 ↔ (e : Int) = m := by omega
      simp [this, or_assoc]
    · rw [if_neg e1, Bool.eq_iff_iff]
      have : ¬ (e : Int) = m := fun h => e1 (by have : e = m := by omega
                                                rw [this])
      simp [this]
  · have : k = xs.length := by omega
    subst this
    rw [List.take_length] at W1
    exact ⟨W1, f1⟩
theorem join_spec {h : Heap} {g1 g2 nw c1 c2 : Nat} {f1 f2 : Nat → Bool} (W1 : WordsAt h g1 nw f1) (W2 : WordsAt h g2 nw f2) (hne : g2 ≠ g1) (hnw : nw ≤ 1000000) :
    CallsH Try.prog 45 #[.slice (some ⟨g1, 0, none⟩) nw c1, .slice (some ⟨g2, 0, none⟩) nw c2] h (fun v h' => ∃ b, v = .bool b ∧ WordsAt h' g1 nw (fun e => f1 e || f2 e) ∧ Fr (fun b => b = g1) h h' ∧
      (b = true → ∃ e, e < 64 * nw ∧ f2 e = true ∧ f1 e = false) ∧ (b = false → ∀ e, e < 64 * nw → f2 e = true → f1 e = true)) := by
  have F := @F45 ⟨some ⟨g1, 0, none⟩, nw, c1⟩ ⟨some ⟨g2, 0, none⟩, nw, c2⟩ h
  refine F ?_
  unfold L45
  refine ⟨fun b y h1 => ∃ k : Nat, y = k ∧ k ≤ nw ∧ WordsAt h1 g1 nw (fun e => f1 e || (decide (e < 64 * k) && f2 e)) ∧ Fr (fun b => b = g1) h h1 ∧
      (b = true → ∃ e, e < 64 * nw ∧ f2 e = true ∧ f1 e = false) ∧ (b = false → ∀ e, e < 64 * k → f2 e = true → f1 e = true), fun _ y _ => (nw - y).toNat,
    ⟨0, rfl, by omega, W1.congr (by simp), Fr.refl _ _, (by intro e; cases e), fun _ e he => (by omega)⟩, ?_⟩
  rintro b y h1 ⟨k, rfl, hk, V1, fr, hb1, hb2⟩
  refine ifb_dec (fun hlt => ?_) (fun hge => ?_)
  · have hkl : k < nw := by have : (k : Int) < (nw : Int) := hlt; omega
    have hwk : IntKind.i64.wrap ((k : Int) + 1) = ((k + 1 : Nat) : Int) := by rw [wrap64_id (by omega) (by omega)]; omega
    have V2 := W2.frame fr hne
    obtain ⟨w, cw, hw⟩ := V2.cell hkl
    obtain ⟨u, cu, hu⟩ := V1.cell hkl
    refine ⟨fun b' h3 => WordsAt h3 g1 nw (fun e => f1 e || (decide (e < 64 * (k + 1)) && f2 e)) ∧ Fr (fun b => b = g1) h h3 ∧
      (b' = true → ∃ e, e < 64 * nw ∧ f2 e = true ∧ f1 e = false) ∧ (b' = false → ∀ e, e < 64 * (k + 1) → f2 e = true → f1 e = true), ?_,
      fun b' h3 ⟨q1, q2, q3, q4⟩ => ⟨⟨k + 1, hwk, by omega, q1, q2, q3, q4⟩, by rw [hwk]; (try dsimp only); omega⟩⟩
    have ix : ∀ {a c : Nat} {K : Addr → Prop}, K ⟨a, 0, none⟩ → ixS ⟨some ⟨a, 0, none⟩, nw, c⟩ (k : Int) K := fun kk => ixS_i rfl (by omega) (by show (k : Int) < (nw : Int); omega) kk
    have cw' : cl h1 ((⟨g2, 0, none⟩ : Addr).add ((k : Int).toNat * 1)) = some (.int .u64 (w.toNat : Int)) := by simpa only [add_plain, Int.toNat_natCast, Nat.zero_add, Nat.mul_one] using cw
    have cu' : cl h1 ((⟨g1, 0, none⟩ : Addr).add ((k : Int).toNat * 1)) = some (.int .u64 (u.toNat : Int)) := by simpa only [add_plain, Int.toNat_natCast, Nat.zero_add, Nat.mul_one] using cu
    refine ix (ldI_i cw' (ix (ldI_i cu' ?_)))
    rw [bitsI_andNot]
    have old : ∀ e, 64 * k ≤ e → e < 64 * (k + 1) → u.getLsbD (e % 64) = f1 e ∧ w.getLsbD (e % 64) = f2 e := by
      intro e h1 h2
      have e2 : 64 * k + e % 64 = e := by omega
      have a1 := hu (e % 64) (by omega)
      have a2 := hw (e % 64) (by omega)
      rw [e2] at a1 a2
      have : ¬ e < 64 * k := by omega
      exact ⟨by simpa [this] using a1, a2⟩
    refine ⟨fun hz => ?_, fun hz => ?_⟩
    · refine ix (ldI_i cu' (ix ?_))
      rw [bitsI_or, Int.toNat_natCast, add_plain, Nat.zero_add, Nat.mul_one]
      refine V1.put hkl _ fun h2 V3 fr2 => ⟨V3.congr fun e he => ?_, fr.trans fr2, fun _ => ?_, fun e => (by cases e)⟩
      · by_cases e1 : e / 64 = k
        · obtain ⟨o1, o2⟩ := old e (by omega) (by omega)
          have l1 : e < 64 * (k + 1) := by omega
          rw [if_pos e1, BitVec.getLsbD_or, o1, o2]
          simp [l1]
        · rw [if_neg e1]
          have : e < 64 * (k + 1) ↔ e < 64 * k := by omega
          simp [this]
      · have hnz : (w &&& ~~~u) ≠ 0#64 := fun h0 => by rw [h0] at hz; simp at hz
        obtain ⟨b0, hb0⟩ : ∃ b0, b0 < 64 ∧ (w &&& ~~~u).getLsbD b0 = true := by
          refine Classical.byContradiction fun hno => hnz (BitVec.eq_of_getLsbD_eq fun i hi => ?_)
          rw [BitVec.getLsbD_zero]
          cases hc : (w &&& ~~~u).getLsbD i with
          | false => rfl
          | true => exact absurd ⟨i, hi, hc⟩ hno
        obtain ⟨o1, o2⟩ := old (64 * k + b0) (by omega) (by omega)
        have e2 : (64 * k + b0) % 64 = b0 := by omega
        rw [e2] at o1 o2
        have h3 := hb0.2
        rw [BitVec.getLsbD_and, BitVec.getLsbD_not, o1, o2] at h3
        simp at h3
        exact ⟨64 * k + b0, by omega, h3.1, h3.2.2⟩
    · have hz' : (w &&& ~~~u) = 0#64 := by
        have : ((w &&& ~~~u).toNat : Int) = 0 := by simpa using hz
        apply BitVec.eq_of_toNat_eq
        simp only [BitVec.toNat_zero]
        exact Int.ofNat.inj this
      have sub : ∀ e, 64 * k ≤ e → e < 64 * (k + 1) → f2 e = true → f1 e = true := by
        intro e h1 h2 h3
        obtain ⟨o1, o2⟩ := old e h1 h2
        have h4 : (w &&& ~~~u).getLsbD (e % 64) = false := by rw [hz']; simp
        rw [BitVec.getLsbD_and, BitVec.getLsbD_not, o1, o2, h3] at h4
        have : e % 64 < 64 := by omega
        simpa [this] using h4
      refine ⟨V1.congr fun e he => ?_, fr, hb1, fun hb e he h3 => ?_⟩
      · by_cases h2 : e < 64 * (k + 1)
        · by_cases h3 : e < 64 * k
          · simp [h2, h3]
          · cases hf : f2 e with
            | false => simp
            | true => simp [sub e (by omega) h2 hf]
        · have : ¬ e < 64 * k := by omega
          simp [h2, this]
      · by_cases h4 : e < 64 * k
        · exact hb2 hb e h4 h3
        · exact sub e (by omega) he h3
  · have hkn : k = nw := by have : ¬ (k : Int) < (nw : Int) := hge; omega
    subst hkn
    exact ⟨b, rfl, V1.congr fun e he => by simp [he], fr, hb1, hb2⟩
end Go.Proofs.Ytkpahlkendlahaa.fl
namespace Go.Proofs.Ytkpahlkendlahaa.fl
open Go Go.Lf Go.Proofs.Ytkpahlkendlahaa
theorem made_words (h : Heap) (nw : Nat) : WordsAt (h.push (.cells (madeCells (Value.int .u64 0).cells (nw * 1)) 52)) h.size nw (fun _ => false) := by
  refine ⟨_, blk.new _ _ _, by rw [size_madeCells, Nat.mul_one], fun k hk => ⟨0#64, ?_, fun b _ => by simp⟩⟩
  rw [made_get _ rfl, if_pos (by omega)]
  rfl
theorem copy_words {h : Heap} {g1 g2 nw c1 c2 : Nat} {f1 f2 : Nat → Bool} (W1 : WordsAt h g1 nw f1) (W2 : WordsAt h g2 nw f2) {K : Int → Heap → Prop}
    (k : ∀ i h', WordsAt h' g1 nw f2 → Fr (fun b => b = g1) h h' → K i h') : cpS 1 h ⟨some ⟨g1, 0, none⟩, nw, c1⟩ ⟨some ⟨g2, 0, none⟩, nw, c2⟩ K := by
  obtain ⟨cs1, k1, s1, -⟩ := W1
  obtain ⟨cs2, k2, s2, r2⟩ := W2
  refine ⟨cs2.toList, by simp [s2], fun j v hv => ?_, fun u hu => ?_, fun p hp j hj => ?_, ?_⟩
  · rw [add_plain, Nat.zero_add, k2.cl]
    simpa using hv
  · obtain ⟨i, hi, e⟩ := List.getElem_of_mem hu
    obtain ⟨w, c, _⟩ := r2 i (by simpa [s2] using hi)
    have : cs2[i]? = some u := by rw [← e]; simp
    rw [this] at c
    cases c
    rfl
  · cases hp
    rw [add_plain, Nat.zero_add, k1.cl, k1.fz]
    have : j < cs1.size := by simpa [s1, s2] using hj
    simp [this]
  · rintro h' rfl
    obtain ⟨kk, ff⟩ := scs_blk g1 cs2.toList h cs1 0 0 k1
    refine k _ _ ⟨_, kk, ?_, ?_⟩ ff
    · have := congrArg List.length (fold_set cs2.toList cs1 (0 + 0) (by simp [s1, s2]))
      simp [s1, s2] at this
      simpa using this
    · have e := fold_set cs2.toList cs1 (0 + 0) (by simp [s1, s2])
      have e' : ((cs2.toList.zipIdx (0 + 0)).foldl (fun c p => c.setIfInBounds p.2 p.1) cs1) = cs2 := by
        apply Array.ext'
        rw [e]
        simp [s1, s2]
      rw [e']
      exact r2
theorem through_spec {h0 h : Heap} {a0 : Sv} {a1 : Int} {a2 a3 a4 : Sv} {p : Pb} (x : PbAt h0 a0 a1 a2 a3 a4 p) (B : p.Bd) (g0 : Grow h0 h) {g nw c : Nat} {f : Nat → Bool} (W : WordsAt h g nw f)
    (hg : ∀ l ∈ p.g, ∀ y ∈ l, 0 ≤ y ∧ y < ((64 * nw : Nat) : Int)) (hk : ∀ l ∈ p.k, ∀ y ∈ l, 0 ≤ y ∧ y < ((64 * nw : Nat) : Int)) (hnw : nw ≤ 1000000) (i : Nat) :
    CallsH Try.prog 44 #[pbV a0 a1 a2 a3 a4, .int .i64 i, .slice (some ⟨g, 0, none⟩) nw c] h (fun v h' => ∃ g', v = .slice (some ⟨g', 0, none⟩) nw nw ∧ h.size ≤ g' ∧
      WordsAt h' g' nw (fun e => decide ((e : Int) ∈ at_ p.g i) || (f e && !decide ((e : Int) ∈ at_ p.k i))) ∧ Grow h h') := by
  have F := @F44 a0 a1 a2 a3 a4 i ⟨some ⟨g, 0, none⟩, nw, c⟩ h
  refine F ?_
  unfold L44
  rintro p3 h1 rfl rfl
  have f1 : Grow h (h.push (.cells (pbC a0 a1 a2 a3 a4) 88)) := Fr.push _ _ _
  have kb := blk.new h (pbC a0 a1 a2 a3 a4) 88
  have e1 : h.push (.cells #[.slice a0.a a0.n a0.c, .int .i64 a1, .slice a2.a a2.n a2.c, .slice a3.a a3.n a3.c, .slice a4.a a4.n a4.c] 88) = h.push (.cells (pbC a0 a1 a2 a3 a4) 88) := rfl
  rw [e1]
  have hs1 : (h.push (.cells (pbC a0 a1 a2 a3 a4) 88)).size = h.size + 1 := by simp
  generalize h.push (.cells (pbC a0 a1 a2 a3 a4) 88) = h1 at *
  have hin : ∀ {ls : List (List Int)}, (∀ l ∈ ls, ∀ y ∈ l, 0 ≤ y ∧ y < ((64 * nw : Nat) : Int)) → ∀ y ∈ at_ ls i, 0 ≤ y ∧ y < ((64 * nw : Nat) : Int) := by
    intro ls hls y hy
    rcases Nat.lt_or_ge i ls.length with hi | hi
    · rw [at_lt hi] at hy; exact hls _ (List.getElem_mem hi) y hy
    · rw [at_ge hi] at hy; cases hy
  have hlen : ∀ {ls : List (List Int)}, (∀ l ∈ ls, l.length ≤ 1000000) → (at_ ls i).length ≤ 1000000 := by
    intro ls hls
    rcases Nat.lt_or_ge i ls.length with hi | hi
    · rw [at_lt hi]; exact hls _ (List.getElem_mem hi)
    · rw [at_ge hi]; simp
  refine ⟨by omega, by omega, by show ((8 : Nat) : Int) * ((nw : Nat) : Int) ≤ _; omega, by show ((nw : Nat) : Int) ≤ _; omega, ?_⟩
  rintro s12 h2 rfl rfl
  simp only [Int.toNat_natCast]
  have f2 : Grow h1 (h1.push (.cells (madeCells (Value.int .u64 0).cells (nw * 1)) 52)) := Fr.push _ _ _
  have W2 := made_words h1 nw
  have hlt1 := kb.lt
  refine copy_words W2 ((W.frame f1 (fun h => h)).frame f2 (fun h => h)) fun m h3 W3 f3 => ?_
  generalize h1.push (.cells (madeCells (Value.int .u64 0).cells (nw * 1)) 52) = h2 at *
  have f12 : Grow h h3 := (f1.trans f2).trans' f3 fun j hj e => by omega
  have kb3 := f3.blk (f2.blk kb (fun h => h)) (fun e => by omega)
  have hsz := g0.size
  refine ldS_i (s := a3) (by rw [add_plain, kb3.cl]; rfl) ?_
  refine cal_of (list_spec x.k (g0.trans f12) i) ?_
  rintro _ _ ⟨rfl, t, rfl, yt⟩
  refine ⟨t, rfl, ?_⟩
  have htn := yt.len
  have hkin := hin hk
  have hkl := hlen B.k1
  generalize hks : at_ p.k i = ks at *
  refine ⟨fun y h5 => ∃ j : Nat, y = j ∧ j ≤ ks.length ∧ WordsAt h5 h1.size nw (fun e => f e && !decide ((e : Int) ∈ ks.take j)) ∧ Fr (fun b => b = h1.size) h3 h5, fun y _ => (ks.length - y).toNat,
    ⟨0, rfl, by omega, W3.congr (by simp), Fr.refl _ _⟩, ?_⟩
  rintro y h5 ⟨j, rfl, hj, W5, f5⟩
  refine ifb_dec (fun hlt => ?_) (fun hge => ?_)
  · have hjl : j < ks.length := by omega
    have hwj : IntKind.i64.wrap ((j : Int) + 1) = ((j + 1 : Nat) : Int) := by rw [wrap64_id (by omega) (by omega)]; omega
    have f15 : Grow h h5 := f12.trans' f5 fun j hj e => by omega
    refine (yt.keep (g0.trans f15) fun _ _ h => h).get hjl ?_
    obtain ⟨m', em⟩ := Int.eq_ofNat_of_zero_le (hkin _ (List.getElem_mem hjl)).1
    have hm := (hkin _ (List.getElem_mem hjl)).2
    rw [em] at hm ⊢
    have hb : m' % 64 < 64 := by omega
    rw [div_word (by omega), mod_word]
    obtain ⟨w, cw, hw⟩ := W5.cell (k := m' / 64) (by omega)
    refine ixS_i rfl (by omega) (by show ((m' / 64 : Nat) : Int) < (nw : Int); omega) (ldI_i (x := (w.toNat : Int)) (by simpa only [add_plain, Int.toNat_natCast, Nat.zero_add, Nat.mul_one] using cw) ⟨by omega, ?_⟩)
    refine ixS_i rfl (by omega) (by show ((m' / 64 : Nat) : Int) < (nw : Int); omega) ?_
    rw [Int.toNat_natCast, Int.toNat_natCast, one_word hb, bitsI_andNot, add_plain, Nat.zero_add, Nat.mul_one]
    refine W5.put (by omega) _ fun h6 W6 f6 => ⟨⟨j + 1, hwj, by omega, W6.congr fun e he => ?_, f5.trans f6⟩, by rw [hwj]; (try dsimp only); omega⟩
    rw [List.take_succ_eq_append_getElem hjl, em]
    by_cases e1 : e / 64 = m' / 64
    · have h3 := hw (e % 64) (by omega)
      have e2 : 64 * (m' / 64) + e % 64 = e := by omega
      have e3 : e % 64 < 64 := by omega
      rw [e2] at h3
      rw [if_pos e1, BitVec.getLsbD_and, BitVec.getLsbD_not, h3, one_bit hb, Bool.eq_iff_iff]
      have : e % 64 = m' % 64 ↔ (e : Int) = m' := by omega
      simp [this, e3, and_assoc]
    · rw [if_neg e1, Bool.eq_iff_iff]
      have : ¬ (e : Int) = m' := fun h => e1 (by have : e = m' := by omega
                                                 rw [this])
      simp [this]
  · have : j = ks.length := by omega
    subst this
    rw [List.take_length] at W5
    have f15 : Grow h h5 := f12.trans' f5 fun j hj e => by omega
    have kb5 := f5.blk kb3 (fun e => by omega)
    refine ldS_i (s := a2) (by rw [add_plain, kb5.cl]; rfl) ?_
    refine cal_of (list_spec x.g (g0.trans f15) i) ?_
    rintro _ _ ⟨rfl, t', rfl, yt'⟩
    refine ⟨t', rfl, ?_⟩
    refine cal_of (put_spec yt' (g0.trans f15) (by omega) W5 (hin hg) hnw (hlen B.g1)) ?_
    rintro _ h8 ⟨W8, f8⟩
    refine ⟨h1.size, rfl, by omega, W8.congr fun e _ => ?_, f15.trans' f8 fun j hj e => by omega⟩
    rw [Bool.or_comm]
end Go.Proofs.Ytkpahlkendlahaa.fl
namespace Go.Proofs.Ytkpahlkendlahaa.fl
open Go Go.Lf Go.Proofs.Ytkpahlkendlahaa
structure AnsOk (ba : Nat) (tb : Sv) (rb : Nat → Nat) (n nw : Nat) (W : Int) (S : Nat → Nat → Bool) (h : Heap) : Prop where
  st : blk h ba #[.int .i64 W, .slice tb.a tb.n tb.c]
  own : Own h (ba + 1) 1 tb ((List.range n).map fun i => .slice (some ⟨rb i, 0, none⟩) nw nw)
  row : ∀ i, i < n → ba < rb i ∧ ¬ tb.own (rb i) ∧ WordsAt h (rb i) nw (S i)
  inj : ∀ i j, i < n → j < n → rb i = rb j → i = j
section
variable {ba : Nat} {tb : Sv} {rb : Nat → Nat} {n nw : Nat} {W : Int} {S : Nat → Nat → Bool} {h : Heap}
theorem AnsOk.frame {T : Nat → Prop} {h' : Heap} (x : AnsOk ba tb rb n nw W S h) (f : Fr T h h') (h1 : ∀ b, ba ≤ b → b < h.size → ¬ T b) : AnsOk ba tb rb n nw W S h' :=
  ⟨f.blk x.st (h1 _ (Nat.le_refl _) x.st.lt), x.own.frame f fun b hb => h1 b (by have := (x.own.ge hb).1; omega) (x.own.ge hb).2,
    fun i hi => ⟨(x.row i hi).1, (x.row i hi).2.1, (x.row i hi).2.2.frame f (h1 _ (Nat.le_of_lt (x.row i hi).1) (x.row i hi).2.2.lt)⟩, x.inj⟩
theorem AnsOk.grow {h' : Heap} (x : AnsOk ba tb rb n nw W S h) (f : Grow h h') : AnsOk ba tb rb n nw W S h' := x.frame f fun _ _ _ h => h
theorem AnsOk.len (x : AnsOk ba tb rb n nw W S h) : tb.n = n := by have := x.own.len; simp at this; omega
theorem AnsOk.set {h' : Heap} (x : AnsOk ba tb rb n nw W S h) {i : Nat} (hi : i < n) {f : Nat → Bool} (fr : Fr (fun b => b = rb i) h h') (w : WordsAt h' (rb i) nw f) : AnsOk ba tb rb n nw W (fun j => if j = i then f else S j) h' := by
  obtain ⟨r1, r2, r3⟩ := x.row i hi
  refine ⟨fr.blk x.st (by omega), x.own.frame fr (fun b hb e => by subst e; exact r2 hb), fun j hj => ?_, x.inj⟩
  obtain ⟨q1, q2, q3⟩ := x.row j hj
  by_cases e : j = i
  · subst e
    exact ⟨q1, q2, by simpa using w⟩
  · refine ⟨q1, q2, ?_⟩
    simp only [e, if_false]
    exact q3.frame fr fun e' => e (x.inj j i hj hi e')
theorem AnsOk.congr {S' : Nat → Nat → Bool} (x : AnsOk ba tb rb n nw W S h) (e : ∀ i k, i < n → k < 64 * nw → S i k = S' i k) : AnsOk ba tb rb n nw W S' h :=
  ⟨x.st, x.own, fun i hi => ⟨(x.row i hi).1, (x.row i hi).2.1, (x.row i hi).2.2.congr fun k hk => e i k hi hk⟩, x.inj⟩
theorem AnsOk.cw (x : AnsOk ba tb rb n nw W S h) : cl h ⟨ba, 0, none⟩ = some (.int .i64 W) := by rw [x.st.cl]; rfl
theorem AnsOk.ct (x : AnsOk ba tb rb n nw W S h) : cl h ⟨ba, 1, none⟩ = some (.slice tb.a tb.n tb.c) := by rw [x.st.cl]; rfl
theorem AnsOk.cell (x : AnsOk ba tb rb n nw W S h) {i : Nat} (hi : i < n) : ∃ g, tb.a = some ⟨g, 0, none⟩ ∧ cl h ⟨g, i, none⟩ = some (.slice (some ⟨rb i, 0, none⟩) nw nw) := by
  have hr := x.own.row
  rcases x.own.mem with ⟨_, e, _⟩ | ⟨g, cur, e, _⟩
  · have := x.len; omega
  · rw [e] at hr
    refine ⟨g, e, ?_⟩
    have := hr i (.slice (some ⟨rb i, 0, none⟩) nw nw) (by simp [List.getElem?_range hi])
    rwa [add_plain, Nat.zero_add] at this
theorem AnsOk.get (x : AnsOk ba tb rb n nw W S h) {i : Nat} (hi : i < n) {K : Sv → Prop} (k : K ⟨some ⟨rb i, 0, none⟩, nw, nw⟩) : ixS tb i fun q => ldS h (q.add ((i : Int).toNat * 1)) K := by
  obtain ⟨g, e, c⟩ := x.cell hi
  refine ⟨_, e, by omega, by rw [x.len]; omega, ⟨some ⟨rb i, 0, none⟩, nw, nw⟩, ?_, k⟩
  rw [Int.toNat_natCast, Nat.mul_one, add_plain, Nat.zero_add]
  exact c
end
theorem empty_spec {h : Heap} {a0 : Sv} {a1 : Int} {a2 a3 a4 : Sv} {p : Pb} (x : PbAt h a0 a1 a2 a3 a4 p) {W : Nat} (hW : p.w = W) (hW4 : W ≤ 4000) (hn : p.s.length ≤ 1000000) :
    CallsH Try.prog 42 #[pbV a0 a1 a2 a3 a4] h (fun v h' => ∃ ba tb rb, v = .pointer (some ⟨ba, 0, none⟩) ∧ AnsOk ba tb rb p.s.length ((W + 63) / 64) W (fun _ _ => false) h' ∧ Grow h h' ∧ h.size ≤ ba) := by
  apply F42
  unfold L42
  rintro p1 h1 rfl rfl
  have f1 : Grow h (h.push (.cells (pbC a0 a1 a2 a3 a4) 88)) := Fr.push _ _ _
  have kb := blk.new h (pbC a0 a1 a2 a3 a4) 88
  have e1 : h.push (.cells #[.slice a0.a a0.n a0.c, .int .i64 a1, .slice a2.a a2.n a2.c, .slice a3.a a3.n a3.c, .slice a4.a a4.n a4.c] 88) = h.push (.cells (pbC a0 a1 a2 a3 a4) 88) := rfl
  rw [e1]
  have hs1 : (h.push (.cells (pbC a0 a1 a2 a3 a4) 88)).size = h.size + 1 := by simp
  generalize h.push (.cells (pbC a0 a1 a2 a3 a4) 88) = h1 at *
  have hw : a1 = (W : Int) := by rw [x.w, hW]
  refine ldI_i (x := (W : Int)) (by rw [add_plain, kb.cl, ← hw]; rfl) ?_
  rintro p7 h2 rfl rfl
  have f2 : Grow h1 (h1.push (.cells #[.int .i64 (W : Int), .slice none 0 0] 109)) := Fr.push _ _ _
  have k2 := blk.new h1 #[.int .i64 (W : Int), .slice none 0 0] 109
  have kb2 := f2.blk kb (fun h => h)
  generalize h1.push (.cells #[.int .i64 (W : Int), .slice none 0 0] 109) = h2 at *
  have hsn := x.s.len
  refine ldS_i (s := a0) (by rw [kb2.cl]; rfl) ?_
  refine ⟨fun y h3 => ∃ k : Nat, y = k ∧ k ≤ p.s.length ∧ ∃ tb rb, AnsOk h1.size tb rb k ((W + 63) / 64) W (fun _ _ => false) h3 ∧ Grow h h3 ∧ blk h3 h.size (pbC a0 a1 a2 a3 a4), fun y _ => (p.s.length - y).toNat,
    ⟨0, rfl, by omega, ⟨none, 0, 0⟩, fun _ => 0, ⟨k2, Own.nil _ _ _, fun i hi => by omega, fun i j hi => by omega⟩, f1.trans f2, kb2⟩, ?_⟩
  rintro y h3 ⟨k, rfl, hk, tb, rb, A, f3, kb3⟩
  refine ifb_dec (fun hlt => ?_) (fun hge => ?_)
  · have hkl : k < p.s.length := by omega
    have hwk : IntKind.i64.wrap ((k : Int) + 1) = ((k + 1 : Nat) : Int) := by rw [wrap64_id (by omega) (by omega)]; omega
    refine ⟨Grow h3, Fr.refl _ _, ldI_i (x := (W : Int)) (by rw [add_plain, kb3.cl, ← hw]; rfl) ⟨tb, fun h' g => by rw [add_plain, Nat.zero_add]; exact g.clk A.ct (fun h => h), ?_⟩⟩
    have hnw : IntKind.i64.wrap ((IntKind.i64.wrap ((W : Int) + 63)).tdiv 64) = (((W + 63) / 64 : Nat) : Int) := by
      rw [wrap64_id (x := (W : Int) + 63) (by omega) (by omega), Int.tdiv_eq_ediv_of_nonneg (by omega), wrap64_id (by omega) (by omega)]
      omega
    rw [hnw]
    generalize hnwe : (W + 63) / 64 = nw at *
    refine ⟨by omega, by omega, by show ((8 : Nat) : Int) * ((nw : Nat) : Int) ≤ _; omega, by omega, ?_⟩
    rintro s22 h4 rfl rfl
    simp only [Int.toNat_natCast]
    have f4 : Grow h3 (h3.push (.cells (madeCells (Value.int .u64 0).cells (nw * 1)) 52)) := Fr.push _ _ _
    have W4 := made_words h3 nw
    have hs4 : (h3.push (.cells (madeCells (Value.int .u64 0).cells (nw * 1)) 52)).size = h3.size + 1 := by simp
    refine ⟨f4, ?_⟩
    generalize h3.push (.cells (madeCells (Value.int .u64 0).cells (nw * 1)) 52) = h4 at *
    have A4 := A.grow f4
    have kb4 := f4.blk kb3 (fun h => h)
    rintro s1 h5 rfl rfl
    have e5 : Grow h4 (h4.push (.cells #[.slice (some ⟨h3.size, 0, none⟩) nw nw] 111)) := Fr.push _ _ _
    refine ⟨f4.trans e5, ?_⟩
    have hlt := A.st.lt
    have htn := A.len
    refine app1 (E := 111) (vs := #[.slice (some ⟨h3.size, 0, none⟩) nw nw]) (h := h4) (B := h1.size + 1) (sz := 1) rfl A4.own rfl (by simp [Value.oneCell']) (by omega) (by omega) (by omega) ?_ _ _ rfl rfl
    intro s' h8 e1 o8 f8 hown
    have st8 := f8.blk A4.st (fun ho => by have := (A4.own.ge ho).1; omega)
    rw [add_plain]
    refine sto_i st8 (by show 1 < 2; omega) ?_
    have f9 : Fr (fun b => b = h1.size) h8 (sc h8 ⟨h1.size, 0 + 1, none⟩ (.slice s'.a s'.n s'.c)) := Fr.scb _ _ _ _
    have hh1 : h.size < h1.size := by omega
    have tlt : ∀ {b}, tb.own b → h1.size < b ∧ b < h3.size := fun hb => by have := A.own.ge hb; omega
    refine ⟨⟨k + 1, hwk, by omega, s', fun i => if i < k then rb i else h3.size, ⟨st8.sc 1 _, ?_, fun i hi => ?_, fun i j hi hj => ?_⟩, ?_, ?_⟩, by rw [hwk]; (try dsimp only); omega⟩
    · have := o8.frame f9 (fun b hb e => by have := (o8.ge hb).1; omega)
      rw [List.range_succ, List.map_append]
      have e2 : (List.range k).map (fun i => Value.slice (some ⟨if i < k then rb i else h3.size, 0, none⟩) nw nw) = (List.range k).map (fun i => Value.slice (some ⟨rb i, 0, none⟩) nw nw) :=
        List.map_congr_left fun i hi => by rw [if_pos (List.mem_range.1 hi)]
      rw [e2]
      simpa using this
    · by_cases e : i < k
      · obtain ⟨r1, r2, r3⟩ := A.row i e
        simp only [e, if_true]
        have l2 := r3.lt
        refine ⟨r1, fun ho => ?_, ((r3.frame f4 (fun h => h)).frame f8 r2).frame f9 (by omega)⟩
        rcases hown _ ho with h' | h'
        · exact r2 h'
        · omega
      · have e' : i = k := by omega
        subst e'
        simp only [e, if_false]
        refine ⟨by omega, fun ho => ?_, (W4.frame f8 fun ho => by have := tlt ho; omega).frame f9 (by omega)⟩
        rcases hown _ ho with h' | h'
        · have := tlt h'; omega
        · omega
    · intro e
      by_cases e1 : i < k <;> by_cases e2 : j < k <;> simp only [e1, e2, if_true, if_false] at e
      · exact A.inj i j e1 e2 e
      · have := (A.row i e1).2.2.lt; omega
      · have := (A.row j e2).2.2.lt; omega
      · omega
    · exact ((f3.trans f4).trans' f8 (fun i hi ho => by have := tlt ho; omega)).trans' f9 (fun i hi e => by omega)
    · exact f9.blk (f8.blk kb4 fun ho => by have := tlt ho; omega) (by omega)
  · have : k = p.s.length := by omega
    subst this
    exact ⟨_, tb, rb, rfl, A, f3, by omega⟩
end Go.Proofs.Ytkpahlkendlahaa.fl
namespace Go.Proofs.Ytkpahlkendlahaa.fl
open Go Go.Lf Go.Proofs.Ytkpahlkendlahaa
def hasS (n : Nat) (W : Int) (S : Nat → Nat → Bool) (i e : Int) : Bool := decide (0 ≤ i ∧ i < n ∧ 0 ≤ e ∧ e < W) && S i.toNat e.toNat
section
variable {ba : Nat} {tb : Sv} {rb : Nat → Nat} {n nw : Nat} {W : Int} {S : Nat → Nat → Bool} {h : Heap}
theorem ansHas_spec (x : AnsOk ba tb rb n nw W S h) (hW : W ≤ ((64 * nw : Nat) : Int)) (hnw : nw ≤ 1000000) (i e : Int) :
    CallsH Try.prog 46 #[.pointer (some ⟨ba, 0, none⟩), .int .i64 i, .int .i64 e] h (fun v h' => h = h' ∧ v = .bool (hasS n W S i e)) := by
  apply F46
  unfold L46
  have hl := x.len
  refine ⟨fun b => b = decide (0 ≤ i ∧ i < n), ⟨fun e => ?_, fun e => ?_⟩, ?_⟩
  · refine nn_i (ldS_i (s := tb) (by rw [add_plain]; exact x.ct) ?_)
    have : 0 ≤ i := by simpa using e
    simp [this, hl]
  · have : ¬ 0 ≤ i := by simpa using e
    simp [this]
  rintro _ rfl
  refine ⟨fun b => b = decide (0 ≤ i ∧ i < n ∧ 0 ≤ e ∧ e < W), ⟨fun e' => ?_, fun e' => ?_⟩, ?_⟩
  · refine nn_i (ldI_i x.cw ?_)
    have h1 : (0 ≤ i ∧ i < n) ∧ 0 ≤ e := by simpa using e'
    simp [h1.1.1, h1.1.2, h1.2]
  · have h1 : ¬ (0 ≤ i ∧ i < n ∧ 0 ≤ e ∧ e < W) := by simp at e'; omega
    simp [h1]
  rintro _ rfl
  refine ⟨fun b => b = hasS n W S i e, ⟨fun e' => ?_, fun e' => by simp only [hasS, e', Bool.false_and]⟩, ?_⟩
  · have h1 := of_decide_eq_true e'
    obtain ⟨i, rfl⟩ := Int.eq_ofNat_of_zero_le h1.1
    obtain ⟨e, rfl⟩ := Int.eq_ofNat_of_zero_le h1.2.2.1
    refine nn_i (ldS_i (s := tb) (by rw [add_plain]; exact x.ct) (x.get (by omega) ?_))
    rw [div_word (by omega), mod_word]
    obtain ⟨w, cw, hw⟩ := (x.row i (by omega)).2.2.cell (k := e / 64) (by omega)
    refine ixS_i rfl (by omega) (by show ((e / 64 : Nat) : Int) < (nw : Int); omega) (ldI_i (x := (w.toNat : Int)) (by simpa only [add_plain, Int.toNat_natCast, Nat.zero_add, Nat.mul_one] using cw) ⟨by omega, ?_⟩)
    have hb : e % 64 < 64 := by omega
    rw [Int.toNat_natCast, bit_of w hb, hw _ hb]
    have e2 : 64 * (e / 64) + e % 64 = e := by omega
    rw [e2]
    simp only [hasS, e', Bool.true_and, Int.toNat_natCast]
  rintro _ rfl
  exact ⟨rfl, rfl⟩
def sel (f : Nat → Bool) (k : Nat) : List Int := ((List.range k).filter f).map fun i : Nat => (i : Int)
theorem sel_succ (f : Nat → Bool) (k : Nat) : sel f (k + 1) = sel f k ++ (if f k then [(k : Int)] else []) := by
  unfold sel
  rw [List.range_succ, List.filter_append, List.map_append]
  congr 1
  simp only [List.filter_cons, List.filter_nil]
  split <;> rfl
theorem sel_len (f : Nat → Bool) (k : Nat) : (sel f k).length ≤ k := by
  unfold sel; rw [List.length_map]; exact Nat.le_trans (List.length_filter_le _ _) (by simp)
theorem ansList_spec {W : Nat} (x : AnsOk ba tb rb n nw W S h) (hW : W ≤ 64 * nw) (hnw : nw ≤ 100) (i : Nat) :
    CallsH Try.prog 31 #[.pointer (some ⟨ba, 0, none⟩), .int .i64 i] h (fun v h' => ∃ l : Sv, v = l.v ∧ Own h' h.size 1 l (ints (sel (fun e => hasS n W S i e) W)) ∧ Grow h h') := by
  apply F31
  unfold L31
  refine ⟨fun e => (by cases e), fun _ => nn_i (ldI_i x.cw ?_)⟩
  refine ⟨fun l y h1 => ∃ k : Nat, y = k ∧ k ≤ W ∧ Own h1 h.size 1 l (ints (sel (fun e => hasS n W S i e) k)) ∧ Grow h h1, fun _ y _ => (W - y).toNat, ⟨0, rfl, by omega, Own.nil _ _ _, Fr.refl _ _⟩, ?_⟩
  rintro l y h1 ⟨k, rfl, hk, o1, f1⟩
  refine ifb_dec (fun hlt => ?_) (fun hge => ?_)
  · have hwk : IntKind.i64.wrap ((k : Int) + 1) = ((k + 1 : Nat) : Int) := by rw [wrap64_id (by omega) (by omega)]; omega
    refine ⟨fun l' h5 => Own h5 h.size 1 l' (ints (sel (fun e => hasS n W S i e) (k + 1))) ∧ Grow h h5, ?_, fun l' h5 ⟨q1, q2⟩ => ⟨⟨k + 1, hwk, by omega, q1, q2⟩, by rw [hwk]; (try dsimp only); omega⟩⟩
    refine cal_of (ansHas_spec (x.grow f1) (by omega) (by omega) i k) ?_
    rintro _ _ ⟨rfl, rfl⟩
    refine ⟨_, rfl, fun hb => ?_, fun hb => ?_⟩
    · have hln : l.n ≤ W := by
        have h1 := o1.len
        have h2 := sel_len (fun e => hasS n W S i e) k
        simp [ints] at h1
        omega
      refine app1 (B := h.size) (sz := 1) rfl o1 rfl (by simp [Value.oneCell']) f1.size (by omega) (by omega) ?_
      intro s' h6 _ o6 f6 _
      refine ⟨?_, own_grown o1 f1 f6⟩
      rw [sel_succ, hb]
      simpa [ints] using o6
    · rw [sel_succ, hb]
      exact ⟨by simpa using o1, f1⟩
  · have : k = W := by omega
    subst this
    exact ⟨l, rfl, o1, f1⟩
end
end Go.Proofs.Ytkpahlkendlahaa.fl
namespace Go.Proofs.Ytkpahlkendlahaa.fl
open Go Go.Lf Go.Proofs.Ytkpahlkendlahaa
def gen (p : Pb) (e i : Nat) : Bool := decide ((e : Int) ∈ at_ p.g i)
def kil (p : Pb) (e i : Nat) : Bool := decide ((e : Int) ∈ at_ p.k i)
def lv (p : Pb) (e i : Nat) (b : Bool) : Bool := gen p e i || (b && !kil p e i)
theorem lv_mono {p : Pb} {e i : Nat} {b c : Bool} (h : b = true → c = true) (hb : lv p e i b = true) : lv p e i c = true := by
  cases b <;> cases c <;> simp_all [lv]
def anyS (p : Pb) (C : Nat → Bool) (i : Nat) : Bool := (at_ p.s i).any fun y => C y.toNat
def Pb.In (p : Pb) : Prop := ∀ i, ∀ y ∈ at_ p.s i, 0 ≤ y ∧ y < p.s.length
structure ClF (p : Pb) (e : Nat) (C : Nat → Bool) : Prop where
  ent : 0 < p.s.length → (e : Int) ∈ p.e → C 0 = true
  go : ∀ i, i < p.s.length → lv p e i (C i) = true → ∀ y ∈ at_ p.s i, C y.toNat = true
structure LsF (p : Pb) (e : Nat) (C : Nat → Bool) : Prop where
  cl : ClF p e C
  least : ∀ D, ClF p e D → ∀ i, i < p.s.length → C i = true → D i = true
theorem LsF.eq {p : Pb} {e : Nat} {C D : Nat → Bool} (x : LsF p e C) (y : LsF p e D) {i : Nat} (hi : i < p.s.length) : C i = D i :=
  Bool.eq_iff_iff.2 ⟨x.least D y.cl i hi, y.least C x.cl i hi⟩
structure ClB (p : Pb) (e : Nat) (C : Nat → Bool) : Prop where
  go : ∀ i, i < p.s.length → lv p e i (anyS p C i) = true → C i = true
structure LsB (p : Pb) (e : Nat) (C : Nat → Bool) : Prop where
  cl : ClB p e C
  least : ∀ D, ClB p e D → ∀ i, i < p.s.length → C i = true → D i = true
theorem LsB.eq {p : Pb} {e : Nat} {C D : Nat → Bool} (x : LsB p e C) (y : LsB p e D) {i : Nat} (hi : i < p.s.length) : C i = D i :=
  Bool.eq_iff_iff.2 ⟨x.least D y.cl i hi, y.least C x.cl i hi⟩
def cntS (n m : Nat) (S : Nat → Nat → Bool) : Nat := cnt (fun k => S (k / m) (k % m)) (n * m)
theorem div_rng {n m k : Nat} (hk : k < n * m) : k / m < n ∧ k % m < m := by
  have hm : 0 < m := by
    rcases Nat.eq_zero_or_pos m with e | e
    · subst e; omega
    · exact e
  exact ⟨(Nat.div_lt_iff_lt_mul hm).2 hk, Nat.mod_lt _ hm⟩
theorem cntS_le (n m : Nat) (S : Nat → Nat → Bool) : cntS n m S ≤ n * m := cnt_le _ _
theorem cntS_congr {n m : Nat} {S S' : Nat → Nat → Bool} (h : ∀ i e, i < n → e < m → S i e = S' i e) : cntS n m S = cntS n m S' :=
  cnt_congr _ fun _ hk => h _ _ (div_rng hk).1 (div_rng hk).2
theorem cntS_lt {n m : Nat} {S S' : Nat → Nat → Bool} (h : ∀ i e, i < n → e < m → S i e = true → S' i e = true) {i e : Nat} (hi : i < n) (he : e < m) (h1 : S i e = false) (h2 : S' i e = true) : cntS n m S < cntS n m S' := by
  have hm : 0 < m := by omega
  have e1 : (i * m + e) / m = i := by
    rw [Nat.add_comm, Nat.add_mul_div_right _ _ hm, Nat.div_eq_of_lt he, Nat.zero_add]
  have e2 : (i * m + e) % m = e := by
    rw [Nat.add_comm, Nat.add_mul_mod_self_right, Nat.mod_eq_of_lt he]
  refine cnt_lt (k := i * m + e) (by rw [e1, e2]; exact h1) (by rw [e1, e2]; exact h2) _ (fun k hk => h _ _ (div_rng hk).1 (div_rng hk).2) ?_
  have : (i + 1) * m ≤ n * m := Nat.mul_le_mul_right m hi
  rw [Nat.add_mul] at this
  omega
def bitH (h : Heap) (g e : Nat) : Bool := match cl h ⟨g, e / 64, none⟩ with
  | some (.int _ z) => z.toNat.testBit (e % 64)
  | _ => false
theorem WordsAt.bitH {h : Heap} {g nw : Nat} {f : Nat → Bool} (x : WordsAt h g nw f) {e : Nat} (he : e < 64 * nw) : bitH h g e = f e := by
  obtain ⟨w, c, hw⟩ := x.cell (k := e / 64) (by omega)
  unfold Go.Proofs.Ytkpahlkendlahaa.fl.bitH
  rw [c]
  have := hw (e % 64) (by omega)
  have e2 : 64 * (e / 64) + e % 64 = e := by omega
  rw [e2] at this
  rw [← this]
  rfl
def left (n nw : Nat) (rb : Nat → Nat) (h : Heap) : Nat := n * (64 * nw) - cntS n (64 * nw) fun i e => bitH h (rb i) e
theorem AnsOk.left {ba : Nat} {tb : Sv} {rb : Nat → Nat} {n nw : Nat} {W : Int} {S : Nat → Nat → Bool} {h : Heap} (x : AnsOk ba tb rb n nw W S h) : left n nw rb h = n * (64 * nw) - cntS n (64 * nw) S := by
  unfold Go.Proofs.Ytkpahlkendlahaa.fl.left
  rw [cntS_congr fun i e hi he => WordsAt.bitH (x.row i hi).2.2 he]
end Go.Proofs.Ytkpahlkendlahaa.fl
namespace Go.Proofs.Ytkpahlkendlahaa.fl
open Go Go.Lf Go.Proofs.Ytkpahlkendlahaa
structure Pb.Ok (p : Pb) (W : Nat) : Prop where
  n : p.s.length ≤ 1201
  w : p.w = W
  wl : W ≤ 4000
  s : p.In
  g : ∀ l ∈ p.g, ∀ y ∈ l, 0 ≤ y ∧ y < (W : Int)
  k : ∀ l ∈ p.k, ∀ y ∈ l, 0 ≤ y ∧ y < (W : Int)
  e : ∀ y ∈ p.e, 0 ≤ y ∧ y < (W : Int)
  gl : p.g.length ≤ p.s.length
  kl : p.k.length ≤ p.s.length
theorem fitsB_iff {n : Nat} {m : Int} {ls : List (List Int)} : fitsB n m ls = true ↔ ls.length ≤ n ∧ ∀ l ∈ ls, ∀ y ∈ l, 0 ≤ y ∧ y < m := by
  simp [fitsB, inB]
theorem Pb.chk_ok {p : Pb} (h : p.chk = 0) : ∃ W : Nat, p.Ok W := by
  unfold Pb.chk at h
  split at h
  · simp at h
  split at h
  · rename_i h1 h2
    have h1' : ¬ 1201 < p.s.length ∧ ¬ p.w < 0 ∧ ¬ 4000 < p.w := by simp [Pb.wide] at h1; omega
    obtain ⟨W, hW⟩ := Int.eq_ofNat_of_zero_le (show 0 ≤ p.w by omega)
    simp only [Pb.okB, Bool.and_eq_true] at h2
    obtain ⟨⟨⟨a1, a2⟩, a3⟩, a4⟩ := h2
    have b1 := fitsB_iff.1 a1
    have b2 := fitsB_iff.1 a2
    have b3 := fitsB_iff.1 a3
    have b4 := fitsB_iff.1 a4
    rw [hW] at b2 b3 b4
    refine ⟨W, by omega, hW, by omega, fun i y hy => ?_, b2.2, b3.2, b4.2 p.e (by simp), b2.1, b3.1⟩
    rcases Nat.lt_or_ge i p.s.length with hi | hi
    · rw [at_lt hi] at hy; exact b1.2 _ (List.getElem_mem hi) y hy
    · rw [at_ge hi] at hy; cases hy
  · simp at h
theorem ListsAt.getg {h h' : Heap} {s : Sv} {ls : List (List Int)} (x : ListsAt h s ls) (g : Grow h h') {i : Nat} (hi : i < ls.length) {K : Sv → Prop} (k : ∀ t, IntsAt h t ls[i] → K t) : ixS s i fun q => ldS h' (q.add ((i : Int).toNat * 1)) K := by
  obtain ⟨p, e, t, c, y⟩ := x.at_ i hi
  exact ⟨p, e, by omega, by rw [x.len]; omega, t, by rw [Int.toNat_natCast]; exact g.clk c (fun h => h), k t y⟩
section
variable {h : Heap} {a0 : Sv} {a1 : Int} {a2 a3 a4 : Sv} {p : Pb}
def SoundF (p : Pb) (m : Nat) (S : Nat → Nat → Bool) : Prop := ∀ e, e < m → ∀ D, ClF p e D → ∀ i, i < p.s.length → S i e = true → D i = true
def EntF (p : Pb) (m : Nat) (S : Nat → Nat → Bool) : Prop := ∀ e, e < m → 0 < p.s.length → (e : Int) ∈ p.e → S 0 e = true
def GoF (p : Pb) (m : Nat) (S : Nat → Nat → Bool) (i : Nat) : Prop := ∀ e, e < m → lv p e i (S i e) = true → ∀ y ∈ at_ p.s i, S y.toNat e = true
def LeS (n m : Nat) (S S' : Nat → Nat → Bool) : Prop := ∀ i e, i < n → e < m → S i e = true → S' i e = true
def EqS (n m : Nat) (S S' : Nat → Nat → Bool) : Prop := ∀ i e, i < n → e < m → S i e = S' i e
def NewS (n m : Nat) (S S' : Nat → Nat → Bool) : Prop := ∃ i e, i < n ∧ e < m ∧ S i e = false ∧ S' i e = true
theorem forward_spec (x : PbAt h a0 a1 a2 a3 a4 p) (B : p.Bd) :
    CallsH Try.prog 30 #[pbV a0 a1 a2 a3 a4] h (fun v h' => Grow h h' ∧ (p.chk ≠ 0 → v = .tuple #[.pointer none, .int .i64 p.chk]) ∧
      (p.chk = 0 → ∃ (W : Nat) (ba : Nat) (tb : Sv) (rb : Nat → Nat) (S : Nat → Nat → Bool), v = .tuple #[.pointer (some ⟨ba, 0, none⟩), .int .i64 0] ∧ p.Ok W ∧ AnsOk ba tb rb p.s.length ((W + 63) / 64) W S h' ∧ ∀ e, e < 64 * ((W + 63) / 64) → LsF p e fun i => S i e)) := by
  apply F30
  unfold L30
  rintro p1 h1 rfl rfl
  have f1 : Grow h (h.push (.cells (pbC a0 a1 a2 a3 a4) 88)) := Fr.push _ _ _
  have kb := blk.new h (pbC a0 a1 a2 a3 a4) 88
  have e1 : h.push (.cells #[.slice a0.a a0.n a0.c, .int .i64 a1, .slice a2.a a2.n a2.c, .slice a3.a a3.n a3.c, .slice a4.a a4.n a4.c] 88) = h.push (.cells (pbC a0 a1 a2 a3 a4) 88) := rfl
  rw [e1]
  have hs1 : (h.push (.cells (pbC a0 a1 a2 a3 a4) 88)).size = h.size + 1 := by simp
  generalize h.push (.cells (pbC a0 a1 a2 a3 a4) 88) = h1 at *
  refine ⟨a0, a1, a2, a3, a4, by rw [kb.cl]; rfl, by rw [add_plain, kb.cl]; rfl, by rw [add_plain, kb.cl]; rfl, by rw [add_plain, kb.cl]; rfl, by rw [add_plain, kb.cl]; rfl, ?_⟩
  refine cal_of (check_spec (x.grow f1) B) ?_
  rintro _ h2 ⟨rfl, f2⟩
  refine ⟨_, rfl, ?_⟩
  have f12 := f1.trans f2
  have kb2 := f2.blk kb (fun h => h)
  refine ifb_iff (q := p.chk ≠ 0) (by simp) (fun hne => ⟨f12, fun _ => rfl, fun e => absurd e hne⟩) (fun heq => ?_)
  have heq : p.chk = 0 := Classical.not_not.1 heq
  obtain ⟨W, ok⟩ := Pb.chk_ok heq
  refine ⟨a0, a1, a2, a3, a4, by rw [kb2.cl]; rfl, by rw [add_plain, kb2.cl]; rfl, by rw [add_plain, kb2.cl]; rfl, by rw [add_plain, kb2.cl]; rfl, by rw [add_plain, kb2.cl]; rfl, ?_⟩
  refine cal_of (empty_spec (x.grow f12) ok.w ok.wl B.s) ?_
  rintro _ h3 ⟨ba, tb, rb, rfl, A3, f3, hba⟩
  refine ⟨_, rfl, ?_⟩
  have hW := ok.wl
  have hnw : W ≤ 64 * ((W + 63) / 64) := by omega
  have hnw2 : (W + 63) / 64 ≤ 1000000 := by omega
  generalize hnwe : (W + 63) / 64 = nw at *
  have hsn := x.s.len
  have hn := ok.n
  have f13 := f12.trans f3
  have kb3 := f3.blk kb2 (fun h => h)
  have hba1 : h.size < ba := by have := f2.size; omega
  have keep : ∀ {ha hb : Heap} {r : Nat}, Grow h ha → blk ha h.size (pbC a0 a1 a2 a3 a4) → Fr (fun b => b = rb r) ha hb → r < p.s.length → Grow h hb ∧ blk hb h.size (pbC a0 a1 a2 a3 a4) := by
    intro ha hb r g k f hr
    have := (A3.row r hr).1
    exact ⟨g.trans' f fun i hi e => by omega, f.blk k (by omega)⟩
  refine ⟨fun h5 => ∃ S, AnsOk ba tb rb p.s.length nw W S h5 ∧ SoundF p (64 * nw) S ∧ EntF p (64 * nw) S ∧ Grow h h5 ∧ blk h5 h.size (pbC a0 a1 a2 a3 a4), ?_, ?_⟩
  · refine nn_i (ldS_i (s := tb) (by rw [add_plain]; exact A3.ct) ?_)
    rw [A3.len]
    refine ifb_dec (fun hpos => ?_) (fun hz => ⟨_, A3, fun _ _ _ _ _ _ h => (by cases h), fun _ _ h => (by omega), f13, kb3⟩)
    have hpos : 0 < p.s.length := by omega
    refine nn_i (ldS_i (s := tb) (by rw [add_plain]; exact A3.ct) ?_)
    obtain ⟨g, eg, cg⟩ := A3.cell hpos
    refine ixS_i eg (by omega) (by rw [A3.len]; omega) ?_
    refine ldS_i (s := ⟨some ⟨rb 0, 0, none⟩, nw, nw⟩) cg ?_
    refine ldS_i (s := a4) (by rw [add_plain, kb3.cl]; rfl) ?_
    have hr := (A3.row 0 hpos).1
    refine cal_of (put_spec x.e f13 (by omega) (A3.row 0 hpos).2.2 (fun y hy => ?_) hnw2 B.e) ?_
    · show 0 ≤ y ∧ y < ((64 * nw : Nat) : Int)
      have := ok.e y hy; omega
    rintro _ h4 ⟨W4, f4⟩
    have A4 := A3.set hpos f4 W4
    obtain ⟨g4, kb4⟩ := keep f13 kb3 f4 hpos
    refine ⟨_, A4, fun e he D hD i hi hS => ?_, fun e he h0 hin => by simp [hin], g4, kb4⟩
    by_cases ei : i = 0
    · subst ei
      simp at hS
      exact hD.ent hpos hS
    · simp [ei] at hS
  rintro h5 ⟨S5, A5, sd5, en5, g5, kb5⟩
  refine ⟨fun b h6 => ∃ S, AnsOk ba tb rb p.s.length nw W S h6 ∧ SoundF p (64 * nw) S ∧ EntF p (64 * nw) S ∧ Grow h h6 ∧ blk h6 h.size (pbC a0 a1 a2 a3 a4) ∧ (b = false → ∀ i, i < p.s.length → GoF p (64 * nw) S i),
    fun b h6 => 2 * left p.s.length nw rb h6 + (if b then 1 else 0), ⟨S5, A5, sd5, en5, g5, kb5, fun e => (by cases e)⟩, ?_⟩
  rintro b h6 ⟨S0, A6, sd6, en6, g6, kb6, cl6⟩
  refine ⟨fun eb => ?_, fun eb => ?_⟩
  · subst eb
    refine ldS_i (s := a0) (by rw [kb6.cl]; rfl) ?_
    refine ⟨fun b y h7 => ∃ (i : Nat) (S : Nat → Nat → Bool), y = i ∧ i ≤ p.s.length ∧ AnsOk ba tb rb p.s.length nw W S h7 ∧ SoundF p (64 * nw) S ∧ EntF p (64 * nw) S ∧ Grow h h7 ∧ blk h7 h.size (pbC a0 a1 a2 a3 a4) ∧
        LeS p.s.length (64 * nw) S0 S ∧ (b = true → NewS p.s.length (64 * nw) S0 S) ∧ (b = false → EqS p.s.length (64 * nw) S0 S ∧ ∀ j, j < i → GoF p (64 * nw) S j),
      fun _ y _ => (p.s.length - y).toNat, ⟨0, S0, rfl, by omega, A6, sd6, en6, g6, kb6, fun _ _ _ _ h => h, fun e => (by cases e), fun _ => ⟨fun _ _ _ _ => rfl, fun _ h => (by omega)⟩⟩, ?_⟩
    rintro b y h7 ⟨i, S1, rfl, hi, A7, sd7, en7, g7, kb7, le7, nw7, cl7⟩
    refine ifb_dec (fun hlt => ?_) (fun hge => ?_)
    · have hil : i < p.s.length := by omega
      have hwi : IntKind.i64.wrap ((i : Int) + 1) = ((i + 1 : Nat) : Int) := by rw [wrap64_id (by omega) (by omega)]; omega
      refine ListsAt.getg x.s g7 hil fun t yt => ?_
      refine ⟨a0, a1, a2, a3, a4, by rw [kb7.cl]; rfl, by rw [add_plain, kb7.cl]; rfl, by rw [add_plain, kb7.cl]; rfl, by rw [add_plain, kb7.cl]; rfl, by rw [add_plain, kb7.cl]; rfl, ?_⟩
      refine nn_i (ldS_i (s := tb) (by rw [add_plain]; exact A7.ct) (A7.get hil ?_))
      have hg : ∀ l ∈ p.g, ∀ y ∈ l, 0 ≤ y ∧ y < ((64 * nw : Nat) : Int) := fun l hl y hy => by have := ok.g l hl y hy; omega
      have hk : ∀ l ∈ p.k, ∀ y ∈ l, 0 ≤ y ∧ y < ((64 * nw : Nat) : Int) := fun l hl y hy => by have := ok.k l hl y hy; omega
      refine cal_of (through_spec x B g7 (A7.row i hil).2.2 hg hk hnw2 i) ?_
      rintro _ h8 ⟨g', rfl, hg', W8, f8⟩
      refine ⟨⟨some ⟨g', 0, none⟩, nw, nw⟩, rfl, ?_⟩
      have hts : at_ p.s i = p.s[i] := at_lt hil
      have hin : ∀ y ∈ p.s[i], 0 ≤ y ∧ y < p.s.length := by rw [← hts]; exact ok.s i
      have hlen := B.s1 _ (List.getElem_mem hil)
      have htn := yt.len
      refine ⟨fun b' z h9 => ∃ (k : Nat) (S : Nat → Nat → Bool), z = k ∧ k ≤ p.s[i].length ∧ AnsOk ba tb rb p.s.length nw W S h9 ∧ SoundF p (64 * nw) S ∧ EntF p (64 * nw) S ∧ Grow h h9 ∧ blk h9 h.size (pbC a0 a1 a2 a3 a4) ∧
          WordsAt h9 g' nw (fun e => lv p e i (S1 i e)) ∧ LeS p.s.length (64 * nw) S1 S ∧ (b' = true → NewS p.s.length (64 * nw) S0 S) ∧
          (b' = false → b = false ∧ EqS p.s.length (64 * nw) S0 S ∧ ∀ y ∈ p.s[i].take k, ∀ e, e < 64 * nw → lv p e i (S1 i e) = true → S y.toNat e = true),
        fun _ z _ => (p.s[i].length - z).toNat, ⟨0, S1, rfl, by omega, A7.grow f8, sd7, en7, g7.trans f8, f8.blk kb7 (fun h => h), W8, fun _ _ _ _ h => h, nw7, fun e => ⟨e, (cl7 e).1, fun y hy => (by simp at hy)⟩⟩, ?_⟩
      rintro b' z h9 ⟨k, S2, rfl, hk9, A9, sd9, en9, g9, kb9, W9, le9, nw9, cl9⟩
      refine ifb_dec (fun hlt => ?_) (fun hge => ?_)
      · have hkl : k < p.s[i].length := by omega
        have hwk : IntKind.i64.wrap ((k : Int) + 1) = ((k + 1 : Nat) : Int) := by rw [wrap64_id (by omega) (by omega)]; omega
        refine (yt.keep g9 fun _ _ h => h).get hkl ?_
        obtain ⟨to, eto⟩ := Int.eq_ofNat_of_zero_le (hin _ (List.getElem_mem hkl)).1
        have hto := (hin _ (List.getElem_mem hkl)).2
        have hmem : ((to : Nat) : Int) ∈ at_ p.s i := by rw [hts, ← eto]; exact List.getElem_mem hkl
        rw [eto] at hto ⊢
        have hto : to < p.s.length := by omega
        refine nn_i (ldS_i (s := tb) (by rw [add_plain]; exact A9.ct) (A9.get hto ?_))
        have hrow := (A7.row to hto).2.2.lt
        refine cal_of (join_spec (A9.row to hto).2.2 W9 (by omega) hnw2) ?_
        rintro _ h10 ⟨nb, rfl, W10, f10, nb1, nb2⟩
        refine ⟨nb, rfl, ⟨k + 1, _, hwk, by omega, A9.set hto f10 W10, fun e he D hD j hj hS => ?_, fun e he h0 hen => ?_, (keep g9 kb9 f10 hto).1, (keep g9 kb9 f10 hto).2,
          W9.frame f10 (by omega), fun j e hj he hS => ?_, fun hb => ?_, fun hb => ?_⟩, by rw [hwk]; (try dsimp only); omega⟩
        · by_cases ej : j = to
          · subst ej
            simp only [if_true, Bool.or_eq_true] at hS
            rcases hS with hS | hS
            · exact sd9 e he D hD j hj hS
            · have := hD.go i hil (lv_mono (sd7 e he D hD i hil) hS) _ hmem
              simpa using this
          · simp only [ej, if_false] at hS
            exact sd9 e he D hD j hj hS
        · have := en9 e he h0 hen
          by_cases ej : 0 = to
          · subst ej; simp [this]
          · simp [ej, this]
        · have := le9 j e hj he hS
          by_cases ej : j = to
          · subst ej; simp [this]
          · simp [ej, this]
        · rcases Bool.or_eq_true_iff.1 hb with hb | hb
          · obtain ⟨e, he, o1, o2⟩ := nb1 hb
            refine ⟨to, e, hto, he, ?_, by simp [o1]⟩
            cases h0 : S0 to e with
            | false => rfl
            | true => rw [le9 to e hto he (le7 to e hto he h0)] at o2; cases o2
          · obtain ⟨j, e, hj, he, q1, q2⟩ := nw9 hb
            refine ⟨j, e, hj, he, q1, ?_⟩
            by_cases ej : j = to
            · subst ej; simp [q2]
            · simp [ej, q2]
        · obtain ⟨hb1, hb2⟩ := Bool.or_eq_false_iff.1 hb
          obtain ⟨c1, c2, c3⟩ := cl9 hb2
          have same : ∀ j e, e < 64 * nw → (if j = to then fun e => S2 to e || lv p e i (S1 i e) else S2 j) e = S2 j e := by
            intro j e he
            by_cases ej : j = to
            · subst ej
              simp only [if_true]
              cases hl : lv p e i (S1 i e) with
              | false => simp
              | true => simp [nb2 hb1 e he hl]
            · simp only [ej, if_false]
          refine ⟨c1, fun j e hj he => (c2 j e hj he).trans (same j e he).symm, fun y hy e he hl => ?_⟩
          rw [same _ _ he]
          rw [List.take_succ_eq_append_getElem hkl] at hy
          rcases List.mem_append.1 hy with hy | hy
          · exact c3 y hy e he hl
          · simp only [List.mem_singleton] at hy
            rw [hy, eto, Int.toNat_natCast]
            exact nb2 hb1 e he hl
      · have hk : k = p.s[i].length := by omega
        subst hk
        rw [List.take_length] at cl9
        refine ⟨⟨i + 1, S2, hwi, by omega, A9, sd9, en9, g9, kb9, fun j e hj he hS => le9 j e hj he (le7 j e hj he hS), nw9, fun hb => ?_⟩, by rw [hwi]; (try dsimp only); omega⟩
        obtain ⟨c1, c2, c3⟩ := cl9 hb
        obtain ⟨d1, d2⟩ := cl7 c1
        have e12 : ∀ j e, j < p.s.length → e < 64 * nw → S1 j e = S2 j e := fun j e hj he => (d1 j e hj he).symm.trans (c2 j e hj he)
        refine ⟨c2, fun j hj => ?_⟩
        by_cases ej : j = i
        · subst ej
          intro e he hl y hy
          rw [hts] at hy
          refine c3 y hy e he ?_
          rw [e12 j e hil he]
          exact hl
        · intro e he hl y hy
          have hy' := ok.s j y hy
          rw [← e12 _ _ (by omega) he]
          refine d2 j (by omega) e he ?_ y hy
          rw [e12 j e (by omega) he]
          exact hl
    · have hie : i = p.s.length := by omega
      subst hie
      refine ⟨⟨S1, A7, sd7, en7, g7, kb7, fun hb => (cl7 hb).2⟩, ?_⟩
      dsimp only
      rw [A7.left, A6.left]
      have b0 := cntS_le p.s.length (64 * nw) S0
      have b1 := cntS_le p.s.length (64 * nw) S1
      cases b with
      | true =>
        obtain ⟨j, e, hj, he, q1, q2⟩ := nw7 rfl
        have := cntS_lt le7 hj he q1 q2
        simp only [if_true]
        omega
      | false =>
        have := cntS_congr (cl7 rfl).1
        simp only [if_true]
        rw [this]
        simp
  · subst eb
    refine ⟨g6, fun hne => absurd heq hne, fun _ => ⟨W, ba, tb, rb, S0, rfl, ok, by rw [hnwe]; exact A6, fun e he => ?_⟩⟩
    rw [hnwe] at he
    exact ⟨⟨en6 e he, fun i hi => cl6 rfl i hi e he⟩, sd6 e he⟩
end
end Go.Proofs.Ytkpahlkendlahaa.fl
namespace Go.Proofs.Ytkpahlkendlahaa
open Go Go.Lf
set_option linter.unusedVariables false
def ClC (l:List Iv) (hp:Nat→Bool) (at_:Int) (C:Nat→Bool):Prop:=∀i,i<l.length→((i:Int)=at_∨C i=true)→∀y∈succL l i,hp y.toNat=true→C y.toNat=true
structure LsC (l:List Iv) (hp:Nat→Bool) (at_:Int) (C:Nat→Bool):Prop where
 cl:ClC l hp at_ C
 ls:∀D,ClC l hp at_ D→∀i,i<l.length→C i=true→D i=true
theorem LsC.eq {l:List Iv} {hp:Nat→Bool} {at_:Int} {C D:Nat→Bool} (x:LsC l hp at_ C) (y:LsC l hp at_ D) {i:Nat} (hi:i<l.length):C i=D i:=
 Bool.eq_iff_iff.2 ⟨x.ls D y.cl i hi,y.ls C x.cl i hi⟩
theorem sel_mem {f:Nat→Bool} {m k:Nat}:(k:Int)∈fl.sel f m↔k<m∧f k=true:=by
 unfold fl.sel
 simp only[List.mem_map,List.mem_filter,List.mem_range]
 constructor
 ·rintro ⟨a,h,e⟩
  obtain rfl:a=k:=by omega
  exact h
 ·intro h
  exact⟨k,h,rfl⟩
def gP (L:List Lnv) (i k:Nat):Bool:=match L[k]? with
 | some v=>v.at_ == (i:Int)
 | none=>false
def hP (pth:Pth) (L:List Lnv) (k i:Nat):Bool:=match L[k]? with
 | some v=>hasP pth v i
 | none=>false
theorem gP_get {L:List Lnv} {i k:Nat} (hk:k<L.length):gP L i k=(L[k].at_ == (i:Int)):=by unfold gP;rw[List.getElem?_eq_getElem hk]
theorem hP_get {pth:Pth} {L:List Lnv} {i k:Nat} (hk:k<L.length):hP pth L k i=hasP pth L[k] i:=by unfold hP;rw[List.getElem?_eq_getElem hk]
def probOf (pth:Pth) (l:List Iv) (L:List Lnv):fl.Pb:=
 ⟨(List.range l.length).map (succL l),L.length,(List.range l.length).map fun i=>fl.sel (gP L i) L.length,(List.range l.length).map fun i=>fl.sel (fun k=>!hP pth L k i) L.length,[]⟩
theorem at_map {f:Nat→List Int} {n i:Nat} (hi:i<n):fl.at_ ((List.range n).map f) i=f i:=by
 rw[fl.at_lt (by simpa using hi)];simp
theorem lsC_of {pth:Pth} {l:List Iv} {L:List Lnv} {k:Nat} {S:Nat→Bool} (hk:k<L.length) (hin:∀i,i<l.length→∀y∈succL l i,0≤y∧y<l.length) (x:fl.LsF (probOf pth l L) k S) :
  LsC l (hP pth L k) L[k].at_ (fun i=>S i && hP pth L k i):=by
 have hn:(probOf pth l L).s.length=l.length:=by simp[probOf]
 have hs:∀ {i},i<l.length→fl.at_ (probOf pth l L).s i=succL l i:=fun hi=>at_map hi
 have hlv:∀ {i} (b:Bool),i<l.length→(fl.lv (probOf pth l L) k i b=true↔(L[k].at_=(i:Int)∨b=true∧hP pth L k i=true)):=fun {i} b hi=>by
  unfold fl.lv fl.gen fl.kil
  rw[show (probOf pth l L).g=(List.range l.length).map fun i=>fl.sel (gP L i) L.length from rfl,show (probOf pth l L).k=(List.range l.length).map fun i=>fl.sel (fun k=>!hP pth L k i) L.length from rfl,at_map hi,at_map hi]
  simp only[Bool.or_eq_true,Bool.and_eq_true,decide_eq_true_eq,Bool.not_eq_true',decide_eq_false_iff_not]
  rw[sel_mem,sel_mem,gP_get hk]
  simp[hk]
 refine⟨fun i hi hc y hy hp=>?_,fun D hD i hi hc=>?_⟩
 ·simp only[Bool.and_eq_true] at hc ⊢
  refine⟨x.cl.go i (by omega) ((hlv _ hi).2 (hc.imp (fun e=>e.symm) id)) y (by rw[hs hi];exact hy),hp⟩
 ·simp only[Bool.and_eq_true] at hc
  have key:=x.least (fun j=>!hP pth L k j || D j) ⟨(fun _ h=>by cases h),fun j hj hl y hy=>?_⟩ i (by omega) hc.1
  ·simp only[Bool.or_eq_true,Bool.not_eq_true'] at key
   rcases key with h|h
   ·rw[hc.2] at h;cases h
   ·exact h
  ·have hj:j<l.length:=by omega
   rw[hs hj] at hy
   simp only[Bool.or_eq_true,Bool.not_eq_true']
   by_cases hpy:hP pth L k y.toNat=true
   ·refine .inr (hD j hj ?_ y hy hpy)
    rcases (hlv _ hj).1 hl with h|⟨h,h2⟩
    ·exact .inl h.symm
    ·simp only[Bool.or_eq_true,Bool.not_eq_true'] at h
     rcases h with h|h
     ·rw[h2] at h;cases h
     ·exact .inr h
   ·exact .inl (by simpa using hpy)
def okLn (pth:Pth) (n:Nat) (v:Lnv):Prop:=0≤v.at_∧v.at_<n∧Srt (pth v.pt)
section
variable {h:Heap} {b:Nat} {nm:ByteArray} {pa:Int} {lo co:Sv} {pth:Pth} {Is:List Ins}
structure GoodB (h:Heap) (b:Nat) (nm:ByteArray) (pa:Int) (lo co:Sv) (pth:Pth) (Is:List Ins):Prop where
 B:blk h b (bvs nm pa lo co)
 X:BdAt h pth Is lo co
 pa:0≤pa∧pa<lo.n
 pos:0<Is.length
 few:Is.length≤1000
 ok:∀i (hi:i<Is.length),okI pth lo.n Is.length i Is[i]
theorem GoodB.grow {h':Heap} (x:GoodB h b nm pa lo co pth Is) (g:Grow h h'):GoodB h' b nm pa lo co pth Is:=⟨g.blk x.B fun h=>h,x.X.grow g,x.pa,x.pos,x.few,x.ok⟩
theorem GoodB.n (x:GoodB h b nm pa lo co pth Is):co.n=Is.length:=by have:=x.X.code.len;simpa using this
theorem GoodB.cc (x:GoodB h b nm pa lo co pth Is):cl h ((⟨b,0,none⟩:Addr).add 3)=some (.slice co.a co.n co.c):=by rw[add_plain,x.B.cl];rfl
theorem GoodB.suc (x:GoodB h b nm pa lo co pth Is):∀i,i<(Is.map (·.v)).length→∀y∈succL (Is.map (·.v)) i,0≤y∧y<(Is.map (·.v)).length:=by
 intro i hi y hy
 have hi':i<Is.length:=by simpa using hi
 unfold succL at hy
 rw[List.getElem?_eq_getElem hi] at hy
 simp only[List.getElem_map] at hy
 have:=succ_ok (x.ok i hi') y hy
 simpa using this
theorem fits_spec (x:GoodB h b nm pa lo co pth Is) {s:Sv} {L:List Lnv} (y:LnsAt h pth L s) (hL:L.length≤200):CallsH Try.prog 27 #[.pointer (some ⟨b,0,none⟩),.slice s.a s.n s.c] h (fun v h'=>Grow h h'∧∃e:Int,v=.int .i64 e∧((e=0∧∀v∈L,okLn pth Is.length v)∨(e=14∧∃v∈L,¬okLn pth Is.length v))):=by
 apply F27
 unfold L27
 have hn:=y.rows.len
 have hcn:=x.n
 refine cal_of (check_ok x.B x.X x.pa x.pos x.few x.ok) ?_
 rintro _ h1 ⟨f1,rfl⟩
 refine⟨_,rfl,fun e=>by simp at e,fun _=>⟨fun e=>by simp at e;omega,fun _=>?_⟩⟩
 refine⟨fun i hh=>∃k:Nat,i=k∧k≤L.length∧Grow h1 hh∧∀v∈L.take k,okLn pth Is.length v,fun i _=>L.length - i.toNat,⟨0,rfl,Nat.zero_le _,Fr.refl _ _,by simp⟩,?_⟩
 rintro _ h2 ⟨k,rfl,hk,f2,hall⟩
 refine ifb_iff (q:=k<L.length) (by rw[hn];simp) (fun hlt=>?_) (fun hge=>?_)
 rotate_left
 ·obtain rfl:k=L.length:=by omega
  rw[List.take_length] at hall
  exact⟨f1.trans f2,0,rfl,.inl ⟨rfl,hall⟩⟩
 have g2:=f1.trans f2
 obtain⟨p,ep,hk',c⟩:=(y.grow g2).rows.at_ k hlt
 have hpt:=y.pt _ (List.getElem_mem hk')
 refine⟨p,ep,by omega,by rw[hn];omega,?_⟩
 rw[Int.toNat_natCast]
 have hmem:=List.getElem_mem hk'
 have htk:L.take (k+1)=L.take k++[L[k]]:=List.take_succ_eq_append_getElem hlt
 generalize L[k]=v at *
 refine⟨v.at_,v.l,v.s,v.mu,v.ow,v.pt,c.at0,c 1 _ rfl,c 2 _ rfl,c 3 _ rfl,c 4 _ rfl,c 5 _ rfl,?_⟩
 refine mineL (v:=v) fun h4 b4 f4=>?_
 have g4:=g2.trans f4
 refine⟨fun c hh=>Grow h4 hh∧(c=false↔okLn pth Is.length v),?_,?_⟩
 ·refine ldI_i (x:=v.at_) (by rw[b4.cl];rfl) ?_
  refine ifb_dec (fun e=>⟨Fr.refl _ _,by simp[okLn];omega⟩) (fun e=>?_)
  refine⟨_,rfl,ldS_i (s:=co) (x.grow g4).cc (ldI_i (x:=v.at_) (by rw[b4.cl];rfl) ?_)⟩
  refine ifb_dec (fun e2=>⟨Fr.refl _ _,by simp[okLn];omega⟩) (fun e2=>?_)
  refine ldS_i (s:=v.pt) (by rw[add_plain,b4.cl];rfl) ?_
  refine cal_of (sorted_spec (PAt.grow hpt g4).ints hpt.few) ?_
  rintro _ _ ⟨rfl,c,rfl,hc⟩
  refine⟨_,rfl,Fr.refl _ _,?_⟩
  unfold okLn
  rw[←hc]
  cases c
  ·simp
  ·simp;omega
 rintro c h6 ⟨f6,hc⟩
 refine⟨fun e=>⟨g4.trans f6,14,rfl,.inr ⟨rfl,v,hmem,fun ok=>by rw[hc.2 ok] at e;cases e⟩⟩,fun e=>?_⟩
 rw[wrap_succ hlt (by omega)]
 refine⟨⟨k+1,rfl,hlt,f2.trans (f4.trans f6),fun w hw=>?_⟩,by simp;omega⟩
 rw[htk] at hw
 rcases List.mem_append.1 hw with h|h
 ·exact hall w h
 ·simp at h;subst h;exact hc.1 e
end
end Go.Proofs.Ytkpahlkendlahaa
namespace Go.Proofs.Ytkpahlkendlahaa
open Go Go.Lf
set_option linter.unusedVariables false
theorem RowO.fr {h h':Heap} {a:Option Addr} {xs:List Value} {T:Nat→Prop} (x:RowO h a xs) (f:Fr T h h') (hT:∀p,a=some p→¬T p.block):RowO h' a xs:=by
 cases a with
 | none=>exact x
 | some p=>exact fun j v hv=>f.clk (x j v hv) (by rw[add_block];exact hT p rfl)
theorem row_new {E:TypeId} (h:Heap) (cs:Array Value):RowO (h.push (.cells cs E)) (some ⟨h.size,0,none⟩) cs.toList:=fun j v hv=>by
 rw[add_plain,(blk.new h cs E).cl];simpa using hv
theorem lists_own {h:Heap} {B:Nat} {s:Sv} {ts:List (Sv×List Int)} (o:Own h B 1 s (ts.map fun t=>t.1.v)) (e:∀t∈ts,IntsAt h t.1 t.2):ListsAt h s (ts.map fun t=>t.2):=by
 have hn:s.n=ts.length:=by have:=o.len;simp at this;omega
 refine⟨by rw[hn];simp,fun i hi=>?_⟩
 have hi':i<ts.length:=by simpa using hi
 have hr:=o.row
 rcases o.mem with⟨_,e,_⟩|⟨g,cur,e',_⟩
 ·omega
 ·rw[e'] at hr
  refine⟨_,e',ts[i].1,?_,by simpa using e _ (List.getElem_mem hi')⟩
  rw[Nat.mul_one]
  exact hr i _ (by simp[hi'])
structure IJs (h18:Heap) (B:Nat) (s2 s3:Sv) (m2 m3:List Value) (gv kv:Value) (b3 b4 b8 b9:Bool) (s72 s73 s77 s78:Sv) (hz:Heap):Prop where
 g:Fr (fun b=>s2.own b∨s3.own b) h18 hz
 i3:b3=true→b4=false→s72.n=1∧RowO hz s72.a [gv]
 i8:b8=true→b9=false→s77.n=1∧RowO hz s77.a [kv]∧∀b,s77.own b→h18.size≤b
 n2:b4=false→Own hz B 1 s2 m2
 p2:b4=true→Own hz B 1 s73 (m2++[gv])∧∀b,s73.own b→s2.own b∨h18.size≤b
 n3:b9=false→Own hz B 1 s3 m3
 p3:b9=true→Own hz B 1 s78 (m3++[kv])∧(∀b,s78.own b→s3.own b∨h18.size≤b)∧∀b,s78.own b→¬s73.own b
 c:b9=true→b4=true∧b8=true
 c2:b4=true→b3=true
section
variable {h18:Heap} {B:Nat} {s2 s3:Sv} {m2 m3:List Value} {gv kv:Value} {b3 b4 b8 b9:Bool} {s72 s73 s77 s78:Sv} {hz:Heap}
theorem IJs.start (o2:Own h18 B 1 s2 m2) (o3:Own h18 B 1 s3 m3):IJs h18 B s2 s3 m2 m3 gv kv false false false false s72 s73 s77 s78 h18:=
 ⟨Fr.refl _ _,fun e=>(by cases e),fun e=>(by cases e),fun _=>o2,fun e=>(by cases e),fun _=>o3,fun e=>(by cases e),fun e=>(by cases e),fun e=>(by cases e)⟩
theorem IJs.op3 {E:TypeId} (X:IJs h18 B s2 s3 m2 m3 gv kv b3 b4 b8 b9 s72 s73 s77 s78 hz) (e:b3=false):IJs h18 B s2 s3 m2 m3 gv kv true b4 b8 b9 ⟨some ⟨hz.size,0,none⟩,1,1⟩ s73 s77 s78 (hz.push (.cells #[gv] E)):=by
 have e4:b4=false:=by
  cases hb:b4
  ·rfl
  ·have:=X.c2 hb;rw[e] at this;cases this
 have e9:b9=false:=by
  cases hb:b9
  ·rfl
  ·have:=(X.c hb).1;rw[e4] at this;cases this
 subst e4;subst e9
 have g:=Fr.push (fun _=>False) hz (.cells #[gv] E)
 exact⟨X.g.trans (g.mono fun _ _ h=>False.elim h),fun _ _=>⟨rfl,row_new hz #[gv]⟩,fun h h2=>⟨(X.i8 h h2).1,RowO.fr (X.i8 h h2).2.1 g fun _ _ h=>h,(X.i8 h h2).2.2⟩,fun _=>(X.n2 rfl).frame g fun _ _ h=>h,fun e=>(by cases e),fun _=>(X.n3 rfl).frame g fun _ _ h=>h,fun e=>(by cases e),fun e=>(by cases e),fun e=>(by cases e)⟩
theorem IJs.op8 {E:TypeId} (X:IJs h18 B s2 s3 m2 m3 gv kv b3 b4 b8 b9 s72 s73 s77 s78 hz) (e:b8=false):IJs h18 B s2 s3 m2 m3 gv kv b3 b4 true b9 s72 s73 ⟨some ⟨hz.size,0,none⟩,1,1⟩ s78 (hz.push (.cells #[kv] E)):=by
 have e9:b9=false:=by
  cases hb:b9
  ·rfl
  ·have:=(X.c hb).2;rw[e] at this;cases this
 subst e9
 have g:=Fr.push (fun _=>False) hz (.cells #[kv] E)
 refine⟨X.g.trans (g.mono fun _ _ h=>False.elim h),fun h h2=>⟨(X.i3 h h2).1,RowO.fr (X.i3 h h2).2 g fun _ _ h=>h⟩,fun _ _=>⟨rfl,row_new hz #[kv],fun b hb=>?_⟩,fun h=>(X.n2 h).frame g fun _ _ h=>h,fun h=>⟨(X.p2 h).1.frame g fun _ _ h=>h,(X.p2 h).2⟩,fun _=>(X.n3 rfl).frame g fun _ _ h=>h,fun e=>(by cases e),fun e=>(by cases e),X.c2⟩
 obtain⟨a,ea,eb⟩:=hb
 simp only[Option.some.injEq] at ea
 subst ea;subst eb
 exact X.g.size
theorem IJs.op4 {E:TypeId} {z:Array Value} {K:Sv→Heap→Prop} (X:IJs h18 B s2 s3 m2 m3 gv kv b3 b4 b8 b9 s72 s73 s77 s78 hz) (e:b4=false) (e3:b3=true) (hz1:z.size=1) (hg:gv.oneCell'=true) (hB:B≤h18.size) (hn:s2.n≤1000000)
  (d:∀b,s2.own b→¬s3.own b) (l2:∀b,s2.own b→b<h18.size) (kk:∀s' h',IJs h18 B s2 s3 m2 m3 gv kv b3 true b8 b9 s72 s' s77 s78 h'→K s' h'):appS E z 1 24 hz s2 s72 K:=by
 have e9:b9=false:=by
  cases hb:b9
  ·rfl
  ·have:=(X.c hb).1;rw[e] at this;cases this
 subst e9;subst e;subst e3
 obtain⟨n1,r1⟩:=X.i3 rfl rfl
 have hsz:=X.g.size
 refine appS_own hz1 (X.n2 rfl) (news:=[gv]) (by rw[n1];rfl) r1 (by simpa using hg) (by omega) (by omega) (by omega) fun s' h' en o f no=>?_
 refine kk s' h' ⟨X.g.trans (f.mono fun _ _ h=>.inl h),fun _ h=>(by cases h),fun h h2=>⟨(X.i8 h h2).1,RowO.fr (X.i8 h h2).2.1 f fun p hp hc=>?_,(X.i8 h h2).2.2⟩,fun h=>(by cases h),fun _=>⟨o,fun b hb=>(no b hb).imp id fun h=>by omega⟩,fun _=>(X.n3 rfl).frame f fun b hb hc=>d b hc hb,fun h=>(by cases h),fun h=>(by cases h),fun _=>rfl⟩
 have h1:=(X.i8 h h2).2.2 p.block ⟨p,hp,rfl⟩
 have h2:=l2 _ hc
 omega
theorem IJs.op9 {E:TypeId} {z:Array Value} {K:Sv→Heap→Prop} (X:IJs h18 B s2 s3 m2 m3 gv kv b3 b4 b8 b9 s72 s73 s77 s78 hz) (e:b9=false) (e4:b4=true) (e8:b8=true) (hz1:z.size=1) (hg:kv.oneCell'=true) (hB:B≤h18.size) (hn:s3.n≤1000000)
  (d:∀b,s2.own b→¬s3.own b) (l3:∀b,s3.own b→b<h18.size) (kk:∀s' h',IJs h18 B s2 s3 m2 m3 gv kv b3 b4 b8 true s72 s73 s77 s' h'→K s' h'):appS E z 1 24 hz s3 s77 K:=by
 subst e;subst e4;subst e8
 obtain⟨n1,r1,_⟩:=X.i8 rfl rfl
 obtain⟨o73,w73⟩:=X.p2 rfl
 have hsz:=X.g.size
 refine appS_own hz1 (X.n3 rfl) (news:=[kv]) (by rw[n1];rfl) r1 (by simpa using hg) (by omega) (by omega) (by omega) fun s' h' en o f no=>?_
 have dd:∀b,s73.own b→¬s3.own b:=fun b hb hc=>by
  rcases w73 b hb with h|h
  ·exact d b h hc
  ·have:=l3 b hc;omega
 refine kk s' h' ⟨X.g.trans (f.mono fun _ _ h=>.inr h),fun _ h=>(by cases h),fun _ h=>(by cases h),fun h=>(by cases h),fun _=>⟨o73.frame f dd,w73⟩,fun h=>(by cases h),fun _=>⟨o,fun b hb=>(no b hb).imp id fun h=>by omega,fun b hb hc=>?_⟩,fun _=>⟨rfl,rfl⟩,X.c2⟩
 rcases no b hb with h|h
 ·exact dd b hc h
 ·have:=o73.ge hc;omega
end
structure SI (h1:Heap) (bp:Nat) (W:Int) (hh:Heap) (s1 s2 s3:Sv) (t1 t2 t3:List (Sv×List Int)) (Q:Nat→Prop):Prop where
 g:Grow h1 hh
 b:h1.size≤bp
 p:blk hh bp #[.slice s1.a s1.n s1.c,.int .i64 W,.slice s2.a s2.n s2.c,.slice s3.a s3.n s3.c,.slice nlS.a nlS.n nlS.c]
 o1:Own hh (bp+1) 1 s1 (t1.map fun t=>t.1.v)
 o2:Own hh (bp+1) 1 s2 (t2.map fun t=>t.1.v)
 o3:Own hh (bp+1) 1 s3 (t3.map fun t=>t.1.v)
 d12:∀b,s1.own b→¬s2.own b
 d13:∀b,s1.own b→¬s3.own b
 d23:∀b,s2.own b→¬s3.own b
 q:∀b,Q b→bp<b∧b<hh.size∧¬s1.own b∧¬s2.own b∧¬s3.own b
 e:∀t,(t∈t1∨t∈t2∨t∈t3)→IntsAt hh t.1 t.2∧∀b,t.1.own b→Q b
theorem SI.grow {h1:Heap} {bp:Nat} {W:Int} {hh h':Heap} {s1 s2 s3:Sv} {t1 t2 t3:List (Sv×List Int)} {Q:Nat→Prop} (x:SI h1 bp W hh s1 s2 s3 t1 t2 t3 Q) (f:Grow hh h'):SI h1 bp W h' s1 s2 s3 t1 t2 t3 Q:=
 ⟨x.g.trans f,x.b,f.blk x.p fun h=>h,x.o1.frame f fun _ _ h=>h,x.o2.frame f fun _ _ h=>h,x.o3.frame f fun _ _ h=>h,x.d12,x.d13,x.d23,fun b hb=>by have:=x.q b hb;have:=f.size;exact⟨by omega,by omega,by simp_all⟩,fun t ht=>⟨(x.e t ht).1.keep f fun _ _ h=>h,(x.e t ht).2⟩⟩
theorem SI.row {h1:Heap} {bp:Nat} {W:Int} {hh:Heap} {s1 s2 s3:Sv} {t1 t2 t3:List (Sv×List Int)} {Q:Nat→Prop} (x:SI h1 bp W hh s1 s2 s3 t1 t2 t3 Q) {s:Sv} (h:s=s1∨s=s2∨s=s3) {b:Nat} (hb:s.own b):bp<b∧b<hh.size:=by
 rcases h with rfl|rfl|rfl
 ·exact x.o1.ge hb
 ·exact x.o2.ge hb
 ·exact x.o3.ge hb
end Go.Proofs.Ytkpahlkendlahaa
namespace Go.Proofs.Ytkpahlkendlahaa
open Go Go.Lf
set_option linter.unusedVariables false
theorem sel_app {f:Nat→Bool} {j:Nat}:ints (fl.sel f (j+1))=ints (fl.sel f j)++(if f j=true then [Value.int .i64 (j:Int)] else []):=by
 rw[fl.sel_succ]
 unfold ints
 rw[List.map_append]
 split<;>rfl
theorem ints_len (xs:List Int):(ints xs).length=xs.length:=by simp[ints]
theorem own_n {h:Heap} {B:Nat} {s:Sv} {xs:List Int} (o:Own h B 1 s (ints xs)):s.n=xs.length:=by have:=o.len;rw[ints_len] at this;omega
section
variable {h:Heap} {b:Nat} {nm:ByteArray} {pa:Int} {lo co:Sv} {pth:Pth} {Is:List Ins} {s:Sv} {L:List Lnv}
structure GK (h4:Heap) (pth:Pth) (L:List Lnv) (i j:Nat) (gen kill:Sv) (hh:Heap):Prop where
 g:Grow h4 hh
 og:Own hh h4.size 1 gen (ints (fl.sel (gP L i) j))
 ok:Own hh h4.size 1 kill (ints (fl.sel (fun k=>!hP pth L k i) j))
 d:∀b,gen.own b→¬kill.own b
theorem prob_ok (x:GoodB h b nm pa lo co pth Is) (hL:L.length≤200):(probOf pth (Is.map (·.v)) L).chk=0∧(probOf pth (Is.map (·.v)) L).Bd:=by
 have hf:=x.few
 have hin:=x.suc
 have hn:(Is.map (·.v)).length=Is.length:=by simp
 generalize Is.map (·.v)=l at hin hn
 have hs:∀xs∈(probOf pth l L).s,∀y∈xs,0≤y∧y<(l.length:Int):=by
  intro xs hx
  obtain⟨i,hi,rfl⟩:=List.mem_map.1 hx
  exact hin i (by simpa using hi)
 have hsel:∀(f:Nat→Bool),∀y∈fl.sel f L.length,0≤y∧y<(L.length:Int):=by
  intro f y hy
  unfold fl.sel at hy
  obtain⟨k,hk,rfl⟩:=List.mem_map.1 hy
  have:=List.mem_range.1 (List.mem_filter.1 hk).1
  omega
 have hsl:∀(f:Nat→Bool),(fl.sel f L.length).length≤1000000:=fun f=>by have:=fl.sel_len f L.length;omega
 refine⟨?_,⟨by simp[probOf];omega,by simp[probOf];omega,by simp[probOf];omega,fun xs hx=>?_,fun xs hx=>?_,fun xs hx=>?_,by simp[probOf]⟩⟩
 ·unfold fl.Pb.chk
  have hw:(probOf pth l L).wide=false:=by
   unfold fl.Pb.wide
   simp only[Bool.or_eq_false_iff,decide_eq_false_iff_not]
   simp only[probOf,List.length_map,List.length_range]
   omega
  have hk:(probOf pth l L).okB=true:=by
   unfold fl.Pb.okB
   simp only[Bool.and_eq_true,fl.fitsB_iff]
   refine⟨⟨⟨⟨Nat.le_refl _,?_⟩,⟨by simp[probOf],?_⟩⟩,⟨by simp[probOf],?_⟩⟩,⟨by simp,by simp[probOf]⟩⟩
   ·intro xs hx y hy
    have:=hs xs hx y hy
    simpa [probOf] using this
   ·intro xs hx
    obtain⟨i,hi,rfl⟩:=List.mem_map.1 hx
    exact hsel _
   ·intro xs hx
    obtain⟨i,hi,rfl⟩:=List.mem_map.1 hx
    exact hsel _
  rw[hw,hk];rfl
 ·obtain⟨i,hi,rfl⟩:=List.mem_map.1 hx
  have:=succ_len l i;omega
 ·obtain⟨i,hi,rfl⟩:=List.mem_map.1 hx
  exact hsl _
 ·obtain⟨i,hi,rfl⟩:=List.mem_map.1 hx
  exact hsl _
theorem scope_spec (x:GoodB h b nm pa lo co pth Is) (y:LnsAt h pth L s) (hL:L.length≤200) (hok:∀v∈L,okLn pth Is.length v) :
  CallsH Try.prog 14 #[.pointer (some ⟨b,0,none⟩),.slice s.a s.n s.c] h (fun v h'=>Grow h h'∧∃(out:Sv) (C:Nat→Nat→Bool),v=.tuple #[.slice out.a out.n out.c,.int .i64 0] ∧
   (∀k (hk:k<L.length),LsC (Is.map (·.v)) (hP pth L k) L[k].at_ (C k))∧ListsAt h' out ((List.range Is.length).map fun i=>fl.sel (fun k=>C k i) L.length)):=by
 apply F14
 unfold L14
 refine cal_of (fits_spec x y hL) ?_
 rintro _ h1 ⟨f1,e,rfl,he⟩
 obtain rfl:e=0:=by
  rcases he with⟨e,_⟩|⟨_,v,hv,hn⟩
  ·exact e
  ·exact absurd (hok v hv) hn
 clear he
 refine⟨_,rfl,fun e=>by simp at e,fun _=>?_⟩
 have hn:=y.rows.len
 have hcn:=x.n
 have hfew:=x.few
 rintro p7 h2 rfl rfl
 have k2:=blk.new h1 #[Value.slice nlS.a nlS.n nlS.c,.int .i64 0,.slice nlS.a nlS.n nlS.c,.slice nlS.a nlS.n nlS.c,.slice nlS.a nlS.n nlS.c] 88
 have g2:=Fr.push (fun _=>False) h1 (.cells #[Value.slice nlS.a nlS.n nlS.c,.int .i64 0,.slice nlS.a nlS.n nlS.c,.slice nlS.a nlS.n nlS.c,.slice nlS.a nlS.n nlS.c] 88)
 refine stoA_i k2 rfl (by intro u hu;simp only[List.mem_cons,List.not_mem_nil,or_false] at hu;rcases hu with rfl|rfl|rfl|rfl|rfl<;>rfl) fun h3 k3 f3=>?_
 rw[hn] at k3
 have g3:Grow h1 h3:=g2.trans' f3 fun i hi e=>by omega
 have b3:=k3.lt
 generalize hbp:h1.size=bp at *
 refine⟨_,rfl,ldS_i (s:=co) (x.grow (f1.trans g3)).cc ?_⟩
 refine⟨fun i hh=>∃(k:Nat) (s1 s2 s3:Sv) (t1 t2 t3:List (Sv×List Int)) (Q:Nat→Prop),i=k∧k≤Is.length∧SI h1 bp L.length hh s1 s2 s3 t1 t2 t3 Q ∧
  t1.map (fun t=>t.2)=(List.range k).map (succL (Is.map (·.v)))∧t2.map (fun t=>t.2)=((List.range k).map fun i=>fl.sel (gP L i) L.length)∧t3.map (fun t=>t.2)=((List.range k).map fun i=>fl.sel (fun k=>!hP pth L k i) L.length),fun i _=>Is.length - i.toNat,?_,?_⟩
 ·refine⟨0,nlS,nlS,nlS,[],[],[],fun _=>False,rfl,Nat.zero_le _,⟨g3,by omega,k3,Own.nil _ _ _,Own.nil _ _ _,Own.nil _ _ _,?_,?_,?_,fun _ h=>h.elim,fun t ht=>by simp at ht⟩,rfl,rfl,rfl⟩<;>(rintro b ⟨a,e,_⟩;cases e)
 rintro _ h4 ⟨i,s1,s2,s3,t1,t2,t3,Q,rfl,hi,Z,E1,E2,E3⟩
 have G4:=f1.trans Z.g
 have l1:t1.length=i:=by have:=congrArg List.length E1;simpa using this
 have l2:t2.length=i:=by have:=congrArg List.length E2;simpa using this
 have l3:t3.length=i:=by have:=congrArg List.length E3;simpa using this
 have m1:s1.n=i:=by have:=Z.o1.len;simp at this;omega
 have m2:s2.n=i:=by have:=Z.o2.len;simp at this;omega
 have m3:s3.n=i:=by have:=Z.o3.len;simp at this;omega
 refine ifb_iff (q:=i<Is.length) (by rw[hcn];simp) (fun hil=>?_) (fun hil=>?_)
 ·
  refine⟨fun gen kill j hh=>∃q:Nat,j=q∧q≤L.length∧GK h4 pth L i q gen kill hh,fun _ _ j _=>L.length - j.toNat,⟨0,rfl,Nat.zero_le _,Fr.refl _ _,Own.nil _ _ _,Own.nil _ _ _,fun b ⟨a,e,_⟩=>by cases e⟩,?_⟩
  rintro gen kill _ h5 ⟨q,rfl,hq,K⟩
  have G5:=G4.trans K.g
  have ng:=own_n K.og
  have nk:=own_n K.ok
  have sg:=fl.sel_len (gP L i) q
  have sk:=fl.sel_len (fun k=>!hP pth L k i) q
  refine ifb_iff (q:=q<L.length) (by rw[hn];simp) (fun hql=>?_) (fun hql=>?_)
  ·refine⟨fun gen' kill' hh=>GK h4 pth L i (q+1) gen' kill' hh,?_,fun gen' kill' h14 K'=>?_⟩
   rotate_left
   ·rw[wrap_succ hql (by omega)]
    exact⟨⟨q+1,rfl,hql,K'⟩,by simp;omega⟩
   obtain⟨p,ep,hk',c⟩:=(y.grow G5).rows.at_ q hql
   have hgv:=gP_get (i:=i) hk'
   have hhv:=hP_get (pth:=pth) (i:=i) hk'
   have hpt:=y.pt _ (List.getElem_mem hk')
   have hsrt:=(hok _ (List.getElem_mem hk')).2.2
   refine⟨p,ep,by omega,by rw[hn];omega,?_⟩
   rw[Int.toNat_natCast]
   generalize L[q]=v at hgv hhv hpt hsrt c
   refine⟨v.at_,v.l,v.s,v.mu,v.ow,v.pt,c.at0,c 1 _ rfl,c 2 _ rfl,c 3 _ rfl,c 4 _ rfl,c 5 _ rfl,?_⟩
   refine mineL (v:=v) fun h7 b7 f7=>?_
   refine⟨fun gen' h10=>blk h10 h5.size (lns v).toArray∧Grow h4 h10∧Own h10 h4.size 1 gen' (ints (fl.sel (gP L i) (q+1)))∧Own h10 h4.size 1 kill (ints (fl.sel (fun k=>!hP pth L k i) q))∧∀b,gen'.own b→¬kill.own b,?_,?_⟩
   ·refine ldI_i (x:=v.at_) (by rw[b7.cl];rfl) ?_
    rw[sel_app,hgv]
    refine⟨fun e=>?_,fun e=>?_⟩
    ·rw[if_pos e]
     have og7:=K.og.frame f7 fun _ _ h=>h
     have ok7:=K.ok.frame f7 fun _ _ h=>h
     refine app1 rfl og7 rfl (by simp[Value.oneCell']) (by have:=K.g.size;have:=f7.size;omega) (by omega) (by omega) fun s' h' e' o f n=>?_
     refine⟨f.blk b7 (fun hc=>by have:=K.og.ge hc;omega),(K.g.trans f7).trans' f (fun a ha hc=>by have:=(K.og.ge hc).1;omega),by simpa using o,ok7.frame f fun b hb hc=>K.d b hc hb,fun b hb hc=>?_⟩
     rcases n b hb with h|h
     ·exact K.d b h hc
     ·have:=(ok7.ge hc).2;omega
    ·rw[if_neg (by rw[e];simp),List.append_nil]
     exact⟨b7,K.g.trans f7,K.og.frame f7 fun _ _ h=>h,K.ok.frame f7 fun _ _ h=>h,K.d⟩
   ·rintro gen' h10 ⟨b10,g10,og,ok,d⟩
    refine⟨v.at_,v.l,v.s,v.mu,v.ow,v.pt,by rw[b10.cl];rfl,by rw[add_plain,b10.cl];rfl,by rw[add_plain,b10.cl];rfl,by rw[add_plain,b10.cl];rfl,by rw[add_plain,b10.cl];rfl,by rw[add_plain,b10.cl];rfl,?_⟩
    refine cal_of (has_spec (hpt.grow (G4.trans g10)) hsrt i) ?_
    rintro _ h11 ⟨f11,rfl⟩
    refine⟨_,rfl,?_⟩
    have og:=og.frame f11 fun _ _ h=>h
    have ok:=ok.frame f11 fun _ _ h=>h
    have g11:=g10.trans f11
    refine⟨fun e=>?_,fun e=>?_⟩
    ·refine app1 rfl ok rfl (by simp[Value.oneCell']) g11.size (by omega) (by omega) fun s' h' e' o f n=>?_
     refine⟨g11.trans' f (fun a ha hc=>by have:=(ok.ge hc).1;omega),og.frame f fun b hb hc=>d b hb hc,?_,fun b hb hc=>?_⟩
     ·rw[sel_app,if_pos (by rw[hhv];exact e)]
      simpa using o
     ·rcases n b hc with h|h
      ·exact d b hb h
      ·have:=(og.ge hb).2;omega
    ·refine⟨g11,og,?_,d⟩
     rw[sel_app,if_neg (by rw[hhv,e];simp),List.append_nil]
     exact ok
  obtain rfl:q=L.length:=by omega
  have Z5:=Z.grow K.g
  refine⟨fun hh=>Grow h5 hh,Fr.refl _ _,s1,fun hh f=>by rw[(Fr.blk f Z5.p fun h=>h).cl];rfl,?_⟩
  refine cal_of (succ_spec (x.grow G5).B (x.grow G5).X.code (i:=i) (by simpa using hil)) ?_
  rintro _ h15 ⟨sx,rfl,f15,ix,wx⟩
  refine⟨sx,rfl,f15,?_⟩
  rintro s66 h16 rfl rfl
  have f16:=Fr.push (fun _=>False) h15 (.cells #[Value.slice sx.a sx.n sx.c] 47)
  have r16:=row_new (E:=47) h15 #[Value.slice sx.a sx.n sx.c]
  generalize h15.push (.cells #[Value.slice sx.a sx.n sx.c] 47)=h16 at f16 r16
  have g16:=f15.trans f16
  refine⟨g16,?_⟩
  have Z16:=Z5.grow g16
  have q16:=g16.size
  have q45:=K.g.size
  refine appS_own rfl Z16.o1 (news:=[Value.slice sx.a sx.n sx.c]) rfl r16 (by simp[Value.oneCell']) (by have:=Z16.p.lt;omega) (by show s1.n+1≤_;omega) (by show (s1.n+1)*24≤_;omega) fun s67 h17 e17 o17 f17 n17=>?_
  have fr1:∀b,s1.own b→bp<b∧b<h4.size:=fun b hb=>Z.row (.inl rfl) hb
  have fr2:∀b,s2.own b→bp<b∧b<h4.size:=fun b hb=>Z.row (.inr (.inl rfl)) hb
  have fr3:∀b,s3.own b→bp<b∧b<h4.size:=fun b hb=>Z.row (.inr (.inr rfl)) hb
  have p17:=f17.blk Z16.p fun hc=>by have:=fr1 _ hc;omega
  refine sto_i p17 (by show 0<5;omega) ?_
  have p18:=p17.sc 0 (.slice s67.a s67.n s67.c)
  have f18:=Fr.scb h17 bp 0 (.slice s67.a s67.n s67.c)
  generalize sc h17 ⟨bp,0,none⟩ (.slice s67.a s67.n s67.c)=h18 at p18 f18
  have p18:blk h18 bp #[.slice s67.a s67.n s67.c,.int .i64 L.length,.slice s2.a s2.n s2.c,.slice s3.a s3.n s3.c,.slice nlS.a nlS.n nlS.c]:=p18
  have z17:=f17.size
  have z18:=f18.size
  have F18:Fr (fun b=>s1.own b∨b=bp) h16 h18:=(f17.mono fun _ _ h=>.inl h).trans (f18.mono fun _ _ h=>.inr h)
  have u67:∀b,s67.own b→bp<b∧b<h18.size∧(s1.own b∨h16.size≤b):=fun b hb=>by
   have:=(o17.ge hb);exact⟨by omega,by omega,n17 b hb⟩
  have o18:=o17.frame f18 fun b hb e=>by have:=u67 b hb;omega
  have o2:=Z16.o2.frame F18 fun b hb e=>e.elim (fun h=>Z.d12 b h hb) (fun h=>by have:=fr2 b hb;omega)
  have o3:=Z16.o3.frame F18 fun b hb e=>e.elim (fun h=>Z.d13 b h hb) (fun h=>by have:=fr3 b hb;omega)
  refine ldS_i (s:=s2) (by rw[add_plain,p18.cl];rfl) ?_
  refine⟨IJs h18 (bp+1) s2 s3 (t2.map fun t=>t.1.v) (t3.map fun t=>t.1.v) gen.v kill.v,fun hh=>Fr (fun b=>s2.own b∨s3.own b) h18 hh,fun _ _ _ _ _ _ _ _ _ X=>X.g,fun _ _ _ _=>IJs.start o2 o3,s3,fun hh f=>by rw[add_plain,(Fr.blk f p18 fun h=>h.elim (fun h=>by have:=fr2 _ h;omega) fun h=>by have:=fr3 _ h;omega).cl];rfl,?_,?_,?_,?_,?_⟩
  ·rintro c3 c4 c8 c9 s72 s73 s77 s78 hz X e
   rintro s' h' rfl rfl
   exact X.op3 e
  ·rintro c3 c4 c8 c9 s72 s73 s77 s78 hz X e e3
   exact X.op4 e e3 rfl rfl (by have:=p18.lt;omega) (by omega) Z.d23 (fun b hb=>by have:=fr2 b hb;omega) fun s' h' X'=>X'
  ·rintro c3 c4 c8 c9 s72 s73 s77 s78 hz X e
   rintro s' h' rfl rfl
   exact X.op8 e
  ·rintro c3 c4 c8 c9 s72 s73 s77 s78 hz X e e3 e4 e8
   exact X.op9 e e4 e8 rfl rfl (by have:=p18.lt;omega) (by omega) Z.d23 (fun b hb=>by have:=fr3 b hb;omega) fun s' h' X'=>X'
  rintro s72 s73 s77 s78 h36 X
  obtain⟨o73,u73⟩:=X.p2 rfl
  obtain⟨o78,u78,d78⟩:=X.p3 rfl
  have g36:=X.g
  clear X
  have z36:=g36.size
  have p36:=g36.blk p18 fun h=>h.elim (fun h=>by have:=fr2 _ h;omega) fun h=>by have:=fr3 _ h;omega
  rw[add_plain,add_plain,Nat.zero_add,Nat.zero_add]
  refine sto_i p36 (by show 2<5;omega) ?_
  have p37:=p36.sc 2 (.slice s73.a s73.n s73.c)
  have f37:=Fr.scb h36 bp 2 (.slice s73.a s73.n s73.c)
  generalize sc h36 ⟨bp,2,none⟩ (.slice s73.a s73.n s73.c)=h37 at p37 f37
  refine sto_i p37 (by show 3<5;omega) ?_
  have p38:=p37.sc 3 (.slice s78.a s78.n s78.c)
  have f38:=Fr.scb h37 bp 3 (.slice s78.a s78.n s78.c)
  generalize sc h37 ⟨bp,3,none⟩ (.slice s78.a s78.n s78.c)=h38 at p38 f38
  have p38:blk h38 bp #[.slice s67.a s67.n s67.c,.int .i64 L.length,.slice s73.a s73.n s73.c,.slice s78.a s78.n s78.c,.slice nlS.a nlS.n nlS.c]:=p38
  have f3638:=f37.trans f38
  have z38:=f3638.size
  have F38:Fr (fun b=>s1.own b∨s2.own b∨s3.own b∨b=bp) h16 h38:=((F18.mono fun _ _ h=>h.imp id fun h=>.inr (.inr h)).trans (g36.mono fun _ _ h=>.inr (h.imp id .inl))).trans (f3638.mono fun _ _ h=>.inr (.inr (.inr h)))
  have nF:∀b,b<h4.size→¬s1.own b→¬s2.own b→¬s3.own b→b≠bp→¬(s1.own b∨s2.own b∨s3.own b∨b=bp):=fun b _ a1 a2 a3 a4 h=>h.elim a1 fun h=>h.elim a2 fun h=>h.elim a3 a4
  have nN:∀b,h4.size≤b→¬(s1.own b∨s2.own b∨s3.own b∨b=bp):=fun b hb h=>by
   have hbp4:=Z.p.lt
   rcases h with h|h|h|h
   ·have:=fr1 b h;omega
   ·have:=fr2 b h;omega
   ·have:=fr3 b h;omega
   ·omega
  have gow:∀b,gen.own b→h4.size≤b∧b<h5.size:=fun b hb=>K.og.ge hb
  have kow:∀b,kill.own b→h4.size≤b∧b<h5.size:=fun b hb=>K.ok.ge hb
  have xow:∀b,sx.own b→h5.size≤b∧b<h15.size:=wx
  have z15:=f15.size
  have z1516:=f16.size
  have u73':∀b,s73.own b→bp<b∧b<h36.size∧(s2.own b∨h18.size≤b):=fun b hb=>by have:=o73.ge hb;exact⟨by omega,by omega,u73 b hb⟩
  have u78':∀b,s78.own b→bp<b∧b<h36.size∧(s3.own b∨h18.size≤b):=fun b hb=>by have:=o78.ge hb;exact⟨by omega,by omega,u78 b hb⟩
  have w1:∀b,b<h16.size→¬s1.own b→¬s67.own b:=fun b hb hn h=>by
   rcases (u67 b h).2.2 with h|h
   ·exact hn h
   ·omega
  have w2:∀b,b<h16.size→¬s2.own b→¬s73.own b:=fun b hb hn h=>by
   rcases (u73' b h).2.2 with h|h
   ·exact hn h
   ·omega
  have w3:∀b,b<h16.size→¬s3.own b→¬s78.own b:=fun b hb hn h=>by
   rcases (u78' b h).2.2 with h|h
   ·exact hn h
   ·omega
  rw[wrap_succ hil (by omega)]
  refine⟨⟨i+1,s67,s73,s78,t1++[(sx,succL (Is.map (·.v)) i)],t2++[(gen,fl.sel (gP L i) L.length)],t3++[(kill,fl.sel (fun k=>!hP pth L k i) L.length)],fun b=>Q b∨sx.own b∨gen.own b∨kill.own b,rfl,hil,⟨?_,Z.b,p38,?_,?_,?_,?_,?_,?_,?_,?_⟩,?_,?_,?_⟩,by simp;omega⟩
  ·refine (Z.g.trans (K.g.trans g16)).trans' F38 fun a ha h=>?_
   rcases h with h|h|h|h
   ·have:=fr1 a h;omega
   ·have:=fr2 a h;omega
   ·have:=fr3 a h;omega
   ·omega
  ·have nb:∀b,s67.own b→¬(s2.own b∨s3.own b):=fun b hb h=>by
    have hu:=u67 b hb
    rcases h with h|h
    ·have:=fr2 b h
     rcases hu.2.2 with h'|h'
     ·exact Z.d12 b h' h
     ·omega
    ·have:=fr3 b h
     rcases hu.2.2 with h'|h'
     ·exact Z.d13 b h' h
     ·omega
   have:=(o18.frame g36 nb).frame f3638 fun b hb e=>by have:=(u67 b hb).1;omega
   simpa using this
  ·have:=o73.frame f3638 fun b hb e=>by have:=u73' b hb;omega
   simpa using this
  ·have:=o78.frame f3638 fun b hb e=>by have:=u78' b hb;omega
   simpa using this
  ·intro b h1 h2
   have a1:=u67 b h1
   have a2:=u73' b h2
   rcases a1.2.2 with h|h<;>rcases a2.2.2 with h'|h'
   ·exact Z.d12 b h h'
   ·have:=fr1 b h;omega
   ·have:=fr2 b h';omega
   ·omega
  ·intro b h1 h2
   have a1:=u67 b h1
   have a2:=u78' b h2
   rcases a1.2.2 with h|h<;>rcases a2.2.2 with h'|h'
   ·exact Z.d13 b h h'
   ·have:=fr1 b h;omega
   ·have:=fr3 b h';omega
   ·omega
  ·exact fun b h1 h2=>d78 b h2 h1
  ·intro b hb
   have lt4:=Z.p.lt
   have far:h4.size≤b→b<h16.size→bp<b∧b<h38.size∧¬s67.own b∧¬s73.own b∧¬s78.own b:=fun h h'=>
    ⟨by omega,by omega,w1 b h' (fun e=>by have:=fr1 b e;omega),w2 b h' (fun e=>by have:=fr2 b e;omega),w3 b h' (fun e=>by have:=fr3 b e;omega)⟩
   rcases hb with hb|hb|hb|hb
   ·obtain⟨q1,q2,q3,q4,q5⟩:=Z.q b hb
    exact⟨q1,by omega,w1 b (by omega) q3,w2 b (by omega) q4,w3 b (by omega) q5⟩
   ·have:=xow b hb;exact far (by omega) (by omega)
   ·have:=gow b hb;exact far (by omega) (by omega)
   ·have:=kow b hb;exact far (by omega) (by omega)
  ·have old:∀t,(t∈t1∨t∈t2∨t∈t3)→IntsAt h38 t.1 t.2∧∀b,t.1.own b→Q b∨sx.own b∨gen.own b∨kill.own b:=fun t ht=>by
    obtain⟨a1,a2⟩:=Z.e t ht
    refine⟨((a1.keep (K.g.trans g16) fun _ _ h=>h)).frame F38 fun b hb=>?_,fun b hb=>.inl (a2 b hb)⟩
    obtain⟨q1,q2,q3,q4,q5⟩:=Z.q b (a2 b hb)
    exact nF b q2 q3 q4 q5 (by omega)
   intro t ht
   simp only[List.mem_append,List.mem_singleton] at ht
   rcases ht with (ht|rfl)|(ht|rfl)|(ht|rfl)
   ·exact old t (.inl ht)
   ·exact⟨(ix.keep f16 fun _ _ h=>h).frame F38 fun b hb=>nN b (by have:=xow b hb;omega),fun b hb=>.inr (.inl hb)⟩
   ·exact old t (.inr (.inl ht))
   ·exact⟨((own_ints K.og).keep g16 fun _ _ h=>h).frame F38 fun b hb=>nN b (gow b hb).1,fun b hb=>.inr (.inr (.inl hb))⟩
   ·exact old t (.inr (.inr ht))
   ·exact⟨((own_ints K.ok).keep g16 fun _ _ h=>h).frame F38 fun b hb=>nN b (kow b hb).1,fun b hb=>.inr (.inr (.inr hb))⟩
  ·rw[List.map_append,List.range_succ,List.map_append,E1];rfl
  ·rw[List.map_append,List.range_succ,List.map_append,E2];rfl
  ·rw[List.map_append,List.range_succ,List.map_append,E3];rfl
 obtain rfl:i=Is.length:=by omega
 have hPb:fl.PbAt h4 s1 L.length s2 s3 nlS (probOf pth (Is.map (·.v)) L):=by
  have a1:=lists_own Z.o1 fun t ht=>(Z.e t (.inl ht)).1
  have a2:=lists_own Z.o2 fun t ht=>(Z.e t (.inr (.inl ht))).1
  have a3:=lists_own Z.o3 fun t ht=>(Z.e t (.inr (.inr ht))).1
  have hl:(Is.map (·.v)).length=Is.length:=by simp
  rw[E1] at a1;rw[E2] at a2;rw[E3] at a3
  rw[←hl] at a1 a2 a3
  exact⟨a1,rfl,a2,a3,⟨rfl,fun i hi=>by simp[probOf] at hi⟩⟩
 obtain⟨hchk,hBd⟩:=prob_ok (L:=L) x hL
 refine⟨s1,L.length,s2,s3,nlS,by rw[Z.p.cl];rfl,by rw[add_plain,Z.p.cl];rfl,by rw[add_plain,Z.p.cl];rfl,by rw[add_plain,Z.p.cl];rfl,by rw[add_plain,Z.p.cl];rfl,?_⟩
 refine cal_of (fl.forward_spec hPb hBd) ?_
 rintro _ h40 ⟨f40,_,hv⟩
 obtain⟨W,ba,tb,rb,S,rfl,ok,A,hLs⟩:=hv hchk
 have hW:W=L.length:=by have h1:((L.length:Nat):Int)=(W:Int):=ok.w;omega
 subst hW
 have hpn:(probOf pth (Is.map (·.v)) L).s.length=Is.length:=by simp[probOf]
 rw[hpn] at A
 refine⟨some ⟨ba,0,none⟩,0,rfl,fun e=>by simp at e,fun _=>?_⟩
 have G40:=G4.trans f40
 refine⟨_,rfl,ldS_i (s:=co) (x.grow G40).cc ?_⟩
 refine⟨fun out i hh=>∃(k:Nat) (ts:List (Sv×List Int)),i=k∧k≤Is.length∧Grow h40 hh∧LLOwn hh h40.size out ts∧ts.map (fun t=>t.2)=(List.range k).map fun i=>fl.sel (fun k=>S i k && hP pth L k i) L.length,fun _ i _=>Is.length - i.toNat,⟨0,[],rfl,Nat.zero_le _,Fr.refl _ _,LLOwn.nil _ _,rfl⟩,?_⟩
 rintro out _ h41 ⟨k,ts,rfl,hk,g41,O,E⟩
 have lts:ts.length=k:=by have:=congrArg List.length E;simpa using this
 refine ifb_iff (q:=k<Is.length) (by rw[hcn];simp) (fun hki=>?_) (fun hki=>?_)
 rotate_left
 ·obtain rfl:k=Is.length:=by omega
  refine⟨G40.trans g41,out,fun k i=>S i k && hP pth L k i,rfl,fun k hk=>?_,?_⟩
  ·refine lsC_of hk x.suc (hLs k ?_)
   have:=hk;omega
  ·rw[←E];exact O.lists
 have A41:=A.grow g41
 refine cal_of (fl.ansList_spec A41 (by omega) (by omega) k) ?_
 rintro _ h42 ⟨l,rfl,ol,g42⟩
 refine⟨l,rfl,?_⟩
 have hsel:fl.sel (fun e=>fl.hasS Is.length (L.length:Int) S (k:Int) (e:Int)) L.length=fl.sel (fun e=>S k e) L.length:=by
  unfold fl.sel
  congr 1
  apply List.filter_congr
  intro e he
  have:=List.mem_range.1 he
  unfold fl.hasS
  rw[decide_eq_true (by omega)]
  simp
 rw[hsel] at ol
 have il:=own_ints ol
 have hln:=il.len
 have hlen:=fl.sel_len (fun e=>S k e) L.length
 have hfil:(fl.sel (fun e=>S k e) L.length).filter (fun y=>hP pth L y.toNat k)=fl.sel (fun e=>S k e && hP pth L e k) L.length:=by
  unfold fl.sel
  rw[List.filter_map,List.filter_filter]
  congr 1
  apply List.filter_congr
  intro e _
  simp[Bool.and_comm]
 have hmemL:∀y∈fl.sel (fun e=>S k e) L.length,∃q:Nat,y=q∧q<L.length:=fun y hy=>by
  unfold fl.sel at hy
  obtain⟨q,hq,rfl⟩:=List.mem_map.1 hy
  exact⟨q,rfl,List.mem_range.1 (List.mem_filter.1 hq).1⟩
 generalize fl.sel (fun e=>S k e) L.length=ls at il hln hlen hfil hmemL
 refine⟨fun o j hh=>∃q:Nat,j=q∧q≤ls.length∧Grow h42 hh∧Own hh h42.size 1 o (ints ((ls.take q).filter fun y=>hP pth L y.toNat k)),fun _ j _=>ls.length - j.toNat,⟨0,rfl,Nat.zero_le _,Fr.refl _ _,Own.nil _ _ _⟩,?_⟩
 rintro o _ h43 ⟨q,rfl,hq,g43,oo⟩
 have on:=own_n oo
 have hfl:((ls.take q).filter fun y=>hP pth L y.toNat k).length≤200:=by
  have h1:=List.length_filter_le (fun y=>hP pth L y.toNat k) (ls.take q)
  rw[List.length_take] at h1
  omega
 refine ifb_iff (q:=q<ls.length) (by rw[hln];simp) (fun hql=>?_) (fun hql=>?_)
 ·refine⟨fun o' hh=>Grow h42 hh∧Own hh h42.size 1 o' (ints ((ls.take (q+1)).filter fun y=>hP pth L y.toNat k)),?_,?_⟩
  rotate_left
  ·rintro o' h47 ⟨g47,oo'⟩
   rw[wrap_succ hql (by omega)]
   exact⟨⟨q+1,rfl,hql,g47,oo'⟩,by simp;omega⟩
  obtain⟨p,ep,c⟩:=(il.keep g43 fun _ _ h=>h).at_ q hql
  refine⟨p,ep,by omega,by rw[hln];omega,ls[q],by rw[Int.toNat_natCast];exact c,?_⟩
  have htk:ls.take (q+1)=ls.take q++[ls[q]]:=List.take_succ_eq_append_getElem hql
  obtain⟨r,er,hr⟩:=hmemL _ (List.getElem_mem hql)
  rw[htk,List.filter_append,er]
  have G43:=(G40.trans g41).trans (g42.trans g43)
  obtain⟨p',ep',hr',c'⟩:=(y.grow G43).rows.at_ r hr
  refine⟨p',ep',by omega,by rw[hn];omega,?_⟩
  rw[Int.toNat_natCast]
  have hhv:=hP_get (pth:=pth) (i:=k) hr'
  have hpt:=y.pt _ (List.getElem_mem hr')
  have hsrt:=(hok _ (List.getElem_mem hr')).2.2
  generalize L[r]=v at hhv hpt hsrt c'
  refine⟨v.at_,v.l,v.s,v.mu,v.ow,v.pt,c'.at0,c' 1 _ rfl,c' 2 _ rfl,c' 3 _ rfl,c' 4 _ rfl,c' 5 _ rfl,?_⟩
  refine cal_of (has_spec (hpt.grow G43) hsrt k) ?_
  rintro _ h44 ⟨f44,rfl⟩
  refine⟨_,rfl,?_⟩
  have oo4:=oo.frame f44 fun _ _ h=>h
  have g44:=g43.trans f44
  have hone:[((r:Nat):Int)].filter (fun y=>hP pth L y.toNat k)=if hasP pth v k=true then [((r:Nat):Int)] else []:=by
   simp only[List.filter_cons,List.filter_nil,Int.toNat_natCast,hhv]
  rw[hone]
  refine⟨fun e=>?_,fun e=>?_⟩
  ·rw[if_pos e]
   refine app1 rfl oo4 rfl (by simp[Value.oneCell']) g44.size (by omega) (by omega) fun s' h' e' o2 f n=>?_
   refine⟨g44.trans' f (fun a ha hc=>by have:=(oo4.ge hc).1;omega),?_⟩
   simpa [ints] using o2
  ·rw[if_neg (by rw[e];simp),List.append_nil]
   exact⟨g44,oo4⟩
 obtain rfl:q=ls.length:=by omega
 rw[List.take_length,hfil] at oo
 have z41:=g41.size
 have z42:=g42.size
 have z43:=g43.size
 have O43:=(O.frame g42 fun _ _ _ h=>h).frame g43 fun _ _ _ h=>h
 have on2:=O43.len
 refine O43.app rfl rfl (own_ints oo) (fun b hb=>?_) (by omega) (by omega) (by omega) fun s' h' O' f n=>?_
 ·have:=oo.ge hb
  refine⟨by omega,this.2,fun ho=>?_⟩
  have:=(O.own.ge ho).2;omega
 ·rw[wrap_succ hki (by omega)]
  refine⟨⟨k+1,_,rfl,hki,(g41.trans (g42.trans g43)).trans' f fun a ha hc=>by have:=(O43.own.ge hc).1;omega,O',?_⟩,by simp;omega⟩
  rw[List.map_append,List.range_succ,List.map_append,E];rfl
end
end Go.Proofs.Ytkpahlkendlahaa
namespace Go.Proofs.Ytkpahlkendlahaa
open Go Go.Lf
set_option linter.unusedVariables false
structure Cvv where
 a:Int
 l:Int
 d:Bool
 deriving DecidableEq
abbrev ccs (c:Cvv):List Value:=[.int .i64 c.a,.int .i64 c.l,.bool c.d]
theorem ccs_len (c:Cvv):(ccs c).length=3:=rfl
theorem one_ccs (c:Cvv):∀u∈ccs c,u.oneCell'=true:=by
 intro u hu
 simp only[List.mem_cons,List.not_mem_nil,or_false] at hu
 rcases hu with rfl|rfl|rfl<;>rfl
def accF (m:Nat) (Is:List Ins) (i:Nat):List Acv:=match Is[i]? with
 | some I=>accV m I
 | none=>[]
def fstF (m:Nat) (pth:Pth) (L:List Lnv) (Is:List Ins) (k i:Nat):Option Acv:=match L[k]? with
 | some v=>(accF m Is i).find? (forbV pth v)
 | none=>none
def clF (m:Nat) (pth:Pth) (L:List Lnv) (Is:List Ins) (i k:Nat):List Cvv:=match fstF m pth L Is k i with
 | some a=>[⟨i,k,decide (5≤a.k)⟩]
 | none=>[]
def rowF (m:Nat) (pth:Pth) (L:List Lnv) (Is:List Ins) (come:Nat→Bool) (C:Nat→Nat→Bool) (i:Nat):List Cvv:=
 if come i=true then (fl.sel (fun k=>C k i) L.length).flatMap (fun y=>clF m pth L Is i y.toNat) else []
def allF (m:Nat) (pth:Pth) (L:List Lnv) (Is:List Ins) (come:Nat→Bool) (C:Nat→Nat→Bool) (n:Nat):List Cvv:=(List.range n).flatMap (rowF m pth L Is come C)
theorem clF_len (m:Nat) (pth:Pth) (L:List Lnv) (Is:List Ins) (i k:Nat):(clF m pth L Is i k).length≤1:=by unfold clF;split<;>simp
theorem flat_le {α β:Type} {f:α→List β} {m:Nat} (hf:∀a,(f a).length≤m) (l:List α):(l.flatMap f).length≤l.length*m:=by
 induction l with
 | nil=>simp
 | cons a l ih=>rw[List.flatMap_cons,List.length_append,List.length_cons,Nat.succ_mul];have:=hf a;omega
theorem rowF_len (m:Nat) (pth:Pth) (L:List Lnv) (Is:List Ins) (come:Nat→Bool) (C:Nat→Nat→Bool) (i:Nat):(rowF m pth L Is come C i).length≤L.length:=by
 unfold rowF
 split
 ·have:=flat_le (fun y:Int=>clF_len m pth L Is i y.toNat) (fl.sel (fun k=>C k i) L.length)
  have:=fl.sel_len (fun k=>C k i) L.length
  omega
 ·simp
theorem allF_len (m:Nat) (pth:Pth) (L:List Lnv) (Is:List Ins) (come:Nat→Bool) (C:Nat→Nat→Bool) (n:Nat):(allF m pth L Is come C n).length≤n*L.length:=by
 have:=flat_le (rowF_len m pth L Is come C) (List.range n)
 simpa [allF] using this
theorem find_take {α:Type} {P:α→Bool} {l:List α} {j:Nat} (hj:j<l.length) (h:(l.take j).find? P=none) (hp:P l[j]=true):l.find? P=some l[j]:=by
 have e:=(List.take_append_drop j l).symm
 rw[List.drop_eq_getElem_cons hj] at e
 generalize l[j]=x at e hp ⊢
 rw[e,List.find?_append,h]
 simp[hp]
section
variable {h:Heap} {b:Nat} {nm:ByteArray} {pa:Int} {lo co:Sv} {pth:Pth} {Is:List Ins} {s:Sv} {L:List Lnv}
theorem idxA {fv:Value} {P:Acv→Bool} {s:Sv} {A:List Acv} (r:Rows s 3 A.length fun i p=>∃hi:i<A.length,CsAt h p (acs A[i])) (hA:A.length≤1000000)
  (hf:∀hh,Grow h hh→∀a∈A,∃fno caps,fv=.func (.func fno) #[] caps∧IsFn Try.prog fno∧CallsH Try.prog fno (#[.agg (acs a).toArray]++caps) hh (fun v h'=>Grow hh h'∧v=.bool (P a))) :
  CallsH Try.prog 21 #[.slice s.a s.n s.c,fv] h (fun v h'=>Grow h h'∧∃i:Int,v=.int .i64 i∧((i=-1∧A.find? P=none)∨∃(j:Nat) (hj:j<A.length),i=j∧A.find? P=some A[j])):=by
 apply F21
 unfold L21
 have hn:=r.len
 refine⟨fun i hh=>∃j:Nat,i=j∧j≤A.length∧Grow h hh∧(A.take j).find? P=none,fun i _=>A.length - i.toNat,⟨0,rfl,Nat.zero_le _,Fr.refl _ _,rfl⟩,?_⟩
 rintro _ h1 ⟨j,rfl,hj,g1,hnone⟩
 refine ifb_iff (q:=j<A.length) (by rw[hn];simp) (fun hlt=>?_) (fun hge=>?_)
 ·obtain⟨p,ep,hi,c0⟩:=r.at_ j hlt
  have c:=c0.grow g1
  refine⟨p,ep,by omega,by rw[hn];omega,?_⟩
  rw[Int.toNat_natCast]
  refine⟨A[j].l,A[j].s,A[j].k,c.at0,c 1 _ rfl,c 2 _ rfl,?_⟩
  obtain⟨fno,caps,e1,e2,e3⟩:=hf h1 g1 A[j] (List.getElem_mem hi)
  refine⟨fno,caps,e1,e2,cal_of e3 ?_⟩
  rintro _ h2 ⟨g2,rfl⟩
  refine⟨_,rfl,fun ht=>⟨g1.trans g2,j,rfl,.inr ⟨j,hi,rfl,find_take hi hnone ht⟩⟩,fun hf'=>?_⟩
  rw[wrap_succ hlt (by omega)]
  refine⟨⟨j+1,rfl,hlt,g1.trans g2,?_⟩,by simp;omega⟩
  rw[List.take_succ_eq_append_getElem hlt,List.find?_append,hnone]
  simp[hf']
 ·obtain rfl:j=A.length:=by omega
  rw[List.take_length] at hnone
  exact⟨g1,-1,rfl,.inl ⟨rfl,hnone⟩⟩
theorem ofV_pv {o:Ov} (hp:Pv h pth o.s):∀a∈ofV o,Pv h pth a.s:=by
 intro a ha
 unfold ofV at ha
 split at ha
 ·simp at ha;subst ha;exact hp
 ·split at ha
  ·simp at ha;subst ha;exact hp
  ·cases ha
theorem accV_pv {m:Nat} {I:Ins} (x:InsAt h pth I) (hnil:pth nlS=[]):∀a∈accV m I,Pv h pth a.s:=by
 have pn:Pv h pth nlS:=by unfold Pv;rw[hnil];exact PAt.nil h
 intro a ha
 unfold accV at ha
 split at ha
 ·simp at ha;subst ha;exact pn
 split at ha
 ·simp at ha;subst ha;exact pn
 split at ha
 ·rcases List.mem_append.1 ha with ha|ha
  ·obtain⟨o,ho,ha⟩:=List.mem_flatMap.1 ha
   exact ofV_pv (x.op o ho) a ha
  ·rcases List.mem_append.1 ha with ha|ha
   ·split at ha
    ·simp at ha;subst ha;exact x.rq
    ·cases ha
   ·simp at ha;subst ha;exact x.dp
 split at ha
 ·exact ofV_pv (o:=⟨I.v.ck,I.v.c0,I.v.cp,I.v.ct,I.v.cn⟩) x.cp a ha
 split at ha
 ·rcases List.mem_cons.1 ha with rfl|ha
  ·exact pn
  ·obtain⟨j,_,rfl⟩:=List.mem_map.1 ha
   exact pn
 ·cases ha
theorem accV_len {m:Nat} (hm:m≤1000) {I:Ins} (x:InsAt h pth I):(accV m I).length≤2000:=by
 have:=x.few
 unfold accV
 split
 ·simp
 split
 ·simp
 split
 ·have:=ofV_flat I.ops
  simp only[List.length_append,List.length_singleton]
  split
  ·simp only[List.length_singleton];omega
  ·simp only[List.length_nil];omega
 split
 ·have:=ofV_len ⟨I.v.ck,I.v.c0,I.v.cp,I.v.ct,I.v.cn⟩;omega
 split
 ·simp;omega
 ·simp
theorem forb_kind {v:Lnv} {a:Acv} (hf:forbV pth v a=true):((a.k == 5) || (a.k == 6))=decide (5≤a.k):=by
 have:a.k≤6:=by
  unfold forbV at hf
  split at hf
  ·omega
  ·split at hf
   ·omega
   ·split at hf
    ·omega
    ·cases hf
 rw[Bool.eq_iff_iff];simp;omega
theorem checkL_spec (x:GoodB h b nm pa lo co pth Is) (y:LnsAt h pth L s) (hL:L.length≤200) (hok:∀v∈L,okLn pth Is.length v) (hnil:pth nlS=[]) :
  CallsH Try.prog 11 #[.pointer (some ⟨b,0,none⟩),.slice s.a s.n s.c] h (fun v h'=>Grow h h'∧∃(out:Sv) (C:Nat→Nat→Bool),v=.tuple #[.slice out.a out.n out.c,.int .i64 0] ∧
   (∀k (hk:k<L.length),LsC (Is.map (·.v)) (hP pth L k) L[k].at_ (C k))∧Own h' h.size 3 out ((allF lo.n pth L Is (reachF (Is.map (·.v))) C Is.length).flatMap ccs)):=by
 apply F11
 unfold L11
 rintro p3 h1 rfl rfl
 have k1:=blk.new h #[Value.slice s.a s.n s.c] 32
 have g1:=Fr.push (fun _=>False) h (.cells #[Value.slice s.a s.n s.c] 32)
 generalize h.push (.cells #[Value.slice s.a s.n s.c] 32)=h1 at *
 have hfew:=x.few
 have hpos:=x.pos
 refine ldS_i (s:=s) (by rw[k1.cl];rfl) ?_
 refine cal_of (scope_spec (x.grow g1) (y.grow g1) hL hok) ?_
 rintro _ h2 ⟨g2,sc,C,rfl,hC,hsc⟩
 refine⟨sc,0,rfl,fun e=>by simp at e,fun _=>?_⟩
 have G2:=g1.trans g2
 refine cal_of (reach_spec (x.grow G2).B (x.grow G2).X.code (by simpa using hfew)) ?_
 rintro _ h3 ⟨g3,rs,rfl,rn,rr⟩
 refine⟨rs,rfl,?_⟩
 have hlen:(Is.map (·.v)).length=Is.length:=by simp
 rcases rr with rr|⟨gb,ra,hgb,bb⟩
 ·have:=congrArg List.length rr;simp at this;subst this;simp at hpos
 rw[hlen] at rn bb
 have G3:=G2.trans g3
 have hsc:=hsc.keep g3 fun _ _ h=>h
 have k3:=(g2.trans g3).blk k1 fun h=>h
 have lt3:=k3.lt
 generalize hcome:reachF (Is.map (·.v))=come at bb
 refine⟨fun out i hh=>∃q:Nat,i=q∧q≤Is.length∧Grow h3 hh∧Own hh h3.size 3 out ((allF lo.n pth L Is come C q).flatMap ccs),fun _ i _=>Is.length - i.toNat,⟨0,rfl,Nat.zero_le _,Fr.refl _ _,Own.nil _ _ _⟩,?_⟩
 rintro out _ h4 ⟨i,rfl,hi,g4,o4⟩
 have hal:=allF_len lo.n pth L Is come C i
 have hal2:i*L.length≤1000*200:=Nat.mul_le_mul (by omega) hL
 refine ifb_iff (q:=i<Is.length) (by rw[rn];simp) (fun hil=>?_) (fun hil=>?_)
 rotate_left
 ·obtain rfl:i=Is.length:=by omega
  exact⟨G3.trans g4,out,C,rfl,hC,own_weak o4 G3.size⟩
 have hsucc:allF lo.n pth L Is come C (i+1)=allF lo.n pth L Is come C i++rowF lo.n pth L Is come C i:=by
  unfold allF;rw[List.range_succ,List.flatMap_append];simp
 refine⟨fun o hh=>Grow h3 hh∧Own hh h3.size 3 o ((allF lo.n pth L Is come C (i+1)).flatMap ccs),?_,?_⟩
 rotate_left
 ·rintro o h14 ⟨g14,o14⟩
  rw[wrap_succ hil (by omega)]
  exact⟨⟨i+1,rfl,hil,g14,o14⟩,by simp;omega⟩
 have G4:=G3.trans g4
 have b4:=bb.frame g4 (fun h=>h)
 refine⟨_,ra,by omega,by rw[rn];omega,come i,?_,?_⟩
 ·rw[Int.toNat_natCast,Nat.mul_one,add_plain,Nat.zero_add];exact b4.cell hil
 rw[hsucc]
 unfold rowF
 refine⟨fun e=>?_,fun e=>?_⟩
 ·rw[if_neg (by simp at e;rw[e];simp),List.append_nil]
  exact⟨g4,o4⟩
 rw[if_pos (by simpa using e)]
 obtain⟨p,ep,t,ct,it⟩:=hsc.at_ i (by simpa using hil)
 simp only[List.getElem_map,List.getElem_range] at it
 have hscn:=hsc.len
 simp only[List.length_map,List.length_range] at hscn
 refine⟨p,ep,by omega,by rw[hscn];omega,t,by rw[Int.toNat_natCast];exact g4.clk ct (fun h=>h),?_⟩
 have hlen2:=fl.sel_len (fun k=>C k i) L.length
 have hmemL:∀y∈fl.sel (fun e=>C e i) L.length,∃q:Nat,y=q∧q<L.length:=fun y hy=>by
  unfold fl.sel at hy
  obtain⟨q,hq,rfl⟩:=List.mem_map.1 hy
  exact⟨q,rfl,List.mem_range.1 (List.mem_filter.1 hq).1⟩
 generalize fl.sel (fun k=>C k i) L.length=ls at it hlen2 hmemL
 have htn:=it.len
 generalize hpre:allF lo.n pth L Is come C i=pre at *
 refine⟨fun o j hh=>∃q:Nat,j=q∧q≤ls.length∧Grow h3 hh∧Own hh h3.size 3 o ((pre++(ls.take q).flatMap fun y=>clF lo.n pth L Is i y.toNat).flatMap ccs),fun _ j _=>ls.length - j.toNat,⟨0,rfl,Nat.zero_le _,g4,by simpa using o4⟩,?_⟩
 rintro o _ h5 ⟨q,rfl,hq,g5,o5⟩
 have hfl:=flat_le (fun y:Int=>clF_len lo.n pth L Is i y.toNat) (ls.take q)
 have hql2:(ls.take q).length≤200:=by rw[List.length_take];omega
 have on:=own_len ccs_len (by omega) o5
 rw[List.length_append] at on
 refine ifb_iff (q:=q<ls.length) (by rw[htn];simp) (fun hql=>?_) (fun hql=>?_)
 rotate_left
 ·obtain rfl:q=ls.length:=by omega
  rw[List.take_length] at o5
  exact⟨g5,o5⟩
 refine⟨fun o hh=>Grow h3 hh∧Own hh h3.size 3 o ((pre++(ls.take (q+1)).flatMap fun y=>clF lo.n pth L Is i y.toNat).flatMap ccs),?_,?_⟩
 rotate_left
 ·rintro o h13 ⟨g13,o13⟩
  rw[wrap_succ hql (by omega)]
  exact⟨⟨q+1,rfl,hql,g13,o13⟩,by simp;omega⟩
 obtain⟨p5,ep5,c5⟩:=(it.keep g5 fun _ _ h=>h).at_ q hql
 refine⟨p5,ep5,by omega,by rw[htn];omega,ls[q],by rw[Int.toNat_natCast];exact c5,?_⟩
 obtain⟨r,er,hr⟩:=hmemL _ (List.getElem_mem hql)
 have htk:ls.take (q+1)=ls.take q++[ls[q]]:=List.take_succ_eq_append_getElem hql
 have hnext:pre++(ls.take (q+1)).flatMap (fun y=>clF lo.n pth L Is i y.toNat)=(pre++(ls.take q).flatMap fun y=>clF lo.n pth L Is i y.toNat)++clF lo.n pth L Is i r:=by
  rw[htk,er,List.flatMap_append,List.append_assoc];simp
 rw[hnext,er]
 generalize hpre2:pre++(ls.take q).flatMap (fun y=>clF lo.n pth L Is i y.toNat)=pre2 at o5
 have hp2:pre2.length≤300000:=by rw[←hpre2,List.length_append];omega
 rintro p12 h6 rfl rfl
 have f6:=Fr.push (fun _=>False) h5 (.cells #[Value.int .i64 0] 3)
 have k6:=blk.new h5 #[Value.int .i64 0] 3
 refine sto_i k6 (by show 0<1;omega) ?_
 have k7:=k6.sc 0 (.int .i64 (r:Int))
 have f7:=Fr.scb (h5.push (.cells #[Value.int .i64 0] 3)) h5.size 0 (.int .i64 (r:Int))
 generalize Lf.sc (h5.push (.cells #[Value.int .i64 0] 3)) ⟨h5.size,0,none⟩ (.int .i64 (r:Int))=h7 at *
 have k7:blk h7 h5.size #[.int .i64 (r:Int)]:=k7
 have f57:Grow h5 h7:=f6.trans' f7 fun i hi e=>by omega
 clear f6 f7
 have G7:=G3.trans (g5.trans f57)
 have hiB:i<Is.length:=hil
 refine cal_of (acc_spec (x.grow G7).B (x.grow G7).X hiB) ?_
 rintro _ h8 ⟨sa,rfl,A8⟩
 refine⟨sa,rfl,?_⟩
 have G8:=G7.trans A8.g
 have hA:accF lo.n Is i=accV lo.n Is[i]:=by unfold accF;rw[List.getElem?_eq_getElem hiB]
 have hal3:=accV_len (m:=lo.n) x.X.lo.2 (x.X.ins _ (List.getElem_mem hiB))
 have hrL:=List.getElem?_eq_getElem hr
 have hpv:=accV_pv (m:=lo.n) (x.X.ins _ (List.getElem_mem hiB)) hnil
 have k8:=A8.g.blk k7 fun h=>h
 have K38:=(g5.trans (f57.trans A8.g)).blk k3 fun h=>h
 have hfst:fstF lo.n pth L Is r i=(accV lo.n Is[i]).find? (forbV pth L[r]):=by unfold fstF;rw[hrL,hA]
 have hpl:=y.pl _ (List.getElem_mem hr)
 refine cal_of (idxA (P:=forbV pth L[r]) (own_rows acs_len (by omega) A8.own) (by omega) fun hh gh a ha=>⟨_,_,rfl,⟨Try.f23,Try.func23,by kernel_rfl,by kernel_rfl⟩,?_⟩) ?_
 ·apply F23 (x1:=⟨h.size,0,none⟩) (x2:=⟨h5.size,0,none⟩)
  unfold L23
  refine newA (a:=a) fun hb bA fA=>?_
  have gB:=gh.trans fA
  refine ldS_i (s:=s) (by rw[(gB.blk K38 fun h=>h).cl];rfl) ?_
  refine ldI_i (x:=(r:Int)) (by rw[(gB.blk k8 fun h=>h).cl];rfl) ?_
  obtain⟨p9,ep9,hr9,c9⟩:=(y.grow (G8.trans gB)).rows.at_ r hr
  have yn:=y.rows.len
  refine⟨p9,ep9,by omega,by omega,?_⟩
  rw[Int.toNat_natCast]
  generalize L[r]=v at *
  refine⟨v.at_,v.l,v.s,v.mu,v.ow,v.pt,c9.at0,c9 1 _ rfl,c9 2 _ rfl,c9 3 _ rfl,c9 4 _ rfl,c9 5 _ rfl,?_⟩
  refine⟨a.l,a.s,a.k,by rw[bA.cl];rfl,by rw[add_plain,bA.cl];rfl,by rw[add_plain,bA.cl];rfl,?_⟩
  refine cal_of (forb_spec (hpl.grow (G8.trans gB)) ((hpv a ha).grow (G8.trans gB))) ?_
  rintro _ h' ⟨f',rfl⟩
  exact⟨_,rfl,fA.trans f',rfl⟩
 rintro _ h9 ⟨g9,idx,rfl,hidx⟩
 refine⟨idx,rfl,?_⟩
 have G9:=G8.trans g9
 have f59:=f57.trans (A8.g.trans g9)
 have o9:=o5.frame f59 fun _ _ h=>h
 have on9:=own_len ccs_len (by omega) o9
 rcases hidx with⟨rfl,hno⟩|⟨j,hj,rfl,hso⟩
 ·refine⟨fun e=>by simp at e,fun _=>?_⟩
  have:clF lo.n pth L Is i r=[]:=by unfold clF;rw[hfst,hno]
  rw[this,List.append_nil]
  exact⟨g5.trans f59,o9⟩
 ·refine⟨fun _=>?_,fun e=>by simp at e⟩
  have hcl:clF lo.n pth L Is i r=[⟨i,r,decide (5≤(accV lo.n Is[i])[j].k)⟩]:=by unfold clF;rw[hfst,hso]
  have hfk:=forb_kind (List.find?_some hso)
  rw[hcl]
  refine cal_of (acc_spec (x.grow G9).B (x.grow G9).X hiB) ?_
  rintro _ h10 ⟨sb,rfl,A10⟩
  refine⟨sb,rfl,?_⟩
  have rb:=own_rows acs_len (by omega) A10.own
  obtain⟨p10,ep10,hj10,c10⟩:=rb.at_ j hj
  have rbn:=rb.len
  refine⟨p10,ep10,by omega,by rw[rbn];omega,?_⟩
  rw[Int.toNat_natCast]
  refine ldI_i (c10 2 _ rfl) ?_
  refine ldI_i (x:=(r:Int)) (by rw[((g9.trans A10.g).blk k8 fun h=>h).cl];rfl) ?_
  rw[hfk]
  have o10:=o9.frame A10.g fun _ _ h=>h
  have g10:=(g5.trans f59).trans A10.g
  refine app1 (vs:=(ccs ⟨i,r,decide (5≤(accV lo.n Is[i])[j].k)⟩).toArray) rfl o10 rfl (one_ccs _) g10.size (by omega) (by omega) fun s' h' e' oo f n=>?_
  refine⟨g10.trans' f (fun a ha hc=>by have:=(o10.ge hc).1;omega),?_⟩
  simpa using oo
end
end Go.Proofs.Ytkpahlkendlahaa
namespace Go.Proofs.Ytkpahlkendlahaa
open Go Go.Lf
set_option linter.unusedVariables false
theorem sel_flat {β:Type} (f:Nat→Bool) (F:Nat→List β) (m:Nat):(fl.sel f m).flatMap (fun y=>F y.toNat)=(List.range m).flatMap fun k=>if f k=true then F k else []:=by
 induction m with
 | zero=>rfl
 | succ m ih=>
  rw[fl.sel_succ,List.flatMap_append,ih,List.range_succ,List.flatMap_append]
  congr 1
  cases hf:f m<;>simp[hf]
end Go.Proofs.Ytkpahlkendlahaa
namespace Go.Proofs.Ytkpahlkendlahaa
open Go Go.Lf
set_option linter.unusedVariables false
structure Ltv where
 at_:Int
 l:Int
 p:Sv
 xs:List Int
 mu:Bool
 ow:Bool
 fr:Int
abbrev lts (t:Ltv):List Value:=[.int .i64 t.at_,.int .i64 t.l,.slice t.p.a t.p.n t.p.c,.bool t.mu,.bool t.ow,.int .u64 t.fr]
structure LtAt (h:Heap) (T:List Ltv) (s:Sv):Prop where
 rows:Rows s 6 T.length fun i p=>∃hi:i<T.length,CsAt h p (lts T[i])
 path:∀t∈T,IntsAt h t.p t.xs
theorem LtAt.grow {h h':Heap} {T:List Ltv} {s:Sv} (x:LtAt h T s) (f:Grow h h'):LtAt h' T s:=
 ⟨⟨x.rows.len,fun i hi=>by obtain⟨p,e,hi,c⟩:=x.rows.at_ i hi;exact⟨p,e,hi,c.grow f⟩⟩,fun t ht=>(x.path t ht).keep f fun _ _ h=>h⟩
def bitF (f:Int) (k:Nat):Bool:=bitsI .and .u64 (f.fdiv (2 ^ (min ((k:Int).tmod 64).toNat IntKind.u64.bits))) 1 == 1
def mXs (xs:List Int):List Int:=(xs.take 3).map fun x=>um x 3 - 1
structure MadeOf (hh:Heap) (n:Nat) (t:Ltv) (v:Lnv):Prop where
 at_:v.at_=um t.at_ n
 l:v.l=um t.l 4
 mu:v.mu=t.mu
 ow:v.ow=t.ow
 s:PAt hh v.s (mXs t.xs)
 pt:PAt hh v.pt (fl.sel (bitF t.fr) n)
structure MadeAt (B n:Nat) (T:List Ltv) (hh:Heap) (out:Sv) (L:List Lnv):Prop where
 own:Own hh B 6 out (L.flatMap lns)
 len:L.length=T.length
 el:∀i (h1:i<L.length) (h2:i<T.length),MadeOf hh n T[i] L[i]
 q:∀v∈L,∀b,(v.s.own b∨v.pt.own b)→B≤b∧b<hh.size∧¬out.own b
theorem MadeOf.fr {h h':Heap} {n:Nat} {t:Ltv} {v:Lnv} {T:Nat→Prop} (x:MadeOf h n t v) (f:Fr T h h') (hT:∀b,(v.s.own b∨v.pt.own b)→¬T b):MadeOf h' n t v:=
 ⟨x.at_,x.l,x.mu,x.ow,x.s.fr f fun b hb=>hT b (.inl hb),x.pt.fr f fun b hb=>hT b (.inr hb)⟩
theorem MadeAt.grow {B n:Nat} {T:List Ltv} {h h':Heap} {out:Sv} {L:List Lnv} (x:MadeAt B n T h out L) (f:Grow h h'):MadeAt B n T h' out L:=
 ⟨x.own.frame f fun _ _ h=>h,x.len,fun i h1 h2=>(x.el i h1 h2).fr f fun _ _ h=>h,fun v hv b hb=>by have:=x.q v hv b hb;have:=f.size;exact⟨by omega,by omega,by simp_all⟩⟩
theorem sel_srt (f:Nat→Bool) (n:Nat):Srt (fl.sel f n):=by
 have hp:(fl.sel f n).Pairwise (·≤·):=by
  unfold fl.sel
  rw[List.pairwise_map]
  refine ((List.pairwise_lt_range (n:=n)).filter f).imp fun h=>?_
  omega
 intro i hi
 exact (List.pairwise_iff_getElem.1 hp) i (i+1) (by omega) hi (by omega)
theorem MadeAt.get {B n:Nat} {T:List Ltv} {h:Heap} {out:Sv} {L:List Lnv} (x:MadeAt B n T h out L):∀v∈L,∃t∈T,MadeOf h n t v:=fun v hv=>by
 obtain⟨i,hi,rfl⟩:=List.getElem_of_mem hv
 have:=x.len
 exact⟨_,List.getElem_mem (by omega),x.el i hi (by omega)⟩
theorem MadeAt.lns {B n:Nat} {T:List Ltv} {h:Heap} {out:Sv} {L:List Lnv} (x:MadeAt B n T h out L) (hT:T.length≤1000):LnsAt h (rdX h) L out:=
 ⟨own_rows lns_len (by omega) x.own,by have:=x.len;omega,fun v hv=>by
  obtain⟨t,_,m⟩:=x.get v hv
  unfold Pv;rw[rdX_eq m.s.ints];exact m.s,fun v hv=>by
  obtain⟨t,_,m⟩:=x.get v hv
  unfold Pv;rw[rdX_eq m.pt.ints];exact m.pt⟩
theorem MadeAt.ok {B n:Nat} {T:List Ltv} {h:Heap} {out:Sv} {L:List Lnv} (x:MadeAt B n T h out L) (hn:0<n):∀v∈L,okLn (rdX h) n v:=fun v hv=>by
 obtain⟨t,_,m⟩:=x.get v hv
 have:=um_in t.at_ (m:=(n:Int)) (by omega)
 refine⟨by rw[m.at_];omega,by rw[m.at_];omega,?_⟩
 rw[rdX_eq m.pt.ints]
 exact sel_srt _ _
section
variable {h:Heap} {nm:ByteArray} {pa:Int} {lo co:Sv} {s:Sv} {T:List Ltv} {n:Nat}
theorem made_spec (y:LtAt h T s) (hT:T.length≤1000) (hco:co.n=n) (hn:0<n) (hn2:n≤1000) :
  CallsH Try.prog 10 #[.agg (bvs nm pa lo co),.slice s.a s.n s.c] h (fun v h'=>Grow h h'∧∃(out:Sv) (L:List Lnv),v=.slice out.a out.n out.c∧MadeAt h.size n T h' out L):=by
 apply F10
 unfold L10
 rintro p2 h1 rfl rfl
 have k1:=blk.new h (bvs nm pa lo co) 30
 have g1:=Fr.push (fun _=>False) h (.cells (bvs nm pa lo co) 30)
 have z1:(h.push (.cells (bvs nm pa lo co) 30)).size=h.size+1:=by simp
 generalize h.push (.cells (bvs nm pa lo co) 30)=h1 at *
 have sn:=y.rows.len
 refine⟨fun out i hh=>∃(q:Nat) (L:List Lnv),i=q∧q≤T.length∧Grow h1 hh∧MadeAt h1.size n (T.take q) hh out L,fun _ i _=>T.length - i.toNat,⟨0,[],rfl,Nat.zero_le _,Fr.refl _ _,Own.nil _ _ _,rfl,fun i h1=>by simp at h1,fun v hv=>by cases hv⟩,?_⟩
 rintro out _ h2 ⟨q,L,rfl,hq,g2,M⟩
 have G2:=g1.trans g2
 have k2:=g2.blk k1 fun h=>h
 have hLl:=M.len
 rw[List.length_take] at hLl
 refine ifb_iff (q:=q<T.length) (by rw[sn];simp) (fun hqt=>?_) (fun hqt=>?_)
 rotate_left
 ·obtain rfl:q=T.length:=by omega
  rw[List.take_length] at M
  refine⟨G2,out,L,rfl,own_weak M.own (by omega),M.len,M.el,fun v hv b hb=>?_⟩
  have:=M.q v hv b hb
  exact⟨by omega,this.2⟩
 have row:∀ {hh:Heap},Grow h2 hh→∃p,s.a=some p∧CsAt hh (p.add (q*6)) (lts T[q]):=fun f=>by
  obtain⟨p,e,_,c⟩:=(y.grow (G2.trans f)).rows.at_ q hqt
  exact⟨p,e,c⟩
 have hpath:=y.path _ (List.getElem_mem hqt)
 have htk:T.take (q+1)=T.take q++[T[q]]:=List.take_succ_eq_append_getElem hqt
 generalize T[q]=t at row hpath htk
 obtain⟨p,ep,c0⟩:=row (Fr.refl _ h2)
 have row:∀ {hh:Heap},Grow h2 hh→CsAt hh (p.add (q*6)) (lts t):=fun f=>c0.grow f
 have hix:∀K:Addr→Prop,K p→ixS s (q:Int) K:=fun K k=>⟨p,ep,by omega,by rw[sn];omega,k⟩
 refine⟨fun hh=>Grow h2 hh,Fr.refl _ _,?_⟩
 refine hix _ (hix _ (hix _ (hix _ ?_)))
 rw[Int.toNat_natCast]
 refine⟨t.at_,fun hh f=>(row f).at0,co,fun hh f=>by rw[add_plain,(Fr.blk f k2 fun h=>h).cl];rfl,?_⟩
 have en:IntKind.u64.wrap ((co.n:Nat):Int)=(n:Int):=by rw[hco,IntKind.wrap_u64];omega
 dsimp only
 rw[en]
 refine⟨by omega,t.mu,fun hh f=>(row f) 3 _ rfl,t.ow,fun hh f=>(row f) 4 _ rfl,t.l,fun hh f=>(row f) 1 _ rfl,?_⟩
 dsimp only
 rw[um_w _ (by omega) (by omega),um_w _ (by omega) (by omega)]
 rintro p7 h3 rfl rfl
 have k7:=blk.new h2 (lns ⟨0,0,nlS,false,false,nlS⟩).toArray 51
 have f3:=Fr.push (fun _=>False) h2 (.cells (lns ⟨0,0,nlS,false,false,nlS⟩).toArray 51)
 refine⟨f3,?_⟩
 refine stoA_i k7 rfl (vs:=lns ⟨um t.at_ n,um t.l 4,nlS,t.mu,t.ow,nlS⟩) (one_lns _) fun h4 k7 f4=>?_
 have g4:Grow h2 h4:=f3.trans' f4 fun i hi e=>by omega
 have lt7:=k7.lt
 generalize hb7:h2.size=b7 at *
 refine⟨fun i hh=>∃(j:Nat) (sx:Sv),i=j∧j≤3∧j≤t.xs.length∧Grow h2 hh∧blk hh b7 (lns ⟨um t.at_ n,um t.l 4,sx,t.mu,t.ow,nlS⟩).toArray∧Own hh (b7+1) 1 sx (ints ((t.xs.take j).map fun x=>um x 3 - 1)),fun i _=>3 - i.toNat,⟨0,nlS,rfl,by omega,by omega,g4,k7,Own.nil _ _ _⟩,?_⟩
 rintro _ h5 ⟨j,sx,rfl,hj,hjx,g5,k5,o5⟩
 have px:=hpath.len
 have on5:=own_n o5
 rw[List.length_map,List.length_take] at on5
 have z5:=g5.size
 refine hix _ (ldS_i (s:=t.p) (row g5 2 _ rfl) ?_)
 refine ifb_iff (q:=j<t.xs.length∧j<3) (by simp[px];omega) (fun hjl=>?_) (fun hjl=>?_)
 ·refine ldS_i (s:=sx) (by rw[add_plain,add_plain,k5.cl];rfl) ?_
  refine hix _ (ldS_i (s:=t.p) (row g5 2 _ rfl) ?_)
  obtain⟨pp,epp,cpp⟩:=(hpath.keep (G2.trans g5) fun _ _ h=>h).at_ j hjl.1
  refine⟨pp,epp,by omega,by rw[px];omega,t.xs[j],by rw[Int.toNat_natCast];exact cpp,?_⟩
  dsimp only
  rw[um_w _ (by omega) (by omega)]
  have hu:=um_in t.xs[j] (m:=3) (by omega)
  rw[wrap64_id (x:=um t.xs[j] 3 - 1) (by omega) (by omega)]
  refine app1 rfl o5 rfl (by simp[Value.oneCell']) (by have:=k5.lt;omega) (by omega) (by omega) fun s' h7 e7 o7 f7 n7=>?_
  have k57:=f7.blk k5 fun hc=>by have:=(o5.ge hc).1;omega
  rw[add_plain,add_plain,Nat.zero_add]
  refine sto_i k57 (by show 2<6;omega) ?_
  have k8:=k57.sc 2 (.slice s'.a s'.n s'.c)
  have f8:=Fr.scb h7 b7 2 (.slice s'.a s'.n s'.c)
  generalize sc h7 ⟨b7,2,none⟩ (.slice s'.a s'.n s'.c)=h8 at k8 f8
  have k8:blk h8 b7 (lns ⟨um t.at_ n,um t.l 4,s',t.mu,t.ow,nlS⟩).toArray:=k8
  rw[wrap_succ (n:=9) (by omega) (by omega)]
  refine⟨⟨j+1,s',rfl,by omega,by omega,(g5.trans' f7 fun i hi e=>by have:=(o5.ge e).1;omega).trans' f8 fun i hi e=>by omega,k8,?_⟩,by simp;omega⟩
  have:=o7.frame f8 fun b hb e=>by have:=(o7.ge hb).1;omega
  have e:ints ((t.xs.take (j+1)).map fun x=>um x 3 - 1)=ints ((t.xs.take j).map fun x=>um x 3 - 1)++[Value.int .i64 (um t.xs[j] 3 - 1)]:=by
   rw[List.take_succ_eq_append_getElem hjl.1,List.map_append]
   unfold ints
   rw[List.map_append];rfl
  rw[e];exact this
 have hfull:(t.xs.take j).map (fun x=>um x 3 - 1)=mXs t.xs:=by
  unfold mXs
  congr 1
  rcases Nat.lt_or_ge j 3 with h3|h3
  ·have:j=t.xs.length:=by omega
   subst this
   rw[List.take_length,List.take_of_length_le (by omega)]
  ·obtain rfl:j=3:=by omega
   rfl
 rw[hfull] at o5
 refine⟨fun i hh=>∃(r:Nat) (sp:Sv),i=r∧r≤n∧Grow h2 hh∧blk hh b7 (lns ⟨um t.at_ n,um t.l 4,sx,t.mu,t.ow,sp⟩).toArray∧Own hh (b7+1) 1 sx (ints (mXs t.xs))∧Own hh (b7+1) 1 sp (ints (fl.sel (bitF t.fr) r))∧∀b,sp.own b→¬sx.own b,fun i _=>n - i.toNat,⟨0,nlS,rfl,Nat.zero_le _,g5,k5,o5,Own.nil _ _ _,fun b ⟨a,e,_⟩=>by cases e⟩,?_⟩
 rintro _ h9 ⟨r,sp,rfl,hr,g9,k9,ox9,op9,d9⟩
 have opn:=own_n op9
 have hsl:=fl.sel_len (bitF t.fr) r
 have z9:=g9.size
 refine ldS_i (s:=co) (by rw[add_plain,(g9.blk k2 fun h=>h).cl];rfl) ?_
 refine ifb_iff (q:=r<n) (by rw[hco];simp) (fun hrn=>?_) (fun hrn=>?_)
 ·refine⟨fun hh=>∃sp:Sv,Grow h2 hh∧blk hh b7 (lns ⟨um t.at_ n,um t.l 4,sx,t.mu,t.ow,sp⟩).toArray∧Own hh (b7+1) 1 sx (ints (mXs t.xs))∧Own hh (b7+1) 1 sp (ints (fl.sel (bitF t.fr) (r+1)))∧∀b,sp.own b→¬sx.own b,?_,?_⟩
  rotate_left
  ·rintro h13 ⟨sp',a1,a2,a3,a4,a5⟩
   rw[wrap_succ hrn (by omega)]
   exact⟨⟨r+1,sp',rfl,hrn,a1,a2,a3,a4,a5⟩,by simp;omega⟩
  refine hix _ (ldI_i (x:=t.fr) (row g9 5 _ rfl) ?_)
  refine⟨Int.tmod_nonneg _ (by omega),?_⟩
  rw[sel_app]
  show ifb (bitF t.fr r) _ _
  refine⟨fun e=>?_,fun e=>?_⟩
  ·rw[if_pos e]
   refine ldS_i (s:=sp) (by rw[add_plain,k9.cl];rfl) ?_
   refine app1 rfl op9 rfl (by simp[Value.oneCell']) (by have:=k9.lt;omega) (by omega) (by omega) fun s' h11 e11 o11 f11 n11=>?_
   have k11:=f11.blk k9 fun hc=>by have:=(op9.ge hc).1;omega
   have ox11:=ox9.frame f11 fun b hb hc=>d9 b hc hb
   rw[add_plain,Nat.zero_add]
   refine sto_i k11 (by show 5<6;omega) ?_
   have k12:=k11.sc 5 (.slice s'.a s'.n s'.c)
   have f12:=Fr.scb h11 b7 5 (.slice s'.a s'.n s'.c)
   generalize sc h11 ⟨b7,5,none⟩ (.slice s'.a s'.n s'.c)=h12 at k12 f12
   refine⟨s',(g9.trans' f11 fun i hi e=>by have:=(op9.ge e).1;omega).trans' f12 fun i hi e=>by omega,k12,ox11.frame f12 fun b hb e=>by have:=(ox11.ge hb).1;omega,?_,fun b hb hc=>?_⟩
   ·have:=o11.frame f12 fun b hb e=>by have:=(o11.ge hb).1;omega
    simpa using this
   ·rcases n11 b hb with h|h
    ·exact d9 b h hc
    ·have:=(ox9.ge hc).2;omega
  ·rw[if_neg (by rw[e];simp),List.append_nil]
   exact⟨sp,g9,k9,ox9,op9,d9⟩
 obtain rfl:r=n:=by omega
 refine⟨um t.at_ r,um t.l 4,sx,t.mu,t.ow,sp,by rw[k9.cl];rfl,by rw[add_plain,k9.cl];rfl,by rw[add_plain,k9.cl];rfl,by rw[add_plain,k9.cl];rfl,by rw[add_plain,k9.cl];rfl,by rw[add_plain,k9.cl];rfl,?_⟩
 have M9:=M.grow g9
 have on9:=own_len lns_len (by omega) M9.own
 refine app1 (vs:=(lns ⟨um t.at_ r,um t.l 4,sx,t.mu,t.ow,sp⟩).toArray) rfl M9.own rfl (one_lns _) (by have:=g2.size;omega) (by omega) (by omega) fun s' h' e' o f nn=>?_
 rw[wrap_succ hqt (by omega)]
 have oow:∀b,out.own b→b<b7:=fun b hb=>by have:=(M.own.ge hb).2;omega
 refine⟨⟨q+1,L++[⟨um t.at_ r,um t.l 4,sx,t.mu,t.ow,sp⟩],rfl,hqt,(g2.trans g9).trans' f fun a ha hc=>by have:=(M9.own.ge hc).1;omega,by simpa using o,by rw[htk];simp;omega,fun i i1 i2=>?_,fun v hv b hb=>?_⟩,by simp;omega⟩
 ·by_cases hi:i<L.length
  ·have hi2:i<(T.take q).length:=by rw[List.length_take];omega
   rw[List.getElem_append_left hi]
   have e2:(T.take (q+1))[i]=(T.take q)[i]:=by simp[htk,List.getElem_append_left hi2]
   rw[e2]
   exact (M9.el i hi hi2).fr f fun b hb=>(M9.q _ (List.getElem_mem hi) b hb).2.2
  ·obtain rfl:i=L.length:=by simp at i1;omega
   rw[List.getElem_concat_length rfl]
   have e2:(T.take (q+1))[L.length]=t:=by
    have h3:(T.take q).length=L.length:=by rw[List.length_take];omega
    simp[htk,←h3]
   rw[e2]
   refine⟨rfl,rfl,rfl,rfl,?_,?_⟩
   ·exact PAt.fr ⟨own_ints ox9,own_cap ox9,by unfold mXs;simp;omega⟩ f fun b hb hc=>by have:=oow b hc;have:=(ox9.ge hb).1;omega
   ·exact PAt.fr ⟨own_ints op9,own_cap op9,by omega⟩ f fun b hb hc=>by have:=oow b hc;have:=(op9.ge hb).1;omega
 ·rcases List.mem_append.1 hv with hv|hv
  ·obtain⟨q1,q2,q3⟩:=M.q v hv b hb
   have:=f.size
   refine⟨q1,by omega,fun hc=>?_⟩
   rcases nn b hc with h|h
   ·exact q3 h
   ·omega
  ·simp only[List.mem_singleton] at hv
   subst hv
   have hb':b7+1≤b∧b<h9.size:=hb.elim (fun h=>ox9.ge h) fun h=>op9.ge h
   have:=f.size
   have:=g2.size
   refine⟨by omega,by omega,fun hc=>?_⟩
   rcases nn b hc with h|h
   ·have:=oow b h;omega
   ·omega
end
end Go.Proofs.Ytkpahlkendlahaa
namespace Go.Proofs.Ytkpahlkendlahaa
open Go Go.Lf
set_option linter.unusedVariables false
theorem Pv.re {h h':Heap} {s:Sv} (x:Pv h (rdX h) s) (g:Grow h h'):rdX h' s=rdX h s:=rdX_eq (PAt.grow x g).ints
theorem BdAt.re {h h':Heap} {Is:List Ins} {lo co:Sv} (x:BdAt h (rdX h) Is lo co) (g:Grow h h'):BdAt h' (rdX h') Is lo co:=by
 have y:=x.grow g
 refine⟨y.code,fun I hI=>?_,y.lo⟩
 have z:=y.ins I hI
 have w:=x.ins I hI
 refine⟨z.ops,z.few,?_,?_,?_,fun o ho=>?_⟩
 ·unfold Pv;rw[Pv.re w.dp g];exact z.dp
 ·unfold Pv;rw[Pv.re w.rq g];exact z.rq
 ·unfold Pv;rw[Pv.re w.cp g];exact z.cp
 ·unfold Pv;rw[Pv.re (w.op o ho) g];exact z.op o ho
theorem GoodB.re {h h':Heap} {b:Nat} {nm:ByteArray} {pa:Int} {lo co:Sv} {Is:List Ins} (x:GoodB h b nm pa lo co (rdX h) Is) (g:Grow h h'):GoodB h' b nm pa lo co (rdX h') Is:=by
 refine⟨g.blk x.B fun h=>h,x.X.re g,x.pa,x.pos,x.few,fun i hi=>?_⟩
 have w:=x.X.ins _ (List.getElem_mem hi)
 exact okI_congr (Pv.re w.dp g).symm (Pv.re w.rq g).symm (Pv.re w.cp g).symm (fun o ho=>(Pv.re (w.op o ho) g).symm) (x.ok i hi)
theorem pv_nil (h:Heap):Pv h (rdX h) nlS:=PAt.nil h
def ivLend:Iv:={ zIv with k:=3,d0:=2,rk:=2,rp:=1,rm:=true }
def ivRead (g:Nat):Iv:={ zIv with k:=3,rk:=1,ra:=⟨some ⟨g,0,none⟩,1,1⟩ }
def ivAb:Iv:={ zIv with k:=7 }
def isF (g:Nat):List Ins:=[⟨ivLend,[]⟩,⟨ivRead g,[⟨2,1,nlS,0,0⟩]⟩,⟨ivAb,[]⟩]
theorem reachF_F (g:Nat):∀i,i<3→reachF ((isF g).map (·.v)) i=true:=by
 intro i hi
 match i,hi with
 | 0,_=>rfl
 | 1,_=>rfl
 | 2,_=>rfl
def ivL (v:Iv):List Value:=[.int .i64 v.k,.int .i64 v.lc,.int .i64 v.d0,.slice v.dp.a v.dp.n v.dp.c,.int .i64 v.rk,.slice v.ra.a v.ra.n v.ra.c,.int .i64 v.rp,.slice v.rq.a v.rq.n v.rq.c,.bool v.rm,.string v.rn,.int .i64 v.rN,.slice v.rt.a v.rt.n v.rt.c,.int .i64 v.ck,.int .i64 v.c0,.slice v.cp.a v.cp.n v.cp.c,.int .i64 v.ct,.int .u64 v.cn,.int .i64 v.to,.int .i64 v.el,.int .i64 v.a1,.int .i64 v.a2]
theorem ivL_get (v:Iv) (j:Nat):(ivL v)[j]?=(ivs v)[j]?:=by simp[ivL]
theorem ivL_len (v:Iv):(ivL v).length=21:=rfl
theorem code63 {h:Heap} {b:Nat} {a1 a2 a3:Iv} (k:blk h b (ivL a1++(ivL a2++ivL a3)).toArray):CodeAt h ⟨some ⟨b,0,none⟩,3,3⟩ [a1,a2,a3]:=
 ⟨rfl,by simp,fun i hi=>⟨_,rfl,fun j u hu=>by
  have hj:j<21:=by
   rcases Nat.lt_or_ge j 21 with h|h
   ·exact h
   ·rw[Array.getElem?_eq_none (by simpa using h)] at hu;cases hu
  rw[add_plain,add_plain,k.cl,List.getElem?_toArray]
  rw[←ivL_get] at hu
  match i,hi with
  | 0,_=>
   rw[Nat.zero_mul,Nat.zero_add,List.getElem?_append_left (by rw[ivL_len];omega)];exact hu
  | 1,_=>
   rw[List.getElem?_append_right (by rw[ivL_len];omega),ivL_len,List.getElem?_append_left (by rw[ivL_len];omega)]
   have e:0+1*21+j - 21=j:=by omega
   rw[e];exact hu
  | 2,_=>
   rw[List.getElem?_append_right (by rw[ivL_len];omega),ivL_len,List.getElem?_append_right (by rw[ivL_len];omega),ivL_len]
   have e:0+2*21+j - 21 - 21=j:=by omega
   rw[e];exact hu⟩⟩
section
variable {h:Heap}
theorem hdI {S:Heap→Prop} {p:Addr} {v:Iv} {K:Int→Int→Int→Sv→Int→Sv→Int→Sv→Bool→ByteArray→Int→Sv→Int→Int→Sv→Int→Int→Int→Int→Int→Int→Prop} (x:∀h,S h→Iv21 h p v)
  (k:K v.k v.lc v.d0 v.dp v.rk v.ra v.rp v.rq v.rm v.rn v.rN v.rt v.ck v.c0 v.cp v.ct v.cn v.to v.el v.a1 v.a2) :
  ∃(y:Int) (y1:Int) (y2:Int) (y3:Sv) (y4:Int) (y5:Sv) (y6:Int) (y7:Sv) (y8:Bool) (y9:ByteArray) (y10:Int) (y11:Sv) (y12:Int) (y13:Int) (y14:Sv) (y15:Int) (y16:Int) (y17:Int) (y18:Int) (y19:Int) (y20:Int),
   hld S p (.int .i64 y)∧hld S (p.add 1) (.int .i64 y1)∧hld S (p.add 2) (.int .i64 y2)∧hld S (p.add 3) (.slice y3.a y3.n y3.c)∧hld S (p.add 4) (.int .i64 y4)∧hld S (p.add 5) (.slice y5.a y5.n y5.c)∧hld S (p.add 6) (.int .i64 y6)∧hld S (p.add 7) (.slice y7.a y7.n y7.c)∧hld S (p.add 8) (.bool y8)∧hld S (p.add 9) (.string y9)∧hld S (p.add 10) (.int .i64 y10)∧hld S (p.add 11) (.slice y11.a y11.n y11.c)∧hld S (p.add 12) (.int .i64 y12)∧hld S (p.add 13) (.int .i64 y13)∧hld S (p.add 14) (.slice y14.a y14.n y14.c)∧hld S (p.add 15) (.int .i64 y15)∧hld S (p.add 16) (.int .u64 y16)∧hld S (p.add 17) (.int .i64 y17)∧hld S (p.add 18) (.int .i64 y18)∧hld S (p.add 19) (.int .i64 y19)∧hld S (p.add 20) (.int .i64 y20) ∧
   K y y1 y2 y3 y4 y5 y6 y7 y8 y9 y10 y11 y12 y13 y14 y15 y16 y17 y18 y19 y20:=by
 exact⟨v.k,v.lc,v.d0,v.dp,v.rk,v.ra,v.rp,v.rq,v.rm,v.rn,v.rN,v.rt,v.ck,v.c0,v.cp,v.ct,v.cn,v.to,v.el,v.a1,v.a2,fun h hs=>by have h0:=x h hs 0 _ rfl;rwa [add_zero] at h0,fun h hs=>x h hs 1 _ rfl,fun h hs=>x h hs 2 _ rfl,fun h hs=>x h hs 3 _ rfl,fun h hs=>x h hs 4 _ rfl,fun h hs=>x h hs 5 _ rfl,fun h hs=>x h hs 6 _ rfl,fun h hs=>x h hs 7 _ rfl,fun h hs=>x h hs 8 _ rfl,fun h hs=>x h hs 9 _ rfl,fun h hs=>x h hs 10 _ rfl,fun h hs=>x h hs 11 _ rfl,fun h hs=>x h hs 12 _ rfl,fun h hs=>x h hs 13 _ rfl,fun h hs=>x h hs 14 _ rfl,fun h hs=>x h hs 15 _ rfl,fun h hs=>x h hs 16 _ rfl,fun h hs=>x h hs 17 _ rfl,fun h hs=>x h hs 18 _ rfl,fun h hs=>x h hs 19 _ rfl,fun h hs=>x h hs 20 _ rfl,k⟩
theorem good_F {b g gc:Nat} {lo:Sv} (hlo:lo.n=3) (B:blk h b (bvs ⟨#[]⟩ 0 lo ⟨some ⟨gc,0,none⟩,3,3⟩)) (ko:blk h g (ovs ⟨2,1,nlS,0,0⟩).toArray) (kc:blk h gc (ivL ivLend++(ivL (ivRead g)++ivL ivAb)).toArray) :
  GoodB h b ⟨#[]⟩ 0 lo ⟨some ⟨gc,0,none⟩,3,3⟩ (rdX h) (isF g):=by
 have pl:∀l:Int,0≤l→l<3→okPl lo.n l (rdX h nlS):=fun l h0 h1=>⟨h0,by rw[hlo];exact h1,fun x hx=>by cases hx⟩
 refine⟨B,⟨code63 kc,fun I hI=>?_,by omega⟩,by omega,by simp[isF],by simp[isF],fun i hi=>?_⟩
 ·simp only[isF,List.mem_cons,List.not_mem_nil,or_false] at hI
  rcases hI with rfl|rfl|rfl
  ·exact⟨ops_nil h,by simp,pv_nil h,pv_nil h,pv_nil h,by simp⟩
  ·exact⟨ops_one ko,by simp,pv_nil h,pv_nil h,pv_nil h,fun o ho=>by simp at ho;subst ho;exact pv_nil h⟩
  ·exact⟨ops_nil h,by simp,pv_nil h,pv_nil h,pv_nil h,by simp⟩
 ·match i,hi with
  | 0,_=>exact .inr (.inl ⟨rfl,by simp[isF],pl 2 (by omega) (by omega),.inr (.inl ⟨rfl,rfl,pl 1 (by omega) (by omega)⟩)⟩)
  | 1,_=>exact .inr (.inl ⟨rfl,by simp[isF],pl 0 (by omega) (by omega),.inl ⟨rfl,_,rfl,.inl rfl,pl 1 (by omega) (by omega)⟩⟩)
  | 2,_=>exact .inr (.inr (.inr (.inr (.inr rfl))))
theorem all_F {g:Nat} {pt:Sv} {C:Nat→Nat→Bool} (hC:LsC ((isF g).map (·.v)) (hP (rdX h) [⟨0,1,nlS,true,false,pt⟩] 0) 0 (C 0)) :
  (rdX h pt=[1]→allF 3 (rdX h) [⟨0,1,nlS,true,false,pt⟩] (isF g) (reachF ((isF g).map (·.v))) C 3=[⟨1,0,false⟩])∧(rdX h pt=[]→allF 3 (rdX h) [⟨0,1,nlS,true,false,pt⟩] (isF g) (reachF ((isF g).map (·.v))) C 3=[]):=by
 have r0:=reachF_F g 0 (by omega)
 have r1:=reachF_F g 1 (by omega)
 have r2:=reachF_F g 2 (by omega)
 have hsel:∀f:Nat→Bool,fl.sel f 1=if f 0=true then [0] else []:=fun f=>by unfold fl.sel;cases hf:f 0<;>simp[List.range_succ,hf]
 have s0:succL ((isF g).map (·.v)) 0=[1]:=rfl
 have s1:succL ((isF g).map (·.v)) 1=[2]:=rfl
 have s2:succL ((isF g).map (·.v)) 2=[]:=rfl
 refine⟨fun hp=>?_,fun hp=>?_⟩
 ·have hhp:∀i,hP (rdX h) [⟨0,1,nlS,true,false,pt⟩] 0 i=decide (i=1):=fun i=>by
   show decide ((i:Int)∈rdX h pt)=_
   rw[hp];simp;omega
  have c1:C 0 1=true:=hC.cl 0 (by simp[isF]) (.inl rfl) 1 (by rw[s0];simp) (by rw[hhp];rfl)
  have cl:∀i,i<3→C 0 i=true→i=1:=fun i hi hc=>by
   have:=hC.ls (fun i=>decide (i=1)) (fun i hi hc y hy hp=>by rw[hhp] at hp;exact hp) i (by simp[isF];omega) hc
   simpa using this
  have c0:C 0 0=false:=by
   cases hc:C 0 0
   ·rfl
   ·have:=cl 0 (by omega) hc;omega
  have c2:C 0 2=false:=by
   cases hc:C 0 2
   ·rfl
   ·have:=cl 2 (by omega) hc;omega
  unfold allF
  simp only[List.range_succ,List.range_zero,List.nil_append,List.flatMap_append,List.flatMap_cons,List.flatMap_nil,List.append_nil]
  unfold rowF
  simp only[List.length_singleton,hsel,r0,r1,r2,c0,c1,c2,if_true,List.flatMap_cons,List.flatMap_nil,List.append_nil]
  simp
  rfl
 ·have cl:∀i,i<3→C 0 i=false:=fun i hi=>by
   cases hc:C 0 i
   ·rfl
   ·have:=hC.ls (fun _=>false) (fun i hi hc y hy hp2=>by
     have:hP (rdX h) [⟨0,1,nlS,true,false,pt⟩] 0 y.toNat=decide (((y.toNat:Nat):Int)∈rdX h pt):=rfl
     rw[this,hp] at hp2;simp at hp2) i (by simp[isF];omega) hc
    cases this
  unfold allF
  simp only[List.range_succ,List.range_zero,List.nil_append,List.flatMap_append,List.flatMap_cons,List.flatMap_nil,List.append_nil]
  unfold rowF
  simp only[List.length_singleton,hsel,r0,r1,r2,cl 0 (by omega),cl 1 (by omega),cl 2 (by omega),if_true]
  simp
theorem lns_one {b:Nat} {v:Lnv} (k:blk h b (lns v).toArray) (h1:Pv h (rdX h) v.s) (h2:Pv h (rdX h) v.pt):LnsAt h (rdX h) [v] ⟨some ⟨b,0,none⟩,1,1⟩:=
 ⟨⟨rfl,fun i hi=>⟨_,rfl,hi,by
  obtain rfl:i=0:=by simpa using hi
  have:=CsAt.blk k
  simpa [add_zero] using this⟩⟩,by simp,fun w hw=>by simp at hw;subst hw;exact h1,fun w hw=>by simp at hw;subst hw;exact h2⟩
theorem forbidden_spec (h:Heap):CallsH Try.prog 8 #[] h (fun v h'=>v=.bool true∧Grow h h'):=by
 apply F8
 unfold L8
 rintro p1 h1 rfl rfl
 have k1:=blk.new h (ovs ⟨0,0,nlS,0,0⟩).toArray 66
 have f1:=Fr.push (fun _=>False) h (.cells (ovs ⟨0,0,nlS,0,0⟩).toArray 66)
 refine stoA_i k1 rfl (vs:=ovs ⟨2,1,nlS,0,0⟩) (one_ovs _) fun h2 k2 f2=>?_
 have g2:Grow h h2:=f1.trans' f2 fun i hi e=>by omega
 refine⟨2,1,nlS,0,0,by rw[k2.cl];rfl,by rw[add_plain,k2.cl];rfl,by rw[add_plain,k2.cl];rfl,by rw[add_plain,k2.cl];rfl,by rw[add_plain,k2.cl];rfl,?_⟩
 rintro s12 h3 rfl rfl
 have f3:=Fr.push (fun _=>False) h2 (.cells (ovs ⟨2,1,nlS,0,0⟩).toArray 66)
 have k3:=blk.new h2 (ovs ⟨2,1,nlS,0,0⟩).toArray 66
 have e3:h2.push (.cells #[Value.int .i64 2,.int .i64 1,.slice nlS.a nlS.n nlS.c,.int .i64 0,.int .u64 0] 66)=h2.push (.cells (ovs ⟨2,1,nlS,0,0⟩).toArray 66):=rfl
 rw[e3]
 generalize h2.push (.cells (ovs ⟨2,1,nlS,0,0⟩).toArray 66)=h3 at *
 generalize h2.size=g at *
 refine mineI (v:=ivRead g) fun h5 k5 f5=>mineI (v:=ivLend) fun h7 k7 f7=>?_
 have k5:=f7.blk k5 fun h=>h
 have k3:=(f5.trans f7).blk k3 fun h=>h
 have G7:=((g2.trans f3).trans f5).trans f7
 have T5:=Iv21.blk k5
 have T7:=Iv21.blk k7
 have hd:∀ {p:Addr} {v:Iv} {hh:Heap},Iv21 h7 p v→Grow h7 hh→Iv21 hh p v:=fun T f=>T.fr f fun h=>h
 refine⟨fun a b=>Grow a b,⟨fun _=>Fr.refl _ _,fun _ _ _ x y=>x.trans y,fun _ _ x=>x.size⟩,?_⟩
 refine hdI (S:=fun hh=>Grow h7 hh) (fun hh f=>hd T7 f) (hdI (S:=fun hh=>Grow h7 hh) (fun hh f=>hd T5 f) ?_)
 refine⟨fun s lo hi hh=>s.n=3,fun _ _ _ _ _ _ h=>h,fun s lo hi hh=>∃gc,s=⟨some ⟨gc,0,none⟩,3,3⟩∧blk hh gc (ivL ivLend++(ivL (ivRead g)++ivL ivAb)).toArray,fun _ _ _ _ _ f ⟨gc,e,k⟩=>⟨gc,e,Fr.blk f k fun h=>h⟩,?_,?_,?_⟩
 ·intro h8 f8
  refine⟨by omega,by omega,by omega,by omega,?_⟩
  rintro s19 h9 rfl rfl
  exact⟨Fr.push _ _ _,rfl⟩
 ·intro h12 f12
  rintro s23 h13 rfl rfl
  refine⟨Fr.push _ _ _,_,rfl,?_⟩
  exact blk.new h12 (ivL ivLend++(ivL (ivRead g)++ivL ivAb)).toArray 74
 rintro lo lo0 hi0 s23 lo4 hi4 h16 f16 _ hlo ⟨gc,rfl,kc⟩
 rintro p25 h17 rfl rfl
 have kb:=blk.new h16 (bvs ⟨#[]⟩ 0 lo ⟨some ⟨gc,0,none⟩,3,3⟩) 30
 have f17:=Fr.push (fun _=>False) h16 (.cells (bvs ⟨#[]⟩ 0 lo ⟨some ⟨gc,0,none⟩,3,3⟩) 30)
 generalize h16.push (.cells (bvs ⟨#[]⟩ 0 lo ⟨some ⟨gc,0,none⟩,3,3⟩) 30)=h17 at *
 have good:=good_F hlo kb ((f16.trans f17).blk k3 fun h=>h) (f17.blk kc fun h=>h)
 rintro s29 h18 rfl rfl
 have f18:=Fr.push (fun _=>False) h17 (.cells #[Value.int .i64 1] 3)
 have o18:Own (h17.push (.cells #[Value.int .i64 1] 3)) 0 1 ⟨some ⟨h17.size,0,none⟩,1,1⟩ (ints [1]):=own_new1 (E:=3) (cs:=#[Value.int .i64 1]) (Nat.zero_le _) rfl
 generalize h17.push (.cells #[Value.int .i64 1] 3)=h18 at *
 generalize (⟨some ⟨h17.size,0,none⟩,1,1⟩:Sv)=pt at *
 rintro s31 h19 rfl rfl
 have k19:=blk.new h18 (lns ⟨0,1,nlS,true,false,pt⟩).toArray 51
 have f19:=Fr.push (fun _=>False) h18 (.cells (lns ⟨0,1,nlS,true,false,pt⟩).toArray 51)
 have e19:h18.push (.cells #[Value.int .i64 0,.int .i64 1,.slice nlS.a nlS.n nlS.c,.bool true,.bool false,.slice pt.a pt.n pt.c] 51)=h18.push (.cells (lns ⟨0,1,nlS,true,false,pt⟩).toArray 51):=rfl
 rw[e19]
 generalize h18.push (.cells (lns ⟨0,1,nlS,true,false,pt⟩).toArray 51)=h19 at *
 have o19:=o18.frame f19 fun _ _ h=>h
 have p19:PAt h19 pt [1]:=⟨own_ints o19,own_cap o19,by simp⟩
 have r19:=rdX_eq p19.ints
 have G19:=f18.trans f19
 have good19:=good.re G19
 have L19:=lns_one k19 (pv_nil _) (by unfold Pv;rw[r19];exact p19)
 refine cal_of (checkL_spec good19 L19 (by simp) (fun v hv=>?_) rfl) ?_
 ·simp only[List.mem_singleton] at hv
  subst hv
  refine⟨by show (0:Int)≤0;omega,by show (0:Int)<_;simp[isF],?_⟩
  show Srt (rdX h19 pt)
  rw[r19]
  intro i hi
  simp at hi
 rintro _ h20 ⟨g20,x32,C,rfl,hC,o32⟩
 refine⟨x32,0,rfl,?_⟩
 have hall:=(all_F (hC 0 (by simp))).1 r19
 have hlo3:lo.n=3:=hlo
 rw[hlo3,show (isF g).length=3 from rfl,hall] at o32
 rintro s39 h21 rfl rfl
 have k21:=blk.new h20 (lns ⟨0,1,nlS,true,false,nlS⟩).toArray 51
 have f21:=Fr.push (fun _=>False) h20 (.cells (lns ⟨0,1,nlS,true,false,nlS⟩).toArray 51)
 have e21:h20.push (.cells #[Value.int .i64 0,.int .i64 1,.slice nlS.a nlS.n nlS.c,.bool true,.bool false,.slice nlS.a nlS.n nlS.c] 51)=h20.push (.cells (lns ⟨0,1,nlS,true,false,nlS⟩).toArray 51):=rfl
 rw[e21]
 generalize h20.push (.cells (lns ⟨0,1,nlS,true,false,nlS⟩).toArray 51)=h21 at *
 have good21:=good19.re (g20.trans f21)
 refine cal_of (checkL_spec good21 (lns_one k21 (pv_nil _) (pv_nil _)) (by simp) (fun v hv=>?_) rfl) ?_
 ·simp only[List.mem_singleton] at hv
  subst hv
  refine⟨by show (0:Int)≤0;omega,by show (0:Int)<_;simp[isF],?_⟩
  intro i hi
  have:rdX h21 nlS=[]:=rfl
  simp[this] at hi
 rintro _ h22 ⟨g22,x40,D,rfl,hD,o40⟩
 refine⟨x40,0,rfl,?_⟩
 have hall2:=(all_F (hD 0 (by simp))).2 rfl
 rw[hlo3,show (isF g).length=3 from rfl,hall2] at o40
 have n40:=own_len ccs_len (by omega) o40
 have n32:=own_len ccs_len (by omega) o32
 have o32:=o32.frame (f21.trans g22) fun _ _ h=>h
 have Gend:Grow h h22:=((((G7.trans f16).trans f17).trans G19).trans g20).trans (f21.trans g22)
 refine⟨fun c=>c=true,⟨fun _=>?_,fun e=>?_⟩,?_⟩
 ·obtain⟨p,ep,hi,c⟩:=(own_rows ccs_len (by omega) o32).at_ 0 (by simp)
  rw[Nat.zero_mul,add_zero] at c
  exact⟨p,ep,by omega,by rw[n32];simp,1,0,false,c.at0,c 1 _ rfl,c 2 _ rfl,rfl⟩
 ·rw[n32] at e;simp at e
 ·rintro _ rfl
  refine⟨?_,Gend⟩
  rw[n40];rfl
end
end Go.Proofs.Ytkpahlkendlahaa
namespace Go.Proofs.Ytkpahlkendlahaa
open Go Go.Lf
set_option linter.unusedVariables false
theorem one_bvs (nm:ByteArray) (pa:Int) (lo co:Sv):∀u∈(bvs nm pa lo co).toList,u.oneCell'=true:=by
 intro u hu
 simp only[List.mem_cons,List.not_mem_nil,or_false] at hu
 rcases hu with rfl|rfl|rfl|rfl<;>rfl
def FrOk (T:List Ltv):Prop:=∀t∈T,0≤t.fr∧t.fr<18446744073709551616
section
variable {h:Heap}
theorem mineB {nm:ByteArray} {pa:Int} {lo co:Sv} {K:Addr→Heap→Prop} (k:∀h',blk h' h.size (bvs nm pa lo co)→Grow h h'→K ⟨h.size,0,none⟩ h'):new 30 (bvs ⟨#[]⟩ 0 nlS nlS) h fun p h1=>stoA h1 p (bvs nm pa lo co).toList fun h2=>K p h2:=by
 rintro p h1 rfl rfl
 have b1:=blk.new h (bvs ⟨#[]⟩ 0 nlS nlS) 30
 have f1:=Fr.push (fun _=>False) h (.cells (bvs ⟨#[]⟩ 0 nlS nlS) 30)
 exact stoA_i b1 rfl (one_bvs _ _ _ _) fun h2 b2 f2=>k h2 b2 (f1.trans' f2 fun i hi e=>by omega)
theorem good_of {h4 h6:Heap} {nm:ByteArray} {pr:Int} {lo co:Sv} {Is:List Ins} {b m:Nat} (kb:blk h6 b (bvs nm pr lo co)) (g:Grow h4 h6) (h0:0≤pr) (h1:pr<4) (hlo:lo.n=4) (hl:Is.length=m+1) (hm:m≤25) (X:BdAt h4 (rdX h4) Is lo co) (ok:∀i (hi:i<Is.length),okI (rdX h4) 4 Is.length i Is[i]) :
  GoodB h6 b nm pr lo co (rdX h6) Is:=by
 refine⟨kb,X.re g,by omega,by omega,by omega,fun i hi=>?_⟩
 have w:=X.ins _ (List.getElem_mem hi)
 rw[hlo]
 exact okI_congr (Pv.re w.dp g).symm (Pv.re w.rq g).symm (Pv.re w.cp g).symm (fun o ho=>(Pv.re (w.op o ho) g).symm) (ok i hi)
end
end Go.Proofs.Ytkpahlkendlahaa
namespace Go.Proofs.Ytkpahlkendlahaa
open Go Go.Lf
set_option linter.unusedVariables false
theorem own_stoC {h:Heap} {B sz:Nat} {s:Sv} {xs:List Value} (o:Own h B sz s xs) {c:Nat} (hc:c<s.n*sz) {v:Value} (h1:v.oneCell'=true) {p:Addr} (hp:s.a=some p) {K:Heap→Prop}
  (k:∀h',Own h' B sz s (xs.set c v)→Fr s.own h h'→K h'):sto h (p.add c) v K:=by
 rcases o.mem with⟨e,e2,_⟩|⟨g,cur,e,hB,kk,hn,hs,ht⟩
 ·rw[e] at hp;cases hp
 ·rw[e] at hp
  simp only[Option.some.injEq] at hp
  subst hp
  have hcc:c<cur.size:=by rw[hs];exact Nat.lt_of_lt_of_le hc (Nat.mul_le_mul_right _ hn)
  rw[add_plain,Nat.zero_add]
  refine sto_i kk hcc (k _ ⟨by rw[List.length_set];exact o.len,.inr ⟨g,_,e,hB,kk.sc c v,hn,by simp[hs],?_⟩⟩ ((Fr.scb h g c v).mono fun i _ hi=>⟨_,e,hi.symm⟩))
  rw[←ht]
  simp[List.take_set]
theorem flat_set {α:Type} {f:α→List Value} {sz:Nat} (hf:∀a,(f a).length=sz) {c:Nat} {v:Value} {a':α}:∀(l:List α) (i:Nat) (hi:i<l.length),(f l[i]).set c v=f a'→c<sz→(l.flatMap f).set (i*sz+c) v=(l.set i a').flatMap f
 | a :: l,0,_,he,hc=>by
  simp only[List.getElem_cons_zero] at he
  rw[List.set_cons_zero,List.flatMap_cons,List.flatMap_cons,Nat.zero_mul,Nat.zero_add,List.set_append_left _ _ (by rw[hf];exact hc),he]
 | a :: l,i+1,hi,he,hc=>by
  have:=flat_set hf l i (by simpa using hi) (by simpa using he) hc
  rw[List.set_cons_succ,List.flatMap_cons,List.flatMap_cons,List.set_append_right _ _ (by rw[hf,Nat.succ_mul];omega),hf,←this]
  congr 2
  rw[Nat.succ_mul];omega
theorem own_empty {h:Heap} {B sz:Nat} {E:TypeId} (hB:B≤h.size):Own (h.push (.cells #[] E)) B sz ⟨some ⟨h.size,0,none⟩,0,0⟩ []:=
 ⟨by simp,.inr ⟨h.size,#[],rfl,hB,blk.new h #[] E,Nat.le_refl _,by simp,by simp⟩⟩
theorem allF_mem {m:Nat} {pth:Pth} {L:List Lnv} {Is:List Ins} {come:Nat→Bool} {C:Nat→Nat→Bool} {n:Nat} {c:Cvv} :
  c∈allF m pth L Is come C n↔∃i,i<n∧∃k,k<L.length∧come i=true∧C k i=true∧∃a,fstF m pth L Is k i=some a∧c=⟨i,k,decide (5≤a.k)⟩:=by
 unfold allF
 rw[List.mem_flatMap]
 constructor
 ·rintro ⟨i,hi,hc⟩
  refine⟨i,List.mem_range.1 hi,?_⟩
  unfold rowF at hc
  split at hc
  ·rename_i hcome
   rw[sel_flat (fun k=>C k i) (clF m pth L Is i)] at hc
   obtain⟨k,hk,hc⟩:=List.mem_flatMap.1 hc
   split at hc
   ·rename_i hC
    refine⟨k,List.mem_range.1 hk,hcome,hC,?_⟩
    unfold clF at hc
    split at hc
    ·rename_i a ha
     exact⟨a,ha,by simpa using hc⟩
    ·cases hc
   ·cases hc
  ·cases hc
 ·rintro ⟨i,hi,k,hk,hcome,hC,a,ha,rfl⟩
  refine⟨i,List.mem_range.2 hi,?_⟩
  unfold rowF
  rw[if_pos hcome,sel_flat (fun k=>C k i) (clF m pth L Is i)]
  refine List.mem_flatMap.2 ⟨k,List.mem_range.2 hk,?_⟩
  rw[if_pos hC]
  unfold clF
  rw[ha]
  simp
end Go.Proofs.Ytkpahlkendlahaa
namespace Go.Proofs.Ytkpahlkendlahaa
open Go Go.Lf
set_option linter.unusedVariables false
theorem rows_row {α:Type} {f:α→List Value} {sz:Nat} {h:Heap} {s:Sv} {ts:List α} (hf:∀a,(f a).length=sz) (hsz:0<sz) (r:Rows s sz ts.length fun i p=>∃hi:i<ts.length,CsAt h p (f ts[i])):RowO h s.a (ts.flatMap f):=by
 have key:∀(j:Nat) v,(ts.flatMap f)[j]?=some v→∃p,s.a=some p∧cl h (p.add j)=some v:=fun j v hv=>by
  have hj:j<ts.length*sz:=by
   have:=(List.getElem?_eq_some_iff.1 hv).1
   rwa [flat_len hf] at this
  have hi:j / sz<ts.length:=Nat.div_lt_of_lt_mul (by rwa [Nat.mul_comm] at hj)
  have hr:j % sz<(f ts[j / sz]).length:=by rw[hf];exact Nat.mod_lt _ hsz
  have e:=flat_get hf ts (j / sz) hi (j % sz) _ (List.getElem?_eq_getElem hr)
  have ej:j / sz*sz+j % sz=j:=by rw[Nat.mul_comm];exact Nat.div_add_mod j sz
  rw[ej,hv] at e
  obtain⟨p,ep,_,c⟩:=r.at_ _ hi
  refine⟨p,ep,?_⟩
  have:=c (j % sz) _ (List.getElem?_eq_getElem hr)
  rw[add_add,ej] at this
  rw[this,←e]
 cases hs:s.a with
 | none=>
  cases ht:ts.flatMap f with
  | nil=>rfl
  | cons v l=>
   obtain⟨p,e,_⟩:=key 0 v (by rw[ht];rfl)
   rw[hs] at e;cases e
 | some p=>
  intro j v hv
  obtain⟨p',e,c⟩:=key j v hv
  rw[hs] at e
  obtain rfl:p=p':=by simpa using e
  exact c
theorem lts_len (t:Ltv):(lts t).length=6:=rfl
theorem one_lts (t:Ltv):∀u∈lts t,u.oneCell'=true:=by
 intro u hu
 simp only[List.mem_cons,List.not_mem_nil,or_false] at hu
 rcases hu with rfl|rfl|rfl|rfl|rfl|rfl<;>rfl
def fW (g:Int) (t:Ltv):Ltv:={ t with fr:=bitsI .or .u64 t.fr g }
theorem word_of {f:Int} (h:0≤f∧f<18446744073709551616):∃w:BitVec 64,f=(w.toNat:Int):=by
 refine⟨BitVec.ofNat 64 f.toNat,?_⟩
 rw[BitVec.toNat_ofNat,Nat.mod_eq_of_lt (by omega)]
 omega
theorem bitF_word (w:BitVec 64) (k:Nat):bitF (w.toNat:Int) k=w.getLsbD (k % 64):=by
 have e:((k:Int).tmod 64).toNat=k % 64:=by rw[Int.tmod_eq_emod_of_nonneg (by omega)];omega
 unfold bitF
 rw[e]
 exact bit_of w (Nat.mod_lt _ (by omega))
theorem bitF_or {f g:Int} (hf:0≤f∧f<18446744073709551616) (hg:0≤g∧g<18446744073709551616) (k:Nat) (h:bitF f k=true):bitF (bitsI .or .u64 f g) k=true:=by
 obtain⟨v,rfl⟩:=word_of hf
 obtain⟨w,rfl⟩:=word_of hg
 rw[bitF_word] at h
 rw[bitsI_or,bitF_word,BitVec.getLsbD_or,h]
 rfl
theorem find_congr {α:Type} {p q:α→Bool}:∀ {l:List α},(∀a∈l,p a=q a)→l.find? p=l.find? q
 | [],_=>rfl
 | a :: l,h=>by
  rw[List.find?_cons,List.find?_cons,h a (by simp),find_congr fun b hb=>h b (by simp[hb])]
theorem more_sub {m:Nat} {pth1 pth2:Pth} {L1 L2:List Lnv} {Is:List Ins} {come:Nat→Bool} {C1 C2:Nat→Nat→Bool} {n:Nat} (hlen:L1.length≤L2.length)
  (hforb:∀k (hk:k<L1.length) (hk2:k<L2.length),∀i,i<n→∀a∈accF m Is i,forbV pth1 L1[k] a=forbV pth2 L2[k] a) (hC:∀k i,k<L1.length→i<n→C1 k i=true→C2 k i=true) :
  ∀c∈allF m pth1 L1 Is come C1 n,c∈allF m pth2 L2 Is come C2 n:=by
 intro c hc
 obtain⟨i,hi,k,hk,h1,h2,a,ha,rfl⟩:=allF_mem.1 hc
 refine allF_mem.2 ⟨i,hi,k,by omega,h1,hC k i hk hi h2,a,?_,rfl⟩
 unfold fstF at ha ⊢
 rw[List.getElem?_eq_getElem hk] at ha
 rw[List.getElem?_eq_getElem (by omega)]
 simp only at ha ⊢
 rw[←ha]
 exact (find_congr fun b hb=>hforb k hk (by omega) i hi b hb).symm
abbrev cas (pa:Int) (ss ls:Sv) (mo:Int) (os:Sv):Array Value:=#[.int .i64 pa,.slice ss.a ss.n ss.c,.slice ls.a ls.n ls.c,.int .u64 mo,.slice os.a os.n os.c]
theorem part_get' {α:Type} (f:α→α) (L:List α) {q:Nat} (hq:q<L.length) (h:q<((L.take q).map f++L.drop q).length):((L.take q).map f++L.drop q)[q]=L[q]:=by
 rw[List.getElem_append_right (by simp;omega)]
 simp[Nat.min_eq_left (Nat.le_of_lt hq)]
theorem part_set' {α:Type} (f:α→α) (L:List α) {q:Nat} (hq:q<L.length):((L.take q).map f++L.drop q).set q (f L[q])=(L.take (q+1)).map f++L.drop (q+1):=by
 rw[List.set_append_right _ _ (by simp;omega)]
 have e:q - ((L.take q).map f).length=0:=by simp[Nat.min_eq_left (Nat.le_of_lt hq)]
 rw[e,List.drop_eq_getElem_cons hq,List.set_cons_zero,List.take_succ_eq_append_getElem hq,List.map_append]
 simp
theorem part_len' {α:Type} (f:α→α) (L:List α) {q:Nat} (hq:q≤L.length):((L.take q).map f++L.drop q).length=L.length:=by simp;omega
theorem more_walk (pa:Int) (ss ls:Sv) (mo:Int) (os:Sv) (T U:List Ltv) (h:Heap) (xs:ShAt h ss) (xl:LtAt h T ls) (xo:LtAt h U os) (hT:FrOk T) (hmo:0≤mo∧mo<18446744073709551616) :
  CallsH Try.prog 5 #[.agg (cas pa ss ls mo os)] h (fun v h'=>v=.bool true∧Grow h h'):=by
 apply F5
 unfold L5
 have ln:=xl.rows.len
 have on:=xo.rows.len
 rintro p1 h1 rfl rfl
 have k1:=blk.new h (cas pa ss ls mo os) 54
 have f1:=Fr.push (fun _=>False) h (.cells (cas pa ss ls mo os) 54)
 generalize h.push (.cells (cas pa ss ls mo os) 54)=h1 at *
 have kk:∀hh,Grow h1 hh→blk hh h.size (cas pa ss ls mo os):=fun hh f=>Fr.blk f k1 fun h=>h
 refine⟨fun hh=>Grow h1 hh,Fr.refl _ _,?_⟩
 refine⟨pa,ss,fun hh f=>by rw[(kk hh f).cl];rfl,fun hh f=>by rw[add_plain,(kk hh f).cl];rfl,ls,fun hh f=>by rw[add_plain,(kk hh f).cl];rfl,mo,fun hh f=>by rw[add_plain,(kk hh f).cl];rfl,os,fun hh f=>by rw[add_plain,(kk hh f).cl];rfl,?_⟩
 rintro p3 h2 rfl rfl
 have k2:=blk.new h1 #[.int .i64 0,.slice nlS.a nlS.n nlS.c] 24
 have f2:=Fr.push (fun _=>False) h1 (.cells #[.int .i64 0,.slice nlS.a nlS.n nlS.c] 24)
 refine⟨f2,?_⟩
 refine stoA_i k2 rfl (vs:=[.int .i64 pa,.slice ss.a ss.n ss.c]) (by intro u hu;simp only[List.mem_cons,List.not_mem_nil,or_false] at hu;rcases hu with rfl|rfl<;>rfl) fun h3 k3 f3=>?_
 have g3:Grow h1 h3:=f2.trans' f3 fun i hi e=>by omega
 refine⟨g3,?_⟩
 refine cal_of (forbidden_spec h3) ?_
 rintro _ h4 ⟨rfl,f4⟩
 have k4:=f4.blk k3 fun h=>h
 have G4:=(f1.trans g3).trans f4
 refine⟨_,rfl,fun c=>c=decide (25<ss.n),⟨fun e=>(by cases e),fun _=>ldS_i (s:=ss) (by rw[add_plain,k4.cl];rfl) (by simp;omega)⟩,?_⟩
 rintro _ rfl
 refine ifb_iff (q:=(25<ss.n∨8<ls.n)∨8<os.n) (by simp;omega) (fun _=>?_) (fun hq=>?_)
 ·refine cal_of (forbidden_spec h4) ?_
  rintro _ h5 ⟨rfl,f5⟩
  exact⟨_,rfl,rfl,G4.trans f5⟩
 have hs25:ss.n≤25:=by omega
 have hT8:T.length≤8:=by omega
 have hU8:U.length≤8:=by omega
 refine⟨pa,ss,by rw[k4.cl];rfl,by rw[add_plain,k4.cl];rfl,?_⟩
 refine cal_of (body_spec (pa:=pa) (xs.grow G4) hs25) ?_
 rintro v h6 ⟨g6,pr,lo,co,Is,rfl,hp0,hp4,hlo,hIs,X6,ok6⟩
 refine⟨_,_,_,_,rfl,?_⟩
 refine mineB fun h8 kb f8=>?_
 have good8:=good_of kb f8 hp0 hp4 hlo hIs hs25 X6 ok6
 have G8:=(G4.trans g6).trans f8
 have hfew:=good8.few
 have hpos:=good8.pos
 generalize h6.size=bB at *
 rintro s46 h9 rfl rfl
 have g9:=Fr.push (fun _=>False) h8 (.cells #[] 56)
 have o46:Own (h8.push (.cells #[] 56)) h8.size 6 ⟨some ⟨h8.size,0,none⟩,0,0⟩ []:=own_empty (Nat.le_refl _)
 have z9:(h8.push (.cells #[] 56)).size=h8.size+1:=by simp
 generalize h8.push (.cells #[] 56)=h9 at *
 have G9:=G8.trans g9
 refine appS_own rfl o46 (news:=T.flatMap lts) (by rw[flat_len lts_len,ln]) (rows_row lts_len (by omega) (xl.grow G9).rows) (one_flat one_lts T) (by omega) (by show 0+ls.n≤_;omega) (by show (0+ls.n)*56≤_;omega) fun s48 h10 e10 o10 f10 n10=>?_
 rw[List.nil_append] at o10
 have w46:∀b,(⟨some ⟨h8.size,0,none⟩,0,0⟩:Sv).own b→b=h8.size:=fun b ⟨a,ea,eb⟩=>by
  simp only[Option.some.injEq] at ea
  subst ea;exact eb.symm
 have g10:Grow h8 h10:=g9.trans' f10 fun i hi e=>by have:=w46 i e;omega
 have w48:∀b,s48.own b→h8.size≤b∧b<h10.size:=fun b hb=>o10.ge hb
 refine⟨fun i hh=>∃q:Nat,i=q∧q≤T.length∧Fr s48.own h10 hh∧Own hh h8.size 6 s48 (((T.take q).map (fW mo)++T.drop q).flatMap lts),fun i _=>T.length - i.toNat,⟨0,rfl,Nat.zero_le _,Fr.refl _ _,by simpa using o10⟩,?_⟩
 rintro _ h11 ⟨q,rfl,hq,f11,o11⟩
 have nW:=own_len lts_len (by omega) o11
 rw[part_len' _ _ hq] at nW
 refine ifb_iff (q:=q<T.length) (by rw[nW];simp) (fun hql=>?_) (fun hql=>?_)
 ·obtain⟨gm,em⟩:=own_addr o11 (by omega)
  have rw11:=own_rows lts_len (by omega) o11
  obtain⟨pw,epw,hw',cw⟩:=rw11.at_ q (by rw[part_len' _ _ hq];exact hql)
  rw[part_get' (fW mo) T hql] at cw
  refine⟨pw,epw,by omega,by omega,T[q].fr,by rw[Int.toNat_natCast];exact cw 5 _ rfl,?_⟩
  refine⟨pw,epw,by omega,by omega,?_⟩
  rw[Int.toNat_natCast]
  dsimp only
  rw[add_add]
  refine own_stoC o11 (by omega) rfl epw fun h12 o12 f12=>?_
  rw[wrap_succ hql (by omega)]
  refine⟨⟨q+1,rfl,hql,f11.trans f12,?_⟩,by simp;omega⟩
  rw[flat_set lts_len _ q (by rw[part_len' _ _ hq];exact hql) (a':=fW mo T[q]) (by rw[part_get' (fW mo) T hql];rfl) (by omega),part_set' (fW mo) T hql] at o12
  exact o12
 obtain rfl:q=T.length:=by omega
 rw[List.take_length,List.drop_length,List.append_nil] at o11
 have g11:Grow h8 h11:=g10.trans' f11 fun i hi e=>by have:=w48 i e;omega
 have G11:=G8.trans g11
 have kb11:=g11.blk kb fun h=>h
 have good11:=good8.re g11
 refine⟨_,_,_,_,by rw[kb11.cl];rfl,by rw[add_plain,kb11.cl];rfl,by rw[add_plain,kb11.cl];rfl,by rw[add_plain,kb11.cl];rfl,?_⟩
 refine cal_of (made_spec (xl.grow G11) (by omega) good11.n good11.pos good11.few) ?_
 rintro _ h13 ⟨g13,out1,L1,rfl,M1⟩
 refine⟨out1,rfl,?_⟩
 have good13:=good11.re g13
 have hL1:L1.length=T.length:=M1.len
 refine cal_of (checkL_spec good13 (M1.lns (by omega)) (by omega) (M1.ok hpos) rfl) ?_
 rintro _ h14 ⟨g14,c,C1,rfl,hC1,oc⟩
 refine⟨c,0,rfl,?_⟩
 have kb14:=(g13.trans g14).blk kb11 fun h=>h
 have wbb:bB<h8.size:=kb.lt
 have o14:=o11.frame (g13.trans g14) fun _ _ h=>h
 have zz11:=g13.size
 have zz14:=g14.size
 have nU:=own_len lts_len (by omega) o14
 rw[List.length_map] at nU
 refine⟨fun hh=>blk hh bB (bvs ⟨#[]⟩ pr lo co),kb14,?_⟩
 refine⟨⟨#[]⟩,pr,lo,co,fun hh k=>by rw[blk.cl k];rfl,fun hh k=>by rw[add_plain,blk.cl k];rfl,fun hh k=>by rw[add_plain,blk.cl k];rfl,fun hh k=>by rw[add_plain,blk.cl k];rfl,?_⟩
 have G14:=(G11.trans g13).trans g14
 refine appS_own rfl o14 (news:=U.flatMap lts) (by rw[flat_len lts_len,on]) (rows_row lts_len (by omega) (xo.grow G14).rows) (one_flat one_lts U) (by have:=g11.size;omega) (by omega) (by omega) fun s77 h15 e15 o15 f15 n15=>?_
 rw[←List.flatMap_append] at o15
 have w48':∀b,s48.own b→h8.size≤b∧b<h11.size:=fun b hb=>o11.ge hb
 have g15:Grow h8 h15:=((g11.trans g13).trans g14).trans' f15 fun i hi e=>by have:=w48' i e;omega
 have kb15:=g15.blk kb fun h=>h
 refine⟨kb15,?_⟩
 have good15:=good8.re g15
 have G15:=G8.trans g15
 have xw:LtAt h15 (T.map (fW mo)++U) s77:=⟨own_rows lts_len (by omega) o15,fun t ht=>by
  rcases List.mem_append.1 ht with ht|ht
  ·obtain⟨t',ht',rfl⟩:=List.mem_map.1 ht
   exact (xl.path t' ht').keep G15 fun _ _ h=>h
  ·exact (xo.path t ht).keep G15 fun _ _ h=>h⟩
 refine cal_of (made_spec xw (by simp;omega) good15.n good15.pos good15.few) ?_
 rintro _ h16 ⟨g16,out2,L2,rfl,M2⟩
 refine⟨out2,rfl,?_⟩
 have good16:=good15.re g16
 have hL2:L2.length=T.length+U.length:=by have:=M2.len;simpa using this
 refine cal_of (checkL_spec good16 (M2.lns (by simp;omega)) (by omega) (M2.ok hpos) rfl) ?_
 rintro _ h17 ⟨g17,d,C2,rfl,hC2,od⟩
 refine⟨d,0,rfl,(fun e=>by simp at e),fun _=>?_⟩
 have two:∀k (hk:k<L1.length) (hk2:k<L2.length),L2[k].at_=L1[k].at_∧L2[k].l=L1[k].l∧L2[k].mu=L1[k].mu∧L2[k].ow=L1[k].ow∧rdX h16 L2[k].s=rdX h13 L1[k].s∧∀y∈rdX h13 L1[k].pt,y∈rdX h16 L2[k].pt:=fun k hk hk2=>by
  have m1:=M1.el k hk (by omega)
  have m2:=M2.el k hk2 (by simp;omega)
  have e:(T.map (fW mo)++U)[k]'(by simp;omega)=fW mo (T[k]'(by omega)):=by rw[List.getElem_append_left (by simp;omega)];simp
  rw[e] at m2
  refine⟨by rw[m1.at_,m2.at_];rfl,by rw[m1.l,m2.l];rfl,by rw[m1.mu,m2.mu];rfl,by rw[m1.ow,m2.ow];rfl,by rw[rdX_eq m1.s.ints,rdX_eq m2.s.ints];rfl,?_⟩
  rw[rdX_eq m1.pt.ints,rdX_eq m2.pt.ints]
  intro y hy
  have hy':=hy
  unfold fl.sel at hy'
  obtain⟨z,_,rfl⟩:=List.mem_map.1 hy'
  rw[sel_mem] at hy ⊢
  exact⟨hy.1,bitF_or (hT _ (List.getElem_mem (by omega))) hmo z hy.2⟩
 have hsub:=more_sub (m:=lo.n) (pth1:=rdX h13) (pth2:=rdX h16) (L1:=L1) (L2:=L2) (Is:=Is) (come:=reachF (Is.map (·.v))) (C1:=C1) (C2:=C2) (n:=Is.length) (by omega) (fun k hk hk2 i hi a ha=>by
  obtain⟨e1,e2,e3,e4,e5,_⟩:=two k hk hk2
  unfold accF at ha
  rw[List.getElem?_eq_getElem hi] at ha
  have hp:=accV_pv (m:=lo.n) (good8.X.ins _ (List.getElem_mem hi)) rfl a ha
  have r1:=Pv.re hp (g11.trans g13)
  have r2:=Pv.re hp (g15.trans g16)
  unfold forbV
  rw[r1,r2,e2,e3,e4,e5]) fun k i hk hi hc=>by
  obtain⟨e1,e2,e3,e4,e5,e6⟩:=two k hk (by omega)
  refine (hC1 k hk).ls (C2 k) (fun j hj hjc y hy hp=>?_) i (by simpa using hi) hc
  have h2:=(hC2 k (by omega)).cl j hj (hjc.imp (fun h=>by rw[e1];exact h) id) y hy
  refine h2 ?_
  rw[hP_get hk] at hp
  rw[hP_get (by omega)]
  unfold hasP at hp ⊢
  simp only[decide_eq_true_eq] at hp ⊢
  exact e6 _ hp
 have oc17:=((oc.frame f15 fun b hb hc=>by have:=(oc.ge hb).1;have:=w48' b hc;omega).frame g16 fun _ _ h=>h).frame g17 fun _ _ h=>h
 have l1:=allF_len lo.n (rdX h13) L1 Is (reachF (Is.map (·.v))) C1 Is.length
 have l2:=allF_len lo.n (rdX h16) L2 Is (reachF (Is.map (·.v))) C2 Is.length
 have m1:Is.length*L1.length≤1000*8:=Nat.mul_le_mul hfew (by omega)
 have m2:Is.length*L2.length≤1000*16:=Nat.mul_le_mul hfew (by omega)
 generalize allF lo.n (rdX h13) L1 Is (reachF (Is.map (·.v))) C1 Is.length=A1 at *
 generalize allF lo.n (rdX h16) L2 Is (reachF (Is.map (·.v))) C2 Is.length=A2 at *
 have rc:=own_rows ccs_len (by omega) oc17
 have rd:=own_rows ccs_len (by omega) od
 have nc:=rc.len
 have nd:=rd.len
 have GE:=(G15.trans g16).trans g17
 refine⟨fun i=>∃q:Nat,i=q∧q≤A1.length,fun i=>A1.length - i.toNat,⟨0,rfl,Nat.zero_le _⟩,?_⟩
 rintro _ ⟨q,rfl,hq⟩
 refine ifb_iff (q:=q<A1.length) (by rw[nc];simp) (fun hql=>?_) (fun _=>⟨rfl,GE⟩)
 obtain⟨pc,epc,hq',cc⟩:=rc.at_ q hql
 have hin:=hsub _ (List.getElem_mem hq')
 refine⟨fun vis k=>∃z:Nat,k=z∧z≤A2.length∧vis=decide (A1[q]∈A2.take z),fun _ k=>A2.length - k.toNat,⟨0,rfl,Nat.zero_le _,by simp⟩,?_⟩
 rintro _ _ ⟨z,rfl,hz,rfl⟩
 refine ifb_iff (q:=z<A2.length) (by rw[nd];simp) (fun hzl=>?_) (fun hzl=>?_)
 ·obtain⟨pd,epd,hz',cd⟩:=rd.at_ z hzl
  have htk:decide (A1[q]∈A2.take (z+1))=(decide (A1[q]∈A2.take z) || decide (A2[z]=A1[q])):=by
   rw[List.take_succ_eq_append_getElem hzl,Bool.eq_iff_iff]
   simp only[decide_eq_true_eq,List.mem_append,List.mem_singleton,Bool.or_eq_true]
   constructor<;>(rintro (h|h)<;>first|exact .inl h|exact .inr h.symm)
  refine⟨fun x=>x=decide (A1[q]∈A2.take (z+1)),⟨fun e=>by rw[htk,e];rfl,fun e=>?_⟩,?_⟩
  ·refine⟨pd,epd,by omega,by rw[nd];omega,?_⟩
   rw[Int.toNat_natCast]
   refine⟨A2[z].a,A2[z].l,A2[z].d,cd.at0,cd 1 _ rfl,cd 2 _ rfl,pc,epc,by omega,by rw[nc];omega,?_⟩
   rw[Int.toNat_natCast]
   refine⟨A1[q].a,A1[q].l,A1[q].d,cc.at0,cc 1 _ rfl,cc 2 _ rfl,?_⟩
   rw[htk,e]
   show _=decide (A2[z]=A1[q])
   generalize A2[z]=x
   generalize A1[q]=y
   rw[Bool.eq_iff_iff]
   cases x;cases y;simp
  rintro _ rfl
  rw[wrap_succ hzl (by omega)]
  exact⟨⟨z+1,rfl,hzl,rfl⟩,by simp;omega⟩
 ·obtain rfl:z=A2.length:=by omega
  rw[List.take_length,decide_eq_true hin]
  refine⟨(fun e=>by cases e),fun _=>?_⟩
  rw[wrap_succ hql (by omega)]
  exact⟨⟨q+1,rfl,hql⟩,by simp;omega⟩
end Go.Proofs.Ytkpahlkendlahaa
namespace Go.Proofs.Ytkpahlkendlahaa.row
open Go Go.Lf Go.ChangeShapes Go.WideShapes Go.ChangeAt Go.RowKit
set_option linter.unusedVariables false
theorem own:ownKnob Try.prog.godebug=none:=by kernel_rfl
theorem laidOut:laidOutB Try.prog=true:=by kernel_rfl
theorem cI:Try.prog.cellsOf 3=1:=by kernel_rfl
theorem cU:Try.prog.cellsOf 52=1:=by kernel_rfl
theorem cB:Try.prog.cellsOf 4=1:=by kernel_rfl
theorem cIs:Try.prog.cellsOf 47=1:=by kernel_rfl
theorem cC:Try.prog.cellsOf 77=7:=by kernel_rfl
theorem cCs:Try.prog.cellsOf 22=1:=by kernel_rfl
theorem cSh:Try.prog.cellsOf 24=2:=by kernel_rfl
theorem cL:Try.prog.cellsOf 56=6:=by kernel_rfl
theorem cLs:Try.prog.cellsOf 25=1:=by kernel_rfl
theorem cCase:Try.prog.cellsOf 54=5:=by kernel_rfl
theorem intsR {h:Heap} {fuel:Nat} {cs:List Value} (hr:rd Try.prog h fuel 47 cs):∃(s:Sv) (l:List Int),cs=[.slice s.a s.n s.c]∧IntsAt h s l:=by
 obtain⟨s,rfl⟩:=rd_slice Try.underlying47 hr
 obtain⟨xs,hx⟩:=rd_ints Try.underlying47 Try.underlying3 cI hr
 exact⟨s,xs,rfl,hx⟩
theorem codeL {h:Heap} {fuel:Nat} {cs:List Value} (hr:rd Try.prog h fuel 77 cs):∃c:Cdv,cs=cds c∧(∃xs,IntsAt h c.p xs)∧∃xs,IntsAt h c.q xs:=by
 have hl:=rd_len Try.underlying77 hr
 rw[cC] at hl
 obtain⟨_,r0⟩:=rd_field Try.underlying77 hr 0 rfl cI
 obtain⟨_,r1⟩:=rd_field Try.underlying77 hr 1 rfl cI
 obtain⟨_,r2⟩:=rd_field Try.underlying77 hr 2 rfl cI
 obtain⟨_,r3⟩:=rd_field Try.underlying77 hr 3 rfl cI
 obtain⟨_,r4⟩:=rd_field Try.underlying77 hr 4 rfl cI
 obtain⟨_,r5⟩:=rd_field Try.underlying77 hr 5 rfl cIs
 obtain⟨_,r6⟩:=rd_field Try.underlying77 hr 6 rfl cIs
 obtain⟨k,e0,_⟩:=rd_int Try.underlying3 r0
 obtain⟨a,e1,_⟩:=rd_int Try.underlying3 r1
 obtain⟨b,e2,_⟩:=rd_int Try.underlying3 r2
 obtain⟨t,e3,_⟩:=rd_int Try.underlying3 r3
 obtain⟨e,e4,_⟩:=rd_int Try.underlying3 r4
 obtain⟨p,xs,e5,hp⟩:=intsR r5
 obtain⟨q,ys,e6,hq⟩:=intsR r6
 match cs,hl with
 | [u0,u1,u2,u3,u4,u5,u6],_=>
  simp at e0 e1 e2 e3 e4 e5 e6
  subst e0 e1 e2 e3 e4 e5 e6
  exact⟨⟨k,a,b,t,e,p,q⟩,rfl,⟨xs,hp⟩,ys,hq⟩
theorem shL {h:Heap} {fuel:Nat} {cs:List Value} (hr:rd Try.prog h fuel 24 cs):∃(pa:Int) (ss:Sv),cs=[.int .i64 pa,.slice ss.a ss.n ss.c]∧ShAt h ss:=by
 have hl:=rd_len Try.underlying24 hr
 rw[cSh] at hl
 obtain⟨_,r0⟩:=rd_field Try.underlying24 hr 0 rfl cI
 obtain⟨_,r1⟩:=rd_field Try.underlying24 hr 1 rfl cCs
 obtain⟨pa,e0,_⟩:=rd_int Try.underlying3 r0
 obtain⟨ss,e1⟩:=rd_slice Try.underlying22 r1
 rw[e1] at r1
 obtain⟨-,hall⟩:=rd_elems Try.underlying22 r1
 match cs,hl with
 | [u0,u1],_=>
  simp[Sv.v] at e0 e1
  subst e0 e1
  refine⟨pa,ss,rfl,rfl,fun i hi=>?_⟩
  obtain⟨a,ea,cs',hlen,hcl,fuel',hr'⟩:=hall i hi
  rw[cC] at hlen hcl
  obtain⟨c,e,h1,h2⟩:=codeL hr'
  subst e
  refine⟨a,ea,c,fun j u hu=>?_,h1,h2⟩
  have hj:j<7:=by
   rcases Nat.lt_or_ge j 7 with h|h
   ·exact h
   ·rw[List.getElem?_eq_none (by simpa using h)] at hu;cases hu
  have:=hcl j hj
  rw[this];exact hu
theorem u64_wf {x:Int} (hw:(Lit.int .u64 x).wf=true):0≤x∧x<18446744073709551616:=by
 simp only[Lit.wf,Bool.and_eq_true,decide_eq_true_eq] at hw
 have h1:IntKind.u64.min=0:=rfl
 have h2:IntKind.u64.max=18446744073709551615:=rfl
 omega
theorem lentL {h:Heap} {fuel:Nat} {cs:List Value} (hr:rd Try.prog h fuel 56 cs):∃t:Ltv,cs=lts t∧IntsAt h t.p t.xs∧0≤t.fr∧t.fr<18446744073709551616:=by
 have hl:=rd_len Try.underlying56 hr
 rw[cL] at hl
 obtain⟨_,r0⟩:=rd_field Try.underlying56 hr 0 rfl cI
 obtain⟨_,r1⟩:=rd_field Try.underlying56 hr 1 rfl cI
 obtain⟨_,r2⟩:=rd_field Try.underlying56 hr 2 rfl cIs
 obtain⟨_,r3⟩:=rd_field Try.underlying56 hr 3 rfl cB
 obtain⟨_,r4⟩:=rd_field Try.underlying56 hr 4 rfl cB
 obtain⟨_,r5⟩:=rd_field Try.underlying56 hr 5 rfl cU
 obtain⟨a,e0,_⟩:=rd_int Try.underlying3 r0
 obtain⟨l,e1,_⟩:=rd_int Try.underlying3 r1
 obtain⟨p,xs,e2,hp⟩:=intsR r2
 obtain⟨m,e3⟩:=rd_bool Try.underlying4 r3
 obtain⟨o,e4⟩:=rd_bool Try.underlying4 r4
 obtain⟨f,e5,w⟩:=rd_int Try.underlying52 r5
 match cs,hl with
 | [u0,u1,u2,u3,u4,u5],_=>
  simp at e0 e1 e2 e3 e4 e5
  subst e0 e1 e2 e3 e4 e5
  exact⟨⟨a,l,p,xs,m,o,f⟩,rfl,hp,u64_wf w⟩
theorem lentR {h:Heap} {fuel:Nat} {cs:List Value} (hr:rd Try.prog h fuel 25 cs):∃(s:Sv) (T:List Ltv),cs=[.slice s.a s.n s.c]∧LtAt h T s∧FrOk T:=by
 obtain⟨s,rfl⟩:=rd_slice Try.underlying25 hr
 obtain⟨-,hall⟩:=rd_elems Try.underlying25 hr
 have key:∀i,i<s.n→∃t:Ltv,∃p,s.a=some p∧CsAt h (p.add (i*6)) (lts t)∧IntsAt h t.p t.xs∧0≤t.fr∧t.fr<18446744073709551616:=by
  intro i hi
  obtain⟨a,ea,cs',hlen,hcl,fuel',hr'⟩:=hall i hi
  rw[cL] at hlen hcl
  obtain⟨t,e,h1,h2⟩:=lentL hr'
  subst e
  refine⟨t,a,ea,fun j u hu=>?_,h1,h2⟩
  have hj:j<6:=by
   rcases Nat.lt_or_ge j 6 with h|h
   ·exact h
   ·rw[List.getElem?_eq_none (by simpa using h)] at hu;cases hu
  have:=hcl j hj
  rw[this];exact hu
 have:Inhabited Ltv:=⟨⟨0,0,⟨none,0,0⟩,[],false,false,0⟩⟩
 obtain⟨f,hf⟩:=Go.Deep.choose_lt (α:=Ltv) key
 refine⟨s,(List.range s.n).map f,rfl,⟨⟨by simp,fun i hi=>?_⟩,fun t ht=>?_⟩,fun t ht=>?_⟩
 ·have hi':i<s.n:=by simpa using hi
  obtain⟨p,e1,e2,-⟩:=hf i hi'
  exact⟨p,e1,by simpa using hi',by simpa using e2⟩
 ·obtain⟨i,hi,rfl⟩:=List.mem_map.1 ht
  obtain⟨p,-,-,e3,-⟩:=hf i (by simpa using hi)
  exact e3
 ·obtain⟨i,hi,rfl⟩:=List.mem_map.1 ht
  obtain⟨p,-,-,-,e3⟩:=hf i (by simpa using hi)
  exact e3
end Go.Proofs.Ytkpahlkendlahaa.row
namespace Go.Proofs.Ytkpahlkendlahaa.row
open Go Go.Lf Go.ChangeShapes Go.WideShapes Go.ChangeAt Go.RowKit
set_option linter.unusedVariables false
theorem caseR {h:Heap} {fuel:Nat} {cs:Array Value} (hr:rd Try.prog h fuel 54 (Value.agg cs).cells.toList) :
  ∃(pa:Int) (ss ls:Sv) (mo:Int) (os:Sv) (T U:List Ltv),cs=cas pa ss ls mo os∧ShAt h ss∧LtAt h T ls∧LtAt h U os∧FrOk T∧(0≤mo∧mo<18446744073709551616):=by
 have hl:=rd_len Try.underlying54 hr
 rw[cCase] at hl
 obtain⟨_,r0⟩:=rd_field Try.underlying54 hr 0 rfl cSh
 obtain⟨_,r1⟩:=rd_field Try.underlying54 hr 1 rfl cLs
 obtain⟨_,r2⟩:=rd_field Try.underlying54 hr 2 rfl cU
 obtain⟨_,r3⟩:=rd_field Try.underlying54 hr 3 rfl cLs
 obtain⟨pa,ss,e0,h0⟩:=shL r0
 obtain⟨ls,T,e1,h1,h1'⟩:=lentR r1
 obtain⟨mo,e2,w⟩:=rd_int Try.underlying52 r2
 obtain⟨os,U,e3,h3,_⟩:=lentR r3
 obtain⟨cs⟩:=cs
 simp only[Value.cells] at hl e0 e1 e2 e3
 match cs,hl with
 | [u0,u1,u2,u3,u4],_=>
  simp at e0 e1 e2 e3
  obtain⟨rfl,rfl⟩:=e0
  subst e1 e2 e3
  exact⟨pa,ss,ls,mo,os,T,U,rfl,h0,h1,h3,h1',u64_wf w⟩
end Go.Proofs.Ytkpahlkendlahaa.row
namespace Go.Proofs.Ytkpahlkendlahaa.loansMore
open Go Go.Lf Go.ChangeShapes Go.WideShapes Go.ChangeAt Go.RowKit Go.Proofs.Ytkpahlkendlahaa.row
set_option maxRecDepth 100000 in
theorem lifted (os:Os) (started:os.Started) (H:Type) (enc:TypeId×Value→H) :
  ReturnsInHanded {} Try.checked os 5 .any (Rows.loansMoreSpec.pre6 enc Try.prog Try.f5 Rows.loansMoreRow.domain false) (Rows.loansMoreSpec.post enc Try.prog Try.f5 false true false false):=by
 refine returnsInHanded_of_change (C:=Try.checked) own started (by kernel_rfl) Try.func5
  (ChangeSpec.witness6 (enc:=enc) (C:=Try.checked) false ⟨#[],#[Value.agg #[Value.int .i64 0,Value.slice (⟨none,0,0⟩:Sv).a (⟨none,0,0⟩:Sv).n (⟨none,0,0⟩:Sv).c,Value.slice (⟨none,0,0⟩:Sv).a (⟨none,0,0⟩:Sv).n (⟨none,0,0⟩:Sv).c,Value.int .u64 0,Value.slice (⟨none,0,0⟩:Sv).a (⟨none,0,0⟩:Sv).n (⟨none,0,0⟩:Sv).c]],[]⟩ 8 (by kernel_rfl) (by kernel_rfl) (by kernel_rfl) (by kernel_rfl)) ?_
 intro W base args ds gs before hval0 hW hcnd _
 have hval:∀(j:Nat) t v,Try.f5.params[j]?=some t→args[j]?=some v→Value.okWide Try.prog W .any base t v:=hval0
 have hW':=hW
 obtain⟨p,q,hA0,hV,rfl,hfz,hnd⟩:=hW
 have hA:DataW.TrodAll enc Try.prog W 0 (fun _=>true) true Try.f5.params.toList args.toList ds p:=hA0
 rw[Try.params5] at hA hval
 obtain⟨v0,vs0,d0,ds0,p0,q0,hargs,rfl,rfl,h0,r0⟩:=trodAll_cons hA
 obtain⟨rfl,rfl,rfl⟩:=trodAll_nil r0
 obtain rfl:args=#[v0]:=by cases args;simp_all
 obtain⟨rfl,rfl⟩:=trodVars_none hV
 have hlt:∀x∈p0++[]++[],x.block<W.heap.size:=fun x hx=>hW'.lt x hx
 obtain⟨cs0,hcs0,hsz0⟩:=okWide_str Try.underlying54 (hval 0 54 v0 rfl rfl)
 have hq0:=h0
 obtain⟨fuel0,hf0⟩:=hq0
 have hr0:=trod_rd _ _ _ _ hf0
 rw[hcs0] at hr0
 obtain⟨pa_0,ss_0,ls_0,mo_0,os_0,T_0,U_0,hx0,hp0_0,hp0_1,hp0_2,hp0_3,hp0_4⟩:=caseR hr0
 clear hr0 hf0
 subst hx0;subst hcs0
 have hwalk:=more_walk pa_0 ss_0 ls_0 mo_0 os_0 T_0 U_0 W.heap hp0_0 hp0_1 hp0_2 hp0_3 hp0_4 W rfl
 refine hwalk.mono fun e W' ⟨v,he,⟨hv,hg⟩,hr⟩=>?_
 subst he;subst hv
 have hb:Below W.heap.size W W':=⟨hr.os,hr.tape,hr.output,hg.size,fun k hk=>hg.same k hk (fun h=>h)⟩
 refine⟨_,rfl,⟨[d0],[],_,[],p0++[],[],hW',?_,?_,?_,hb.frame _,fun h=>by cases h⟩⟩
 ·exact trodAll_cons_mk (shut_bool Try.underlying4 _) trodAll_mk0
 ·exact (trodAll_cons_mk (Below.trod laidOut (by kernel_rfl) (of_decide_eq_true (by kernel_rfl)) h0 hb (fun x hx=>hlt x (by simp[hx]))) trodAll_mk0)
 ·exact rfl
theorem over:Rows.loansMoreRow.holds Try.pinned (OpenSpec.ofChange Rows.loansMoreSpec):=
 OpenClaim.holds_of_wide 5 Try.f5 rfl rfl rfl rfl rfl rfl rfl ⟨rfl,rfl,rfl,rfl,rfl⟩ rfl rfl rfl rfl rfl (by kernel_rfl) Try.func5 (by kernel_rfl)
  (of_decide_eq_true (by kernel_rfl)) (by unfold Func.isWrapper;first|(rw[if_pos (by decide +kernel)];kernel_rfl)|(rw[if_neg (by decide +kernel)];exact⟨rfl,rfl⟩))
  (fun os started H enc _=>lifted os started H enc)
theorem proved:Rows.LoansMoreSaid:=over
#print axioms proved
end Go.Proofs.Ytkpahlkendlahaa.loansMore

/-
  TopVaries walked.
-/
import Derived.Test.YteaidgpiolakcaaU1
namespace Go.Proofs.Yteaidgpiolakcaa
open Go Go.Lf
set_option linter.unusedVariables false

abbrev fvs (l : Sv) (x0 x1 x2 x3 y0 y1 y2 y3 u0 u1 u2 u3 u4 u5 u6 u7 : Int) : Array Value :=
  #[.slice l.a l.n l.c, .int .i64 x0, .int .i64 x1, .int .i64 x2, .int .i64 x3, .int .i64 y0, .int .i64 y1, .int .i64 y2, .int .i64 y3, .int .u64 u0, .int .u64 u1, .int .u64 u2, .int .u64 u3, .int .u64 u4, .int .u64 u5, .int .u64 u6, .int .u64 u7]
theorem mod4p (a : Int) : 1 ≤ IntKind.i64.wrap (1 + IntKind.i64.wrap ((IntKind.u64.wrap a).tmod 4)) ∧ IntKind.i64.wrap (1 + IntKind.i64.wrap ((IntKind.u64.wrap a).tmod 4)) ≤ 4 := by
  have h0 : 0 ≤ IntKind.u64.wrap a := by rw [IntKind.wrap_u64]; omega
  have e : (IntKind.u64.wrap a).tmod 4 = IntKind.u64.wrap a % 4 := Int.tmod_eq_emod_of_nonneg h0
  rw [e, wrap64_id (x := IntKind.u64.wrap a % 4) (by omega) (by omega), wrap64_id (by omega) (by omega)]
  omega
def m8 (x : Int) : Int := IntKind.i64.wrap ((IntKind.u64.wrap x).tmod 8)
theorem pick_none : inst.pickT [] [] = noP := by funext nm; rfl
theorem env_spec {h : Heap} {s : Sv} {A : List Int} {Q : Nat → Prop} (x : IntsQ Q h s A) (hA : A.length = 4) : inst.EnvAt Q h s ⟨none, 0, 0⟩ ⟨none, 0, 0⟩ A [] [] :=
  ⟨x, rfl, fun i hi => by simp at hi, tyAt_iff.2 ⟨rfl, rfl, rfl, rfl, IntsC.nil _ _, rfl, fun j hj => by simp at hj⟩, by simp, by omega, by simp⟩
/-- l's parts -/
theorem own_args {h : Heap} {B : Nat} {s : Sv} {us : List Tv} {ts : List Ty} {Q : Nat → Prop} (o : Own h B 6 s (c6 us)) (hl : ts.length = us.length) (hQ : ∀ b, s.own b → b < h.size → Q b) (ht : ∀ q (hq : q < us.length) (hq' : q < ts.length), TyAt Q h ts[q] us[q]) : TyAt Q h (tNil ts) ⟨0, ⟨#[]⟩, false, 0, ⟨none, 0, 0⟩, s⟩ := by
  have hn : s.n = ts.length := by have := o.len; rw [c6_len] at this; omega
  refine tyAt_iff.2 ⟨rfl, rfl, rfl, rfl, IntsC.nil _ _, hn, fun j hj => ?_⟩
  have hj' : j < ts.length := hj
  obtain ⟨p, ea, op, T⟩ := own6 o (i := j) (by omega)
  exact ⟨p, us[j], ea, hQ _ op (o.ge op).2, T, ht j (by omega) hj'⟩
theorem varies_walk (l : Sv) (x0 x1 x2 x3 y0 y1 y2 y3 u0 u1 u2 u3 u4 u5 u6 u7 : Int) (fs : List Ty) (h : Heap) (hl : TyAt (fun b => b < h.size) h (tNil fs) ⟨0, ⟨#[]⟩, false, 0, ⟨none, 0, 0⟩, l⟩) :
    CallsH Try.prog 3 #[.agg (fvs l x0 x1 x2 x3 y0 y1 y2 y3 u0 u1 u2 u3 u4 u5 u6 u7)] h (fun x h' => x = .bool true ∧ Grow h h') := by
  apply F3
  unfold L3
  rintro p1 h1 rfl rfl
  have k1 := blk.new h (fvs l x0 x1 x2 x3 y0 y1 y2 y3 u0 u1 u2 u3 u4 u5 u6 u7) 27
  have f1 : Grow h (h.push (.cells (fvs l x0 x1 x2 x3 y0 y1 y2 y3 u0 u1 u2 u3 u4 u5 u6 u7) 27)) := Fr.push _ _ _
  have z1 : (h.push (.cells (fvs l x0 x1 x2 x3 y0 y1 y2 y3 u0 u1 u2 u3 u4 u5 u6 u7) 27)).size = h.size + 1 := by simp
  generalize h.push (.cells (fvs l x0 x1 x2 x3 y0 y1 y2 y3 u0 u1 u2 u3 u4 u5 u6 u7) 27) = h1 at *
  have hln : l.n = fs.length := (tyAt_iff.1 hl).2.2.2.2.2.1
  refine cal_of (varied_spec h1) ?_
  rintro _ h2 ⟨f2, rfl⟩
  refine ⟨_, rfl, ?_⟩
  have g2 := f1.trans f2
  have K2 := f2.blk k1 fun h => h
  have s2 := f2.size
  refine ⟨fun b => b = decide (5 < fs.length), ⟨fun e => (by cases e), fun _ => ldS_i (s := l) (by rw [K2.cl]; rfl) ?_⟩, ?_⟩
  · rw [hln]; exact decide_eq_decide.2 (by omega)
  rintro _ rfl
  refine ifb_dec (fun hbig => ?_) (fun hsm5 => ?_)
  · refine cal_of (varied_spec h2) ?_
    rintro _ h3 ⟨f3, rfl⟩
    exact ⟨_, rfl, rfl, g2.trans f3⟩
  refine ⟨fun l3 i h' => ∃ (j : Nat) (us : List Tv), i = j ∧ j ≤ fs.length ∧ Grow h2 h' ∧ us.length = j ∧ Own h' h2.size 6 l3 (c6 us) ∧ ∃ ts : List Ty, ts.length = j ∧ ∀ q (hq : q < us.length) (hq' : q < ts.length), TyAt (fun b => b < h'.size ∧ ¬ l3.own b) h' ts[q] us[q] ∧ small 5 ts[q] = true ∧ ∀ r ∈ allT ts[q], 1 ≤ r ∧ r ≤ (4 : Int),
    fun _ i _ => fs.length - i.toNat, ⟨0, [], rfl, Nat.zero_le _, Fr.refl _ _, rfl, Own.nil _ _ _, [], rfl, fun q hq => by simp at hq⟩, ?_⟩
  rintro l3 _ h4 ⟨j, us, rfl, hj, g24, hus, o4, ts, hts, hall⟩
  have g4 := g2.trans g24
  have K4 := g24.blk K2 fun h => h
  have s24 := g24.size
  refine ldS_i (s := l) (by rw [K4.cl]; rfl) ?_
  refine ifb_iff (q := j < fs.length) (by rw [hln]; simp) (fun hlt => ?_) (fun hge => ?_)
  · -- one field more
    refine ldS_i (s := l) (by rw [K4.cl]; rfl) ?_
    refine args_get (v := ⟨0, ⟨#[]⟩, false, 0, ⟨none, 0, 0⟩, l⟩) (hl.grow g4) hlt fun u hu => ?_
    refine cal_of (small_spec 5 (by omega) fs[j] u h4 hu) ?_
    rintro _ h5 ⟨f5, rfl⟩
    refine ⟨_, rfl, fun e => ⟨rfl, g4.trans f5⟩, fun e => ?_⟩
    have hsm : small 5 fs[j] = true := by simpa using e
    have K5 := f5.blk K4 fun h => h
    have g5 := g4.trans f5
    refine ldS_i (s := l) (by rw [K5.cl]; rfl) ?_
    refine args_get (v := ⟨0, ⟨#[]⟩, false, 0, ⟨none, 0, 0⟩, l⟩) (hl.grow g5) hlt fun u' hu' => ?_
    refine cal_of (all_spec fs[j] 5 (by omega) hsm u' h5 hu') ?_
    rintro _ h6 ⟨f6, s46, rfl, o6⟩
    refine ⟨s46, rfl, ?_⟩
    have hal := allT_len 5 fs[j] hsm
    have hb5 := bnd8 (n := 5) (by omega)
    have hn46 : s46.n = (allT fs[j]).length := by have := o6.len; simp [ints] at this; omega
    refine ⟨fun k h' => ∃ m : Nat, k = m ∧ m ≤ (allT fs[j]).length ∧ Grow h5 h' ∧ ∃ zs : List Int, zs.length = (allT fs[j]).length ∧ Own h' h5.size 1 s46 (ints zs) ∧ ∀ q (hq : q < zs.length), q < m → 1 ≤ zs[q] ∧ zs[q] ≤ 4,
      fun k _ => (allT fs[j]).length - k.toNat, ⟨0, rfl, Nat.zero_le _, f6, _, rfl, o6, fun q _ h => absurd h (Nat.not_lt_zero _)⟩, ?_⟩
    rintro _ h7 ⟨m, rfl, hm, g57, zs, hzl, o7, hz⟩
    refine ifb_iff (q := m < (allT fs[j]).length) (by rw [hn46]; simp) (fun hml => ?_) (fun hmg => ?_)
    · have hmz : m < zs.length := by omega
      obtain ⟨q, eq_, c⟩ := (own_ints o7).at_ m hmz
      refine ⟨q, eq_, by omega, by omega, _, by rw [Int.toNat_natCast]; exact c, q, eq_, by omega, by omega, ?_⟩
      rw [Int.toNat_natCast]
      refine own_sto o7 (by omega) rfl eq_ fun h8 o8 f8 => ?_
      rw [ints_set _ m hmz] at o8
      rw [wrap_succ hml (by omega)]
      refine ⟨⟨m + 1, rfl, hml, g57.trans' f8 fun i hi e => by have := (o7.ge e).1; omega, _, ?_, o8, fun q hq hqm => ?_⟩, by simp; omega⟩
      · rw [List.length_set]; exact hzl
      · rw [List.getElem_set]
        by_cases he : m = q
        · rw [if_pos he]; exact mod4p _
        · rw [if_neg he]
          exact hz q (by simpa using hq) (by omega)
    have hme : m = (allT fs[j]).length := by omega
    have g7 := g5.trans g57
    have K7 := g57.blk K5 fun h => h
    refine ldS_i (s := l) (by rw [K7.cl]; rfl) ?_
    refine args_get (v := ⟨0, ⟨#[]⟩, false, 0, ⟨none, 0, 0⟩, l⟩) (hl.grow g7) hlt fun u2 hu2 => ?_
    have i7 : IntsQ (fun b => b < h7.size) h7 s46 zs := IntsQ.of (own_ints o7) fun b _ hb => hb
    refine cal_of (with_spec fs[j] 5 (by omega) hsm (fun b => b < h.size) (fun b => b < h7.size) u2 h7 s46 zs (fun b hb => by have := g7.size; omega) (fun _ h => h) hu2 i7 (own_cap o7) (by omega)) ?_
    rintro _ h9 ⟨f9, v', l', rfl, t9, _, _⟩
    refine ⟨_, rfl, _, rfl, _, _, _, _, _, _, rfl, _, rfl, l', rfl, ?_⟩
    refine newz fun h10 b10 f10 z10 => sto6 (v := v') b10 rfl fun h11 b11 f11 => rd6 (Tv6.blk b11) ?_
    have g911 : Grow h9 h11 := f10.trans' f11 fun i hi e => by omega
    have g411 : Grow h4 h11 := f5.trans (g57.trans (f9.trans g911))
    have o11 := o4.frame g411 fun _ _ h => h
    have hn3 : l3.n = j := by have := o4.len; rw [c6_len] at this; omega
    have s411 := g411.size
    refine app1 (vs := tvs v') rfl o11 rfl (one_c6 v') (by omega) (by omega) (by omega) fun s' h13 e1 o' f' hown => ?_
    rw [wrap_succ hlt (by omega)]
    refine ⟨⟨j + 1, us ++ [v'], rfl, hlt, ?_, by simp [hus], ?_, ts ++ [withT fs[j] zs], by simp [hts], fun q hq hq' => ?_⟩, by simp; omega⟩
    · exact (g24.trans g411).trans' f' fun i hi e => by have := (o11.ge e).1; omega
    · have : c6 (us ++ [v']) = c6 us ++ (tvs v').toList := by rw [c6_app]; rfl
      rw [this]; exact o'
    · have s13 := f'.size
      by_cases hqj : q < j
      · rw [List.getElem_append_left (by omega), List.getElem_append_left (by omega)]
        obtain ⟨q1, q2, q3⟩ := hall q (by omega) (by omega)
        refine ⟨((q1.grow g411).fr f' fun b hb e => hb.2 e).weak fun b hb _ => ⟨by omega, fun e => (hown b e).elim hb.2 fun e => by omega⟩, q2, q3⟩
      · have hqe : q = j := by simp at hq; omega
        have e1' : (us ++ [v'])[q] = v' := by
          rw [List.getElem_append_right (by omega)]; simp
        have e2' : (ts ++ [withT fs[j] zs])[q] = withT fs[j] zs := by
          rw [List.getElem_append_right (by omega)]; simp
        rw [e1', e2']
        have s57 := g57.size
        have s45 := f5.size
        have hno : ∀ b, (b < h.size ∨ h7.size ≤ b) → ¬ l3.own b := fun b hb e => by
          have := o4.ge e
          have := f1.size
          omega
        have t9' := t9.weak (Q' := fun b => (b < h.size ∨ h7.size ≤ b) ∧ b < h9.size) fun b hb hlt => ⟨hb, hlt⟩
        have q1 : TyAt (fun b => b < h13.size ∧ ¬ s'.own b) h13 (withT fs[j] zs) v' := by
          refine ((t9'.grow g911).fr f' fun b hb e => hno b hb.1 e).weak fun b hb _ => ?_
          have hb2 : b < h9.size := hb.2
          have s911 := g911.size
          refine ⟨by omega, fun e => (hown b e).elim (hno b hb.1) fun e => by omega⟩
        refine ⟨q1, small_wT 5 fs[j] zs hsm, fun r hr => ?_⟩
        rw [allT_wT _ _ (by omega)] at hr
        obtain ⟨i, hi, rfl⟩ := List.mem_iff_getElem.1 (List.mem_of_mem_take hr)
        exact hz i hi (by omega)
  -- all fields
  have hje : j = fs.length := by omega
  have hn3 : l3.n = ts.length := by have := o4.len; rw [c6_len] at this; omega
  have hlen5 : ts.length ≤ 5 := by omega
  rintro s80 h14 rfl rfl
  have k14 := blk.new h4 (dvs ⟨nZ, 4, ⟨none, 0, 0⟩, l3⟩) 41
  have f14 : Grow h4 (h4.push (.cells (dvs ⟨nZ, 4, ⟨none, 0, 0⟩, l3⟩) 41)) := Fr.push _ _ _
  have z14 : (h4.push (.cells (dvs ⟨nZ, 4, ⟨none, 0, 0⟩, l3⟩) 41)).size = h4.size + 1 := by simp
  generalize h4.push (.cells (dvs ⟨nZ, 4, ⟨none, 0, 0⟩, l3⟩) 41) = h14 at *
  have tF4 : TyAt (fun b => b < h4.size) h4 (tNil ts) ⟨0, ⟨#[]⟩, false, 0, ⟨none, 0, 0⟩, l3⟩ :=
    own_args o4 (by omega) (fun b _ hb => hb) fun q hq hq' => (hall q hq hq').1.weak fun b hb _ => hb.1
  have tF : TyAt (fun b => b < h14.size) h14 (tNil ts) ⟨0, ⟨#[]⟩, false, 0, ⟨none, 0, 0⟩, l3⟩ := (tF4.grow f14).weak fun b hb _ => by omega
  have hds : DsAt (fun b => b < h14.size) h14 ⟨some ⟨h4.size, 0, none⟩, 1, 1⟩ [⟨nZ, 4, [], ts⟩] := by
    refine ⟨rfl, fun i hi => ?_⟩
    obtain rfl : i = 0 := by simp at hi; omega
    refine ⟨_, ⟨nZ, 4, ⟨none, 0, 0⟩, l3⟩, rfl, by show h4.size < h14.size; omega, ?_, ⟨rfl, rfl, ⟨rfl, fun i hi => by simp at hi⟩, tF⟩⟩
    rw [Nat.zero_mul, add_zero]
    exact Dv4.blk k14
  have hts5 : ∀ t ∈ ts, small 5 t = true ∧ ∀ r ∈ allT t, 1 ≤ r ∧ r ≤ (4 : Int) := fun t ht => by
    obtain ⟨q, hq, rfl⟩ := List.mem_iff_getElem.1 ht
    exact (hall q (by omega) hq).2
  have hsmall : ∀ d ∈ [(⟨nZ, 4, [], ts⟩ : Df)], SmD d := by
    intro d hd
    obtain rfl : d = ⟨nZ, 4, [], ts⟩ := by simpa using hd
    exact ⟨by show (0 : Int) ≤ 4; decide, by show (4 : Int) ≤ 100; decide, by simp, by simp only; omega, fun t ht => small_ups 5 95 t (hts5 t ht).1⟩
  obtain ⟨K, hK, hmin⟩ := first_stand [⟨nZ, 4, [], ts⟩]
  refine cal_of (find_spec (K := K) (fun b hb => hb) hds hsmall (by simp) hK hmin) ?_
  rintro _ h15 ⟨f15, m, rfl, x15⟩
  refine ⟨some m, rfl, ?_⟩
  have g415 := f14.trans f15
  have g15 := g4.trans g415
  have w15 : pairs.WaysAt (fun b => b < h15.size) h15 (some m) (itW [⟨nZ, 4, [], ts⟩] K) := (x15.at_.weak fun b hb hl => hl).ways
  refine newz fun h16 b16 f16 z16 => newz fun h17 b17 f17 z17 => ?_
  have B16 := f17.blk b16 fun h => h
  refine sto6 (v := ⟨5, nZ, false, 0, ⟨none, 0, 0⟩, ⟨none, 0, 0⟩⟩) B16 rfl fun h18 b18 f18 => ?_
  have B17 := f18.blk b17 (by omega)
  refine sto6 (v := ⟨5, nZ, false, 0, ⟨none, 0, 0⟩, ⟨none, 0, 0⟩⟩) B17 rfl fun h19 b19 f19 => ?_
  have B18 := f19.blk b18 (by omega)
  have s18 := f18.size
  have s19 := f19.size
  have g1519 : Grow h15 h19 := ((f16.trans f17).trans' f18 fun i hi e => by omega).trans' f19 fun i hi e => by omega
  have K15 := (g24.trans g415).blk K2 fun h => h
  -- regions of the two structs
  refine ⟨fun i h' => ∃ (j : Nat) (sa sb : Sv), i = j ∧ j ≤ 4 ∧ Grow h15 h' ∧ h19.size ≤ h'.size ∧ blk h' h15.size (tvs ⟨5, nZ, false, 0, sa, ⟨none, 0, 0⟩⟩) ∧ blk h' h16.size (tvs ⟨5, nZ, false, 0, sb, ⟨none, 0, 0⟩⟩) ∧
      Own h' h19.size 1 sa (ints (([x0, x1, x2, x3].take j).map m8)) ∧ Own h' h19.size 1 sb (ints (([y0, y1, y2, y3].take j).map m8)) ∧ ∀ b, sa.own b → ¬ sb.own b,
    fun i _ => 4 - i.toNat, ⟨0, ⟨none, 0, 0⟩, ⟨none, 0, 0⟩, rfl, by omega, g1519, Nat.le_refl _, B18, b19, Own.nil _ _ _, Own.nil _ _ _, fun b ⟨a, e, _⟩ => by cases e⟩, ?_⟩
  rintro _ h20 ⟨j2, sa, sb, rfl, hj2, g20, z20, ba, bb, oa, ob, hdis⟩
  have K20 := g20.blk K15 fun h => h
  have hla : (([x0, x1, x2, x3].take j2).map m8).length = j2 := by simp; omega
  have hlb : (([y0, y1, y2, y3].take j2).map m8).length = j2 := by simp; omega
  have hna : sa.n = j2 := by have := oa.len; simp only [ints, List.length_map] at this hla; omega
  have hnb : sb.n = j2 := by have := ob.len; simp only [ints, List.length_map] at this hlb; omega
  refine ifb_iff (q := j2 < 4) (by simp; omega) (fun hlt => ?_) (fun hge4 => ?_)
  · have hx : cl h20 (((⟨h.size, 0, none⟩ : Addr).add 1).add (((j2 : Nat) : Int).toNat * 1)) = some (.int .i64 ([x0, x1, x2, x3][j2]'(by simpa using hlt))) := by
      rw [add_plain, add_plain, K20.cl]
      match j2, hlt with
      | 0, _ => rfl
      | 1, _ => rfl
      | 2, _ => rfl
      | 3, _ => rfl
    refine ldS_i (s := sa) (Tv6.blk ba).2.2.2.2.1 ⟨by omega, by omega, ldI_i hx ?_⟩
    refine app1 rfl oa rfl (by simp [Value.oneCell']) z20 (by omega) (by omega) fun sa' h22 e22 oa' f22 own22 => ?_
    have hpa : ¬ sa.own h15.size := fun e => by have := (oa.ge e).1; omega
    have hpb : ¬ sa.own h16.size := fun e => by have := (oa.ge e).1; omega
    have ba22 := f22.blk ba hpa
    have bb22 := f22.blk bb hpb
    have ob22 := ob.frame f22 fun b hb e => hdis b e hb
    have s22 := f22.size
    rw [add_plain]
    refine sto_i ba22 (by simp) ?_
    have ba23 : blk (sc h22 ⟨h15.size, 0 + 4, none⟩ (.slice sa'.a sa'.n sa'.c)) h15.size (tvs ⟨5, nZ, false, 0, sa', ⟨none, 0, 0⟩⟩) := ba22.sc 4 (.slice sa'.a sa'.n sa'.c)
    have f23 : Fr (fun b => b = h15.size) h22 (sc h22 ⟨h15.size, 0 + 4, none⟩ (.slice sa'.a sa'.n sa'.c)) := Fr.scb _ _ _ _
    have s23 : (sc h22 ⟨h15.size, 0 + 4, none⟩ (.slice sa'.a sa'.n sa'.c)).size = h22.size := sc_size _ _ _
    generalize sc h22 ⟨h15.size, 0 + 4, none⟩ (.slice sa'.a sa'.n sa'.c) = h23 at *
    have bb23 := f23.blk bb22 (by omega)
    have oa23 := oa'.frame f23 fun b hb e => by have := (oa'.ge hb).1; omega
    have ob23 := ob22.frame f23 fun b hb e => by have := (ob22.ge hb).1; omega
    have g23 : Grow h15 h23 := (g20.trans' f22 fun i hi e => by have := (oa.ge e).1; have := g1519.size; omega).trans' f23 fun i hi e => by omega
    have K23 := g23.blk K15 fun h => h
    have hy : cl h23 (((⟨h.size, 0, none⟩ : Addr).add 5).add (((j2 : Nat) : Int).toNat * 1)) = some (.int .i64 ([y0, y1, y2, y3][j2]'(by simpa using hlt))) := by
      rw [add_plain, add_plain, K23.cl]
      match j2, hlt with
      | 0, _ => rfl
      | 1, _ => rfl
      | 2, _ => rfl
      | 3, _ => rfl
    refine ldS_i (s := sb) (Tv6.blk bb23).2.2.2.2.1 ⟨by omega, by omega, ldI_i hy ?_⟩
    refine app1 rfl ob23 rfl (by simp [Value.oneCell']) (by omega) (by omega) (by omega) fun sb' h25 e25 ob' f25 own25 => ?_
    have hdis23 : ∀ b, sa'.own b → ¬ sb.own b := fun b e1 e2 => by
      rcases own22 b e1 with q | q
      · exact hdis b q e2
      · have := (ob.ge e2).2; omega
    have ba25 := f25.blk ba23 fun e => by have := (ob23.ge e).1; omega
    have bb25 := f25.blk bb23 fun e => by have := (ob23.ge e).1; omega
    have oa25 := oa23.frame f25 fun b hb e => hdis23 b hb e
    have s25 := f25.size
    rw [add_plain]
    refine sto_i bb25 (by simp) ?_
    have bb26 : blk (sc h25 ⟨h16.size, 0 + 4, none⟩ (.slice sb'.a sb'.n sb'.c)) h16.size (tvs ⟨5, nZ, false, 0, sb', ⟨none, 0, 0⟩⟩) := bb25.sc 4 (.slice sb'.a sb'.n sb'.c)
    have f26 : Fr (fun b => b = h16.size) h25 (sc h25 ⟨h16.size, 0 + 4, none⟩ (.slice sb'.a sb'.n sb'.c)) := Fr.scb _ _ _ _
    have s26 : (sc h25 ⟨h16.size, 0 + 4, none⟩ (.slice sb'.a sb'.n sb'.c)).size = h25.size := sc_size _ _ _
    generalize sc h25 ⟨h16.size, 0 + 4, none⟩ (.slice sb'.a sb'.n sb'.c) = h26 at *
    have ba26 := f26.blk ba25 (by omega)
    have oa26 := oa25.frame f26 fun b hb e => by have := (oa25.ge hb).1; omega
    have ob26 := ob'.frame f26 fun b hb e => by have := (ob'.ge hb).1; omega
    have g26 : Grow h15 h26 := (g23.trans' f25 fun i hi e => by have := (ob23.ge e).1; have := g1519.size; omega).trans' f26 fun i hi e => by omega
    have hst : ∀ (l : List Int) (hl : j2 < l.length), (l.take (j2 + 1)).map m8 = (l.take j2).map m8 ++ [m8 l[j2]] := fun l hl => by
      rw [List.take_succ_eq_append_getElem hl, List.map_append]; rfl
    have hwr : IntKind.i64.wrap ((j2 : Int) + 1) = ((j2 + 1 : Nat) : Int) := by rw [wrap64_id (by omega) (by omega)]; rfl
    rw [hwr]
    refine ⟨⟨j2 + 1, sa', sb', rfl, hlt, g26, by omega, ba26, bb26, ?_, ?_, ?_⟩, by simp; omega⟩
    · rw [hst _ (by simpa using hlt)]
      simpa [ints, m8] using oa26
    · rw [hst _ (by simpa using hlt)]
      simpa [ints, m8] using ob26
    · intro b e1 e2
      rcases own25 b e2 with q | q
      · exact hdis23 b e1 q
      · have := (oa23.ge e1).2; omega
  -- what the two structs ask for
  obtain rfl : j2 = 4 := by omega
  have eA : [x0, x1, x2, x3].take 4 = [x0, x1, x2, x3] := rfl
  have eB : [y0, y1, y2, y3].take 4 = [y0, y1, y2, y3] := rfl
  rw [eA] at oa
  rw [eB] at ob
  generalize hA : [x0, x1, x2, x3].map m8 = A at *
  generalize hB : [y0, y1, y2, y3].map m8 = B at *
  have lA : A.length = 4 := by rw [← hA]; rfl
  have lB : B.length = 4 := by rw [← hB]; rfl
  have iA : IntsQ (fun b => b < h20.size) h20 sa A := IntsQ.of (own_ints oa) fun b _ hb => hb
  have iB : IntsQ (fun b => b < h20.size) h20 sb B := IntsQ.of (own_ints ob) fun b _ hb => hb
  have tA : TyAt (fun b => b < h20.size) h20 (tZ A) ⟨5, nZ, false, 0, sa, ⟨none, 0, 0⟩⟩ := tyAt_iff.2 ⟨rfl, rfl, rfl, rfl, ⟨iA, own_cap oa⟩, rfl, fun j hj => by simp at hj⟩
  have tB : TyAt (fun b => b < h20.size) h20 (tZ B) ⟨5, nZ, false, 0, sb, ⟨none, 0, 0⟩⟩ := tyAt_iff.2 ⟨rfl, rfl, rfl, rfl, ⟨iB, own_cap ob⟩, rfl, fun j hj => by simp at hj⟩
  have s20 := g20.size
  have w20 : pairs.WaysAt (fun b => b < h20.size) h20 (some m) (itW [⟨nZ, 4, [], ts⟩] K) := (w15.fr g20 fun _ _ h => h).weak fun b hb _ => by omega
  refine rd6 (Tv6.blk ba) (rd6 (Tv6.blk bb) ?_)
  refine cal_of (pairs.pairs_spec (tZ A) (tZ B) 5 (by omega) (small_Z (by omega)) ⟨5, nZ, false, 0, sa, ⟨none, 0, 0⟩⟩ ⟨5, nZ, false, 0, sb, ⟨none, 0, 0⟩⟩ h20 tA tB w20) ?_
  rintro _ h27 ⟨f27, hh⟩
  rcases hh with ⟨-, s117, rfl, o27⟩ | ⟨hs, -⟩
  rotate_left
  · rw [same_Z (by omega)] at hs; cases hs
  refine ⟨_, rfl, _, rfl, s117, rfl, _, rfl, true, rfl, ?_⟩
  have K27 := f27.blk K20 fun h => h
  have hus : ∀ h', Grow h20 h' → pairs.USAt h' ⟨some ((⟨h.size, 0, none⟩ : Addr).add 9), 8, 8⟩ [u0, u1, u2, u3, u4, u5, u6, u7] := fun h' g => by
    refine ⟨rfl, fun i hi => ⟨_, rfl, ?_⟩⟩
    rw [add_plain, add_plain, (g.blk K20 fun h => h).cl]
    match i, hi with
    | 0, _ => rfl
    | 1, _ => rfl
    | 2, _ => rfl
    | 3, _ => rfl
    | 4, _ => rfl
    | 5, _ => rfl
    | 6, _ => rfl
    | 7, _ => rfl
  have hlenP : ∀ (t : Ty) (b : Ty) (w : Int), small 5 t = true → (pairs.seeL (pairs.ofW (itW [⟨nZ, 4, [], ts⟩] K)) t w b).length ≤ 1000000 := fun t b w hs =>
    Nat.le_trans (pairs.seeL_len _ 5 t w b hs) (Nat.le_trans (pairs.bnd8 (by omega)) (by omega))
  have g27 := g15.trans (g20.trans f27)
  refine ⟨fun x h' => h' = h27 ∧ x = !((pairs.seeL (pairs.ofW (itW [⟨nZ, 4, [], ts⟩] K)) (tZ A) 1 (tZ B)).all fun p => pairs.relB [u0, u1, u2, u3, u4, u5, u6, u7] p.1 p.2), ⟨fun e => (by cases e), fun _ => ?_⟩, ?_⟩
  · refine cal_of (pairs.outlive_spec o27 (hus h27 f27) (hlenP _ _ _ (small_Z (by omega)))) ?_
    rintro _ _ ⟨rfl, rfl⟩
    exact ⟨_, rfl, rfl, rfl⟩
  rintro _ _ ⟨rfl, rfl⟩
  refine ⟨fun _ => ⟨rfl, g27⟩, fun e => ?_⟩
  have hallR : ((pairs.seeL (pairs.ofW (itW [⟨nZ, 4, [], ts⟩] K)) (tZ A) 1 (tZ B)).all fun p => pairs.relB [u0, u1, u2, u3, u4, u5, u6, u7] p.1 p.2) = true := by simpa using e
  -- each field
  refine ⟨fun i h' => ∃ j3 : Nat, i = j3 ∧ j3 ≤ ts.length ∧ Grow h20 h', fun i _ => ts.length - i.toNat, ⟨0, rfl, Nat.zero_le _, f27⟩, ?_⟩
  rintro _ h30 ⟨j3, rfl, hj3, g30⟩
  refine ifb_iff (q := j3 < ts.length) (by rw [hn3]; simp) (fun hlt => ?_) (fun hge3 => ⟨rfl, g15.trans (g20.trans g30)⟩)
  refine ⟨fun h' => Grow h20 h', g30, ?_⟩
  have hT : ∀ h', Grow h20 h' → TyAt (fun b => b < h4.size) h' (tNil ts) ⟨0, ⟨#[]⟩, false, 0, ⟨none, 0, 0⟩, l3⟩ := fun h' g => tF4.grow (g415.trans (g20.trans g))
  obtain ⟨hsmT, hrT⟩ := hts5 ts[j3] (List.getElem_mem hlt)
  refine args_get (v := ⟨0, ⟨#[]⟩, false, 0, ⟨none, 0, 0⟩, l3⟩) (hT h30 g30) hlt fun u hu => ?_
  refine ldS_i (s := sa) (Tv6.blk (g30.blk ba fun h => h)).2.2.2.2.1 ?_
  obtain ⟨-, -, -, -, -, -, e7⟩ := tyAt_iff.1 tF4
  obtain ⟨q, uj, ql, qb, qT, quj⟩ := e7 j3 hlt
  refine ⟨q, ql, by omega, by rw [hn3]; omega, ?_⟩
  rw [Int.toNat_natCast]
  refine hd6 (t := uj) (fun h' hs => qT.fr (g415.trans (g20.trans hs)) (by simp)) ?_
  refine ⟨sb, fun h' hs => (Tv6.blk (hs.blk bb fun h => h)).2.2.2.2.1, ?_⟩
  have iA30 := (iA.fr g30 fun _ _ h => h)
  refine cal_of (inst.instP_spec ts[j3] 5 (by omega) hsmT (fun b => b < h20.size) u h30 (fun b hb => by have := g30.size; omega) (hu.weak fun b hb _ => by have := g415.size; omega) (env_spec iA30 lA)) ?_
  rintro _ h31 ⟨f31, va, rfl, tva⟩
  refine ⟨_, _, _, _, _, _, rfl, ?_⟩
  have g31 := g30.trans f31
  refine ⟨g31, ?_⟩
  have hu31 := quj.grow (g415.trans (g20.trans g31))
  refine cal_of (inst.instP_spec ts[j3] 5 (by omega) hsmT (fun b => b < h20.size) uj h31 (fun b hb => by have := g31.size; omega) (hu31.weak fun b hb _ => by have := g415.size; omega) (env_spec (iB.fr g31 fun _ _ h => h) lB)) ?_
  rintro _ h32 ⟨f32, vb, rfl, tvb⟩
  refine ⟨_, _, _, _, _, _, rfl, ?_⟩
  rw [pick_none] at tva tvb
  have g32 := g31.trans f32
  have tva32 := (tva.grow f32).weak (Q' := fun b => b < h32.size) fun b hb hl => hl
  have tvb32 := tvb.weak (Q' := fun b => b < h32.size) fun b hb hl => hl
  have w32 := (w20.fr g32 fun _ _ h => h).weak (Q' := fun b => b < h32.size) fun b hb hl => by have := g32.size; omega
  refine cal_of (pairs.pairs_spec (inst.instT (inst.lifeF A) noP ts[j3]) (inst.instT (inst.lifeF B) noP ts[j3]) 5 (by omega) (small_inst _ 5 _ hsmT) va vb h32 tva32 tvb32 w32) ?_
  rintro _ h33 ⟨f33, hh⟩
  rcases hh with ⟨-, s152, rfl, o33⟩ | ⟨hs, -⟩
  rotate_left
  · rw [same_inst] at hs; cases hs
  refine ⟨_, rfl, _, rfl, s152, rfl, _, rfl, true, rfl, ?_⟩
  have g33 := g32.trans f33
  refine ⟨fun x h' => h' = h33 ∧ x = false, ⟨fun e => (by cases e), fun _ => ?_⟩, ?_⟩
  · refine cal_of (pairs.outlive_spec o33 (hus h33 g33) (hlenP _ _ _ (small_inst _ 5 _ hsmT))) ?_
    rintro _ _ ⟨rfl, rfl⟩
    refine ⟨_, rfl, rfl, ?_⟩
    have := varies_law hK (fun t ht => (hts5 t ht).2) lA lB hallR (List.getElem_mem hlt)
    rw [this]; rfl
  rintro _ _ ⟨rfl, rfl⟩
  refine ⟨fun e => (by cases e), fun _ => ?_⟩
  have hwr : IntKind.i64.wrap ((j3 : Int) + 1) = ((j3 + 1 : Nat) : Int) := by rw [wrap64_id (by omega) (by omega)]; rfl
  rw [hwr]
  exact ⟨⟨j3 + 1, rfl, hlt, g33⟩, by simp; omega⟩
end Go.Proofs.Yteaidgpiolakcaa

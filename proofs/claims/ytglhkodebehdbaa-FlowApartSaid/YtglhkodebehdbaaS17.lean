/-
  FlowMore, walked.
-/
import Derived.Test.YtglhkodebehdbaaS16
import Derived.Test.YtglhkodebehdbaaLiftM
namespace Go.Proofs.Ytglhkodebehdbaa
open Go Go.Lf

theorem chk_zero {p : Pb} : p.chk = 0 ↔ p.wide = false ∧ p.okB = true := by
  unfold Pb.chk
  cases p.wide <;> cases p.okB <;> simp
theorem ints_row {h : Heap} {s : Sv} {xs : List Int} (x : IntsAt h s xs) : RowO h s.a (ints xs) := by
  have hl := x.len
  cases ha : s.a with
  | none =>
    cases xs with
    | nil => simp [RowO, ints]
    | cons y ys =>
      obtain ⟨p, e, _⟩ := x.at_ 0 (by simp)
      rw [ha] at e; cases e
  | some a =>
    intro j v hv
    simp only [ints, List.getElem?_map, Option.map_eq_some_iff] at hv
    obtain ⟨y, hy, rfl⟩ := hv
    obtain ⟨hj, rfl⟩ := List.getElem?_eq_some_iff.1 hy
    obtain ⟨p, e, c⟩ := x.at_ j hj
    rw [ha] at e
    cases e
    rwa [Nat.mul_one] at c
theorem modV {W : Nat} (h0 : 0 < W) (hW : W ≤ 4000) (z : Int) : IntKind.u64.wrap (W : Int) ≠ 0 ∧ 0 ≤ IntKind.i64.wrap ((IntKind.u64.wrap z).tmod (IntKind.u64.wrap (W : Int))) ∧ IntKind.i64.wrap ((IntKind.u64.wrap z).tmod (IntKind.u64.wrap (W : Int))) < W := by
  have e1 : IntKind.u64.wrap (W : Int) = W := by rw [IntKind.wrap_u64]; omega
  have e2 : 0 ≤ IntKind.u64.wrap z := by rw [IntKind.wrap_u64]; omega
  rw [e1, Int.tmod_eq_emod_of_nonneg e2]
  have h3 := Int.emod_nonneg (IntKind.u64.wrap z) (show (W : Int) ≠ 0 by omega)
  have h4 := Int.emod_lt_of_pos (IntKind.u64.wrap z) (show (0 : Int) < W by omega)
  rw [wrap64_id (by omega) (by omega)]
  omega

theorem more_law {p q : Pb} {e : Nat} (hs : q.s = p.s) (hk : q.k = p.k) (he : q.e = p.e) (hg : ∀ i, i < p.s.length → ∀ y ∈ at_ p.g i, y ∈ at_ q.g i) {C D : Nat → Bool} (x : LsF p e C) (y : LsF q e D) {i : Nat} (hi : i < p.s.length) (h : C i = true) : D i = true := by
  refine x.least D ⟨fun h0 h1 => y.cl.ent (by rw [hs]; exact h0) (by rw [he]; exact h1), fun j hj hl z hz => y.cl.go j (by rw [hs]; exact hj) ?_ z (by rw [hs]; exact hz)⟩ i hi h
  unfold lv at hl ⊢
  have e1 : kil q e j = kil p e j := by unfold kil; rw [hk]
  rw [e1]
  rcases Bool.or_eq_true_iff.1 hl with h | h
  · have : gen q e j = true := decide_eq_true (hg j hj _ (of_decide_eq_true h))
    rw [this]; rfl
  · rw [h, Bool.or_true]

theorem more_walk (a0 : Sv) (a1 : Int) (a2 a3 a4 : Sv) (p : Pb) (am : Sv) (ms : List (List Int)) (h : Heap) (x : PbAt h a0 a1 a2 a3 a4 p) (xm : ListsAt h am ms) :
    CallsH Try.prog 4 #[pbV a0 a1 a2 a3 a4, .slice am.a am.n am.c] h (fun v h' => v = .bool true ∧ Grow h h') := by
  apply F4
  unfold L4
  rintro p2 h1 rfl rfl
  have f1 : Grow h (h.push (.cells (pbC a0 a1 a2 a3 a4) 25)) := Fr.push _ _ _
  have kb := blk.new h (pbC a0 a1 a2 a3 a4) 25
  have ee : h.push (.cells #[.slice a0.a a0.n a0.c, .int .i64 a1, .slice a2.a a2.n a2.c, .slice a3.a a3.n a3.c, .slice a4.a a4.n a4.c] 25) = h.push (.cells (pbC a0 a1 a2 a3 a4) 25) := rfl
  rw [ee]
  generalize h.push (.cells (pbC a0 a1 a2 a3 a4) 25) = h1 at *
  refine cal_of (flowed_spec h1) ?_
  rintro _ h2 ⟨rfl, f2⟩
  refine ⟨_, rfl, ?_⟩
  have K : ∀ {h' : Heap}, Grow h1 h' → blk h' h.size (pbC a0 a1 a2 a3 a4) := fun g => g.blk kb (fun h => h)
  have box : ∀ {h' : Heap}, Grow h1 h' → cl h' ⟨h.size, 0, none⟩ = some (.slice a0.a a0.n a0.c) ∧ cl h' ((⟨h.size, 0, none⟩ : Addr).add 1) = some (.int .i64 a1) ∧ cl h' ((⟨h.size, 0, none⟩ : Addr).add 2) = some (.slice a2.a a2.n a2.c) ∧
      cl h' ((⟨h.size, 0, none⟩ : Addr).add 3) = some (.slice a3.a a3.n a3.c) ∧ cl h' ((⟨h.size, 0, none⟩ : Addr).add 4) = some (.slice a4.a a4.n a4.c) :=
    fun g => ⟨by rw [(K g).cl]; rfl, by rw [add_plain, (K g).cl]; rfl, by rw [add_plain, (K g).cl]; rfl, by rw [add_plain, (K g).cl]; rfl, by rw [add_plain, (K g).cl]; rfl⟩
  have hs := x.s.len
  have hm := xm.len
  refine ⟨fun b h' => Grow h1 h' ∧ (b = false → p.Sm), ⟨fun e => (by cases e), fun _ => ?_⟩, ?_⟩
  · obtain ⟨b1, b2, b3, b4, b5⟩ := box f2
    refine ⟨a0, a1, a2, a3, a4, b1, b2, b3, b4, b5, cal_of (small_spec (x.grow (f1.trans f2))) ?_⟩
    rintro _ h4 ⟨b, rfl, g4, hb⟩
    exact ⟨b, rfl, f2.trans g4, fun e => hb (by simpa using e)⟩
  rintro b h3 ⟨f3, hb⟩
  refine ⟨fun k h' => Grow h1 h' ∧ (k = false → (b = false ∧ ms.length ≤ 30) ∧ p.chk = 0), ⟨fun _ => ⟨f3, fun e => (by cases e)⟩, fun ed => ?_⟩, ?_⟩
  · obtain ⟨e1, e2⟩ := Bool.or_eq_false_iff.1 ed
    obtain ⟨b1, b2, b3, b4, b5⟩ := box f3
    refine ⟨a0, a1, a2, a3, a4, b1, b2, b3, b4, b5, cal_of (check_ref (x.grow (f1.trans f3)) (hb e1).bd) ?_⟩
    rintro _ h6 ⟨rfl, f6⟩
    have := of_decide_eq_false e2
    exact ⟨_, rfl, f3.trans f6, fun e => ⟨⟨e1, by omega⟩, by simpa using e⟩⟩
  rintro k h5 ⟨f5, q3⟩
  refine ⟨fun _ => ?_, fun ek => ?_⟩
  · refine cal_of (flowed_spec h5) ?_
    rintro _ h7 ⟨rfl, f7⟩
    exact ⟨_, rfl, rfl, (f1.trans f5).trans f7⟩
  obtain ⟨⟨eb, hm30⟩, hc⟩ := q3 ek
  have Sm := hb eb
  have B := Sm.bd
  have g5 := f1.trans f5
  obtain ⟨W, ok⟩ := Pb.chk_ok hc
  have hw : a1 = (W : Int) := by rw [x.w, ok.w]
  have hwl := ok.wl
  have hn30 := Sm.s
  have hgl := x.g.len
  have hg40 := Sm.g
  obtain ⟨b1, b2, b3, b4, b5⟩ := box f5
  refine ⟨a0, a1, a2, a3, a4, b1, b2, b3, b4, b5, ?_⟩
  rintro p5 h8 rfl rfl
  have f8 : Grow h5 (h5.push (.cells #[.slice none 0 0, .int .i64 0, .slice none 0 0, .slice none 0 0, .slice none 0 0] 25)) := Fr.push _ _ _
  have k8 := blk.new h5 #[.slice none 0 0, .int .i64 0, .slice none 0 0, .slice none 0 0, .slice none 0 0] 25
  have z8 : (h5.push (.cells #[.slice none 0 0, .int .i64 0, .slice none 0 0, .slice none 0 0, .slice none 0 0] 25)).size = h5.size + 1 := by simp
  generalize h5.push (.cells #[.slice none 0 0, .int .i64 0, .slice none 0 0, .slice none 0 0, .slice none 0 0] 25) = h8 at *
  refine stoA_i k8 rfl (by simp [Value.oneCell']) fun h9 k9 f9 => ?_
  rw [add_plain]
  refine sto_i k9 (by show 2 < 5; omega) ?_
  have k10 := k9.sc 2 (.slice none 0 0)
  have f10 : Fr (fun b => b = h5.size) h9 (sc h9 ⟨h5.size, 0 + 2, none⟩ (.slice none 0 0)) := Fr.scb _ _ _ _
  have e10 : (#[Value.slice a0.a a0.n a0.c, .int .i64 a1, .slice a2.a a2.n a2.c, .slice a3.a a3.n a3.c, .slice a4.a a4.n a4.c].setIfInBounds 2 (.slice none 0 0)) = pbC a0 a1 ⟨none, 0, 0⟩ a3 a4 := rfl
  have k10' : blk (sc h9 ⟨h5.size, 0 + 2, none⟩ (.slice none 0 0)) h5.size (pbC a0 a1 ⟨none, 0, 0⟩ a3 a4) := by rw [← e10]; exact k10
  have g510 : Grow h5 (sc h9 ⟨h5.size, 0 + 2, none⟩ (.slice none 0 0)) := (f8.trans' f9 fun i hi e => by omega).trans' f10 fun i hi e => by omega
  have z10 : h5.size + 1 ≤ (sc h9 ⟨h5.size, 0 + 2, none⟩ (.slice none 0 0)).size := by have := f9.size; have := f10.size; omega
  generalize sc h9 ⟨h5.size, 0 + 2, none⟩ (.slice none 0 0) = h10 at *
  refine ⟨fun y h11 => ∃ (i : Nat) (gs : Sv) (ts : List (Sv × List Int)), y = i ∧ i ≤ p.s.length ∧ ts.length = i ∧ LLOwn h11 (h5.size + 1) gs ts ∧ blk h11 h5.size (pbC a0 a1 gs a3 a4) ∧ Grow h5 h11 ∧ h5.size + 1 ≤ h11.size ∧
      ∀ j (hj : j < ts.length), (∀ y ∈ at_ p.g j, y ∈ ts[j].2) ∧ (∀ y ∈ ts[j].2, 0 ≤ y ∧ y < (W : Int)) ∧ ts[j].2.length ≤ 16, fun y _ => (p.s.length - y).toNat,
    ⟨0, ⟨none, 0, 0⟩, [], rfl, by omega, rfl, LLOwn.nil _ _, k10', g510, z10, fun j hj => (by simp at hj)⟩, ?_⟩
  rintro y h11 ⟨i, gs, ts, rfl, hi, hts, G11, kq11, g11, z11, all11⟩
  have f11 := f5.trans g11
  refine ldS_i (s := a0) (box f11).1 (ifb_dec (fun hlt => ?_) (fun hge => ?_))
  · have hil : i < p.s.length := by omega
    have hwi : IntKind.i64.wrap ((i : Int) + 1) = ((i + 1 : Nat) : Int) := by rw [wrap64_id (by omega) (by omega)]; omega
    have hg8 : (at_ p.g i).length ≤ 8 := by
      rcases Nat.lt_or_ge i p.g.length with hh | hh
      · rw [at_lt hh]; exact Sm.g1 _ (List.getElem_mem hh)
      · rw [at_ge hh]; simp
    have hgr : ∀ y ∈ at_ p.g i, 0 ≤ y ∧ y < (W : Int) := by
      rcases Nat.lt_or_ge i p.g.length with hh | hh
      · rw [at_lt hh]; exact ok.g _ (List.getElem_mem hh)
      · rw [at_ge hh]; intro y hy; cases hy
    refine ⟨fun l h13 => Own h13 h11.size 1 l (ints (at_ p.g i)) ∧ Grow h11 h13, ?_, ?_⟩
    · refine ldS_i (s := a2) (box f11).2.2.1 (ifb_dec (fun hlt2 => ?_) (fun hge2 => ?_))
      · have hig : i < p.g.length := by omega
        refine ldS_i (s := a2) (box f11).2.2.1 (ListsAt.getg x.g (f1.trans f11) hig fun t yt => ?_)
        have yt' := yt.keep (f1.trans f11) fun _ _ h => h
        have htn := yt.len
        rw [at_lt hig] at hg8 ⊢
        refine appS_own rfl (Own.nil h11 h11.size 1) (by rw [Nat.mul_one, htn]; simp [ints]) (ints_row yt') (by simp [ints, Value.oneCell']) (Nat.le_refl _) (by show 0 + t.n ≤ _; omega) (by show (0 + t.n) * 8 ≤ _; omega) ?_
        intro s' h' _ o' f' _
        exact ⟨by simpa using o', f'.mono fun b hb ho => by obtain ⟨a, ea, _⟩ := ho; cases ea⟩
      · rw [at_ge (by omega)]
        exact ⟨Own.nil _ _ _, Fr.refl _ _⟩
    rintro l h13 ⟨o13, g13⟩
    refine ⟨fun l y h14 => ∃ (k : Nat) (xs : List Int), y = k ∧ k ≤ 8 ∧ Own h14 h11.size 1 l (ints xs) ∧ Grow h11 h14 ∧ (∀ y ∈ at_ p.g i, y ∈ xs) ∧ (∀ y ∈ xs, 0 ≤ y ∧ y < (W : Int)) ∧ xs.length ≤ 8 + k, fun _ y _ => (8 - y).toNat,
      ⟨0, at_ p.g i, rfl, by omega, o13, g13, fun _ h => h, hgr, by omega⟩, ?_⟩
    rintro l' y h14 ⟨k, xs, rfl, hk, o14, g14, in14, rg14, ln14⟩
    have f14 := f11.trans g14
    have hln : l'.n = xs.length := by have := o14.len; simp [ints] at this; omega
    refine ⟨fun c => c = true → i < ms.length ∧ k < (at_ ms i).length, ⟨fun ei => ?_, fun _ e => (by cases e)⟩, fun c q4 => ?_⟩
    · have him : i < ms.length := by have := of_decide_eq_true ei; omega
      refine ListsAt.getg xm (f1.trans f14) him fun t yt => ?_
      intro e
      have := of_decide_eq_true e
      have := yt.len
      rw [at_lt him]
      exact ⟨him, by omega⟩
    refine ⟨fun d => d = true → (i < ms.length ∧ k < (at_ ms i).length) ∧ k < 8 ∧ 0 < W, ⟨fun ec => ?_, fun _ e => (by cases e)⟩, fun d q5 => ?_⟩
    · obtain ⟨c1, c2⟩ := Bool.and_eq_true_iff.1 ec
      refine ldI_i (x := a1) (box f14).2.1 fun e => ?_
      have := of_decide_eq_true c2
      have := of_decide_eq_true e
      exact ⟨q4 c1, by omega, by omega⟩
    refine ⟨fun ed => ?_, fun ed => ?_⟩
    · obtain ⟨⟨him, hkm⟩, hk8, hW0⟩ := q5 ed
      have hwk : IntKind.i64.wrap ((k : Int) + 1) = ((k + 1 : Nat) : Int) := by rw [wrap64_id (by omega) (by omega)]; omega
      rw [at_lt him] at hkm
      refine ListsAt.getg xm (f1.trans f14) him fun t yt => ?_
      refine (yt.keep (f1.trans f14) fun _ _ h => h).get hkm ?_
      refine ldI_i (x := a1) (box f14).2.1 ?_
      rw [hw]
      obtain ⟨m1, m2, m3⟩ := modV hW0 hwl (ms[i][k])
      refine ⟨m1, ?_⟩
      refine app1 (B := h11.size) (sz := 1) rfl o14 rfl (by simp [Value.oneCell']) g14.size (by omega) (by omega) ?_
      intro s' h' _ o' f' _
      refine ⟨⟨k + 1, xs ++ [IntKind.i64.wrap ((IntKind.u64.wrap (ms[i][k])).tmod (IntKind.u64.wrap (W : Int)))], hwk, by omega, by simpa [ints] using o', own_grown o14 g14 f', fun y hy => List.mem_append_left _ (in14 y hy), fun y hy => ?_, by simp; omega⟩, by rw [hwk]; (try dsimp only); omega⟩
      rcases List.mem_append.1 hy with hy | hy
      · exact rg14 y hy
      · simp only [List.mem_singleton] at hy
        rw [hy]; exact ⟨m2, m3⟩
    · have kq14 := g14.blk kq11 (fun h => h)
      have G14 := G11.frame g14 (fun _ _ _ h => h)
      have hgn := G14.len
      refine ldS_i (s := gs) (by rw [kq14.cl]; rfl) ?_
      refine G14.app (t := l') (xs := xs) rfl rfl (own_ints o14) (fun b hb => ?_) (by have := g14.size; omega) (by omega) (by omega) ?_
      · have h1 := o14.ge hb
        refine ⟨by omega, h1.2, fun h2 => ?_⟩
        have := (G11.own.ge h2).2
        omega
      intro s' h18 G18 f18 hown
      have gsge : ∀ b, gs.own b → h5.size + 1 ≤ b := fun b hb => (G11.own.ge hb).1
      have kq18 := f18.blk kq14 fun ho => by have := gsge _ ho; omega
      refine sto_i kq18 (by show 2 < 5; omega) ?_
      have f19 : Fr (fun b => b = h5.size) h18 (sc h18 ⟨h5.size, 0 + 2, none⟩ (.slice s'.a s'.n s'.c)) := Fr.scb _ _ _ _
      have k19 := kq18.sc 2 (.slice s'.a s'.n s'.c)
      have e19 : ((pbC a0 a1 gs a3 a4).setIfInBounds 2 (.slice s'.a s'.n s'.c)) = pbC a0 a1 s' a3 a4 := rfl
      refine ⟨⟨i + 1, s', ts ++ [(l', xs)], hwi, by omega, by simp [hts], G18.frame f19 fun b hb _ e => by omega, by rw [← e19]; exact k19, ?_, ?_, fun j hj => ?_⟩, by rw [hwi]; (try dsimp only); omega⟩
      · exact ((g11.trans g14).trans' f18 fun b hb ho => by have := gsge _ ho; omega).trans' f19 fun b hb e => by omega
      · have := f19.size; have := f18.size; have := g14.size; omega
      · by_cases ej : j < ts.length
        · rw [List.getElem_append_left ej]
          exact all11 j ej
        · have e2 : j = i := by simp at hj; omega
          subst e2
          have : (ts ++ [(l', xs)])[j] = (l', xs) := by rw [List.getElem_append_right (by omega)]; simp [hts]
          rw [this]
          exact ⟨in14, rg14, by dsimp only; omega⟩
  have hi : i = p.s.length := by omega
  subst hi
  obtain ⟨b1, b2, b3, b4, b5⟩ := box f11
  refine ⟨a0, a1, a2, a3, a4, b1, b2, b3, b4, b5, cal_of (forward_spec (x.grow (f1.trans f11)) B) ?_⟩
  rintro _ h20 ⟨f20, -, hok⟩
  obtain ⟨W1, ba, tb, rb, S, rfl, ok1, A, ls⟩ := hok hc
  have hW1 : W1 = W := by have h1 := ok1.w; have h2 := ok.w; omega
  subst hW1
  refine ⟨_, rfl, _, rfl, _, rfl, _, rfl, _, rfl, ?_⟩
  have kq20 := f20.blk kq11 (fun h => h)
  refine ⟨a0, a1, gs, a3, a4, by rw [kq20.cl]; rfl, by rw [add_plain, kq20.cl]; rfl, by rw [kq20.cl]; rfl, by rw [add_plain, kq20.cl]; rfl, by rw [add_plain, kq20.cl]; rfl, ?_⟩
  have x20 := x.grow ((f1.trans f11).trans f20)
  have hall : ∀ l ∈ ts.map (fun t => t.2), (∀ y ∈ l, 0 ≤ y ∧ y < (W1 : Int)) ∧ l.length ≤ 16 := by
    intro l hl
    obtain ⟨j, hj, rfl⟩ := List.getElem_of_mem hl
    have hj' : j < ts.length := by simpa using hj
    have := all11 j hj'
    simpa using this.2
  have X : PbAt h20 a0 a1 gs a3 a4 ⟨p.s, p.w, ts.map fun t => t.2, p.k, p.e⟩ := ⟨x20.s, x20.w, (G11.frame f20 fun _ _ _ h => h).lists, x20.k, x20.e⟩
  have Bq : (⟨p.s, p.w, ts.map fun t => t.2, p.k, p.e⟩ : Pb).Bd := ⟨B.s, by simp; omega, B.k, B.s1, fun l hl => by have := (hall l hl).2; omega, B.k1, B.e⟩
  have hcq : (⟨p.s, p.w, ts.map fun t => t.2, p.k, p.e⟩ : Pb).chk = 0 := by
    obtain ⟨c1, c2⟩ := chk_zero.1 hc
    refine chk_zero.2 ⟨c1, ?_⟩
    unfold Pb.okB at c2 ⊢
    simp only [Bool.and_eq_true] at c2 ⊢
    refine ⟨⟨⟨c2.1.1.1, fitsB_iff.2 ⟨by simp; omega, fun l hl y hy => ?_⟩⟩, c2.1.2⟩, c2.2⟩
    have := (hall l hl).1 y hy
    have := ok.w
    omega
  refine cal_of (forward_spec X Bq) ?_
  rintro _ h21 ⟨f21, -, hok2⟩
  obtain ⟨W2, ba2, tb2, rb2, S2, rfl, ok2, A2, ls2⟩ := hok2 hcq
  have hW2 : W2 = W1 := by have h1 := ok1.w; have h2 := ok2.w; dsimp only at h2; omega
  subst hW2
  refine ⟨_, rfl, _, rfl, _, rfl, _, rfl, _, rfl, fun e => (by cases e), fun _ => ?_⟩
  have f121 := (f11.trans f20).trans f21
  refine ⟨fun y h22 => ∃ i : Nat, y = i ∧ i ≤ p.s.length ∧ Grow h21 h22, fun y _ => (p.s.length - y).toNat, ⟨0, rfl, by omega, Fr.refl _ _⟩, ?_⟩
  rintro y h22 ⟨i, rfl, hi2, g22⟩
  refine ldS_i (s := a0) (box (f121.trans g22)).1 (ifb_dec (fun hlt => ?_) (fun _ => ⟨rfl, f1.trans (f121.trans g22)⟩))
  have hil : i < p.s.length := by omega
  have hwi : IntKind.i64.wrap ((i : Int) + 1) = ((i + 1 : Nat) : Int) := by rw [wrap64_id (by omega) (by omega)]; omega
  refine ⟨fun y h23 => ∃ e : Nat, y = e ∧ e ≤ W2 ∧ Grow h22 h23, fun y _ => (W2 - y).toNat, ⟨0, rfl, by omega, Fr.refl _ _⟩, ?_⟩
  rintro y h23 ⟨e, rfl, he, g23⟩
  have f123 := (f121.trans g22).trans g23
  refine ldI_i (x := (W2 : Int)) (by rw [← hw]; exact (box f123).2.1) (ifb_dec (fun hlt => ?_) (fun hge => ?_))
  · have hel : e < W2 := by omega
    have hwe : IntKind.i64.wrap ((e : Int) + 1) = ((e + 1 : Nat) : Int) := by rw [wrap64_id (by omega) (by omega)]; omega
    refine cal_of (ansHas_spec (A.grow (f21.trans (g22.trans g23))) (by omega) (by omega) i e) ?_
    rintro _ _ ⟨rfl, rfl⟩
    have hS : hasS p.s.length W2 S i e = S i e := by simp [hasS, hil, hel]
    rw [hS]
    refine ⟨_, rfl, fun b h' => b = false ∧ h23 = h', ⟨fun et => ?_, fun _ => ⟨rfl, rfl⟩⟩, ?_⟩
    · refine cal_of (ansHas_spec (A2.grow (g22.trans g23)) (by omega) (by omega) i e) ?_
      rintro _ _ ⟨rfl, rfl⟩
      have hS2 : hasS p.s.length W2 S2 i e = true := by
        have : S2 i e = true := more_law (p := p) (q := ⟨p.s, p.w, ts.map fun t => t.2, p.k, p.e⟩) (C := fun i => S i e) (D := fun i => S2 i e) rfl rfl rfl (fun j hj y hy => by
          have hj' : j < ts.length := by omega
          rw [at_lt (by simpa using hj')]
          simpa using (all11 j hj').1 y hy) (ls e (by omega)) (ls2 e (by omega)) hil et
        simp [hasS, hil, hel, this]
      exact ⟨true, by rw [hS2], rfl, rfl⟩
    rintro _ _ ⟨rfl, rfl⟩
    exact ⟨fun e => (by cases e), fun _ => ⟨⟨e + 1, hwe, by omega, g23⟩, by rw [hwe]; (try dsimp only); omega⟩⟩
  · exact ⟨⟨i + 1, hwi, by omega, g22.trans g23⟩, by rw [hwi]; (try dsimp only); omega⟩
end Go.Proofs.Ytglhkodebehdbaa

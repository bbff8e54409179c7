/-
  FlowWays, walked.
-/
import Derived.Test.YtglhkodebehdbaaS15
namespace Go.Proofs.Ytglhkodebehdbaa
open Go Go.Lf

theorem ways_walk (a0 : Sv) (a1 : Int) (a2 a3 a4 : Sv) (p : Pb) (e1 : Int) (h : Heap) (x : PbAt h a0 a1 a2 a3 a4 p) :
    CallsH Try.prog 3 #[pbV a0 a1 a2 a3 a4, .int .i64 e1] h (fun v h' => v = .bool true ∧ Grow h h') := by
  apply F3
  unfold L3
  rintro p2 h1 rfl rfl
  have f1 : Grow h (h.push (.cells (pbC a0 a1 a2 a3 a4) 25)) := Fr.push _ _ _
  have kb := blk.new h (pbC a0 a1 a2 a3 a4) 25
  have ee : h.push (.cells #[.slice a0.a a0.n a0.c, .int .i64 a1, .slice a2.a a2.n a2.c, .slice a3.a a3.n a3.c, .slice a4.a a4.n a4.c] 25) = h.push (.cells (pbC a0 a1 a2 a3 a4) 25) := rfl
  rw [ee]
  generalize h.push (.cells (pbC a0 a1 a2 a3 a4) 25) = h1 at *
  refine cal_of (flowed_spec h1) ?_
  rintro _ h2 ⟨rfl, f2⟩
  refine ⟨_, rfl, ?_⟩
  have K : ∀ {h' : Heap}, Grow h1 h' → blk h' h.size (pbC a0 a1 a2 a3 a4) := fun g => g.blk kb (fun h => h)
  have box : ∀ {h' : Heap}, Grow h1 h' → cl h' ⟨h.size, 0, none⟩ = some (.slice a0.a a0.n a0.c) ∧ cl h' ((⟨h.size, 0, none⟩ : Addr).add 1) = some (.int .i64 a1) ∧ cl h' ((⟨h.size, 0, none⟩ : Addr).add 2) = some (.slice a2.a a2.n a2.c) ∧
      cl h' ((⟨h.size, 0, none⟩ : Addr).add 3) = some (.slice a3.a a3.n a3.c) ∧ cl h' ((⟨h.size, 0, none⟩ : Addr).add 4) = some (.slice a4.a a4.n a4.c) :=
    fun g => ⟨by rw [(K g).cl]; rfl, by rw [add_plain, (K g).cl]; rfl, by rw [add_plain, (K g).cl]; rfl, by rw [add_plain, (K g).cl]; rfl, by rw [add_plain, (K g).cl]; rfl⟩
  have hs := x.s.len
  have hw := x.w
  refine ⟨fun b h' => Grow h1 h' ∧ (b = false → p.Sm), ⟨fun e => (by cases e), fun _ => ?_⟩, ?_⟩
  · obtain ⟨b1, b2, b3, b4, b5⟩ := box f2
    refine ⟨a0, a1, a2, a3, a4, b1, b2, b3, b4, b5, cal_of (small_spec (x.grow (f1.trans f2))) ?_⟩
    rintro _ h4 ⟨b, rfl, g4, hb⟩
    exact ⟨b, rfl, f2.trans g4, fun e => hb (by simpa using e)⟩
  rintro b h3 ⟨f3, hb⟩
  refine ⟨fun c => c = false → b = false ∧ p.s.length ≤ 7, ⟨fun _ e => (by cases e), fun eb => ldS_i (s := a0) (box f3).1 fun e => ⟨eb, ?_⟩⟩, fun c q1 => ?_⟩
  · have := of_decide_eq_false e; omega
  refine ⟨fun d => d = false → (b = false ∧ p.s.length ≤ 7) ∧ 0 ≤ e1 ∧ e1 < p.w, ⟨fun _ e => (by cases e), fun ec => ldI_i (x := a1) (box f3).2.1 fun e => ?_⟩, fun d q2 => ?_⟩
  · obtain ⟨c1, c2⟩ := Bool.or_eq_false_iff.1 ec
    have := of_decide_eq_false c2
    have := of_decide_eq_false e
    exact ⟨q1 c1, by omega, by omega⟩
  refine ⟨fun k h' => Grow h1 h' ∧ (k = false → ((b = false ∧ p.s.length ≤ 7) ∧ 0 ≤ e1 ∧ e1 < p.w) ∧ p.chk = 0), ⟨fun _ => ⟨f3, fun e => (by cases e)⟩, fun ed => ?_⟩, ?_⟩
  · obtain ⟨b1, b2, b3, b4, b5⟩ := box f3
    refine ⟨a0, a1, a2, a3, a4, b1, b2, b3, b4, b5, cal_of (check_ref (x.grow (f1.trans f3)) (hb (q2 ed).1.1).bd) ?_⟩
    rintro _ h6 ⟨rfl, f6⟩
    exact ⟨_, rfl, f3.trans f6, fun e => ⟨q2 ed, by simpa using e⟩⟩
  rintro k h5 ⟨f5, q3⟩
  refine ⟨fun _ => ?_, fun ek => ?_⟩
  · refine cal_of (flowed_spec h5) ?_
    rintro _ h7 ⟨rfl, f7⟩
    exact ⟨_, rfl, rfl, (f1.trans f5).trans f7⟩
  obtain ⟨⟨⟨eb, hn7⟩, he0, he1⟩, hc⟩ := q3 ek
  have B := (hb eb).bd
  obtain ⟨e, rfl⟩ := Int.eq_ofNat_of_zero_le he0
  have g5 := f1.trans f5
  refine ⟨fun y => ∃ i : Nat, y = i ∧ i ≤ p.s.length, fun y => (p.s.length - y).toNat, ⟨0, rfl, by omega⟩, ?_⟩
  rintro y ⟨i, rfl, hi⟩
  refine ldS_i (s := a0) (box f5).1 (ifb_dec (fun hlt => ?_) (fun hge => ?_))
  · have hil : i < p.s.length := by omega
    have hwi : IntKind.i64.wrap ((i : Int) + 1) = ((i + 1 : Nat) : Int) := by rw [wrap64_id (by omega) (by omega)]; omega
    refine ldS_i (s := a0) (box f5).1 (ListsAt.getg x.s g5 hil fun t yt => ifb_dec (fun _ => ⟨rfl, g5⟩) fun _ => ?_)
    exact ⟨⟨i + 1, hwi, by omega⟩, by rw [hwi]; (try dsimp only); omega⟩
  obtain ⟨b1, b2, b3, b4, b5⟩ := box f5
  refine ⟨a0, a1, a2, a3, a4, b1, b2, b3, b4, b5, cal_of (forward_spec (x.grow g5) B) ?_⟩
  rintro _ h8 ⟨f8, -, hok⟩
  obtain ⟨W, ba, tb, rb, S, rfl, ok, A, ls⟩ := hok hc
  refine ⟨_, rfl, _, rfl, _, rfl, _, rfl, _, rfl, fun e => (by cases e), fun _ => ?_⟩
  have f18 := f5.trans f8
  have hwl := ok.wl
  have heW : e < W := by have := ok.w; omega
  have hgl := ok.gl
  have hel := (hb eb).e
  have hg4 := x.g.len
  have he4 := x.e.len
  refine ⟨fun y h9 => ∃ to : Nat, y = to ∧ to ≤ p.s.length ∧ Grow h8 h9, fun y _ => (p.s.length - y).toNat, ⟨0, rfl, by omega, Fr.refl _ _⟩, ?_⟩
  rintro y h9 ⟨to, rfl, hto, g9⟩
  have f19 := f18.trans g9
  refine ldS_i (s := a0) (box f19).1 (ifb_dec (fun hlt => ?_) (fun hge => ⟨rfl, f1.trans f19⟩))
  have htl : to < p.s.length := by omega
  have hwt : IntKind.i64.wrap ((to : Int) + 1) = ((to + 1 : Nat) : Int) := by rw [wrap64_id (by omega) (by omega)]; omega
  refine ⟨fun b y h10 => ∃ k : Nat, y = k ∧ k ≤ p.e.length ∧ b = (p.e.take k).any (fun y => decide (y = (e : Int)) && wayN p e to 7 0) ∧ Grow h9 h10, fun _ y _ => (p.e.length - y).toNat, ⟨0, rfl, by omega, by simp, Fr.refl _ _⟩, ?_⟩
  rintro b' y h10 ⟨k, rfl, hk, hb', g10⟩
  have f110 := f19.trans g10
  refine ldS_i (s := a4) (box f110).2.2.2.2 (ifb_dec (fun hlt => ?_) (fun hge => ?_))
  · have hkl : k < p.e.length := by omega
    have hwk : IntKind.i64.wrap ((k : Int) + 1) = ((k + 1 : Nat) : Int) := by rw [wrap64_id (by omega) (by omega)]; omega
    have hnx : (p.e.take (k + 1)).any (fun y => decide (y = (e : Int)) && wayN p e to 7 0) = (b' || (decide (p.e[k] = (e : Int)) && wayN p e to 7 0)) := by
      rw [List.take_succ_eq_append_getElem hkl, List.any_append, hb']
      simp
    refine ⟨fun b h' => b = (b' || (decide (p.e[k] = (e : Int)) && wayN p e to 7 0)) ∧ Grow h10 h', ⟨fun eb' => ⟨by rw [eb', Bool.true_or], Fr.refl _ _⟩, fun eb' => ?_⟩, ?_⟩
    · refine ldS_i (s := a4) (box f110).2.2.2.2 ?_
      refine (x.e.keep (f1.trans f110) fun _ _ h => h).get hkl ?_
      refine ⟨fun b h' => b = (decide (p.e[k] = (e : Int)) && wayN p e to 7 0) ∧ Grow h10 h', ⟨fun ez => ?_, fun ez => ?_⟩, ?_⟩
      · obtain ⟨b1, b2, b3, b4, b5⟩ := box f110
        refine ⟨a0, a1, a2, a3, a4, b1, b2, b3, b4, b5, cal_of (way_spec ok B e to 7 (by omega) h10 0 (by omega) (x.grow (f1.trans f110))) ?_⟩
        rintro _ h13 ⟨rfl, f13⟩
        have : p.e[k] = (e : Int) := by simpa using ez
        exact ⟨_, rfl, by simp [this], f13⟩
      · have : ¬ p.e[k] = (e : Int) := by simpa using ez
        exact ⟨by simp [this], Fr.refl _ _⟩
      rintro _ h12 ⟨rfl, f12⟩
      exact ⟨by rw [eb', Bool.false_or], f12⟩
    rintro _ h11 ⟨rfl, f11⟩
    exact ⟨⟨k + 1, hwk, by omega, hnx.symm, g10.trans f11⟩, by rw [hwk]; (try dsimp only); omega⟩
  have hk : k = p.e.length := by omega
  subst hk
  rw [List.take_length] at hb'
  have key : b' = p.e.any (fun y => decide (y = (e : Int)) && wayN p e to 7 0) := hb'
  refine ⟨fun b y h14 => ∃ i : Nat, y = i ∧ i ≤ p.g.length ∧ b = (b' || (List.range i).any fun i => (at_ p.g i).any fun z => decide (z = (e : Int)) && (at_ p.s i).any fun y => wayN p e to 7 y.toNat) ∧ Grow h10 h14, fun _ y _ => (p.g.length - y).toNat, ⟨0, rfl, by omega, by simp, Fr.refl _ _⟩, ?_⟩
  rintro bi y h14 ⟨i, rfl, hi, hbi, g14⟩
  have f114 := f110.trans g14
  refine ldS_i (s := a2) (box f114).2.2.1 (ifb_dec (fun hlt => ?_) (fun hge => ?_))
  · have hig : i < p.g.length := by omega
    have his : i < p.s.length := by omega
    have hwi : IntKind.i64.wrap ((i : Int) + 1) = ((i + 1 : Nat) : Int) := by rw [wrap64_id (by omega) (by omega)]; omega
    have hgs : at_ p.g i = p.g[i] := at_lt hig
    have hss : at_ p.s i = p.s[i] := at_lt his
    have hll := B.g1 _ (List.getElem_mem hig)
    have hls := B.s1 _ (List.getElem_mem his)
    have hin : ∀ y ∈ p.s[i], 0 ≤ y ∧ y < p.s.length := by rw [← hss]; exact ok.s i
    have hnx : (List.range (i + 1)).any (fun i => (at_ p.g i).any fun z => decide (z = (e : Int)) && (at_ p.s i).any fun y => wayN p e to 7 y.toNat) = ((List.range i).any (fun i => (at_ p.g i).any fun z => decide (z = (e : Int)) && (at_ p.s i).any fun y => wayN p e to 7 y.toNat) || p.g[i].any fun z => decide (z = (e : Int)) && p.s[i].any fun y => wayN p e to 7 y.toNat) := by
      rw [List.range_succ, List.any_append]
      simp [hgs, hss]
    refine ⟨fun b y h15 => ∃ k : Nat, y = k ∧ k ≤ p.g[i].length ∧ b = (bi || (p.g[i].take k).any fun z => decide (z = (e : Int)) && p.s[i].any fun y => wayN p e to 7 y.toNat) ∧ Grow h14 h15, fun _ y _ => (p.g[i].length - y).toNat, ⟨0, rfl, by omega, by simp, Fr.refl _ _⟩, ?_⟩
    rintro bk y h15 ⟨k, rfl, hk, hbk, g15⟩
    have f115 := f114.trans g15
    refine ldS_i (s := a2) (box f115).2.2.1 (ListsAt.getg x.g (f1.trans f115) hig fun t yt => ?_)
    have htn := yt.len
    refine ifb_dec (fun hlt => ?_) (fun hge => ?_)
    · have hkl : k < p.g[i].length := by omega
      have hwk : IntKind.i64.wrap ((k : Int) + 1) = ((k + 1 : Nat) : Int) := by rw [wrap64_id (by omega) (by omega)]; omega
      have hnk : (p.g[i].take (k + 1)).any (fun z => decide (z = (e : Int)) && p.s[i].any fun y => wayN p e to 7 y.toNat) = ((p.g[i].take k).any (fun z => decide (z = (e : Int)) && p.s[i].any fun y => wayN p e to 7 y.toNat) || (decide (p.g[i][k] = (e : Int)) && p.s[i].any fun y => wayN p e to 7 y.toNat)) := by
        rw [List.take_succ_eq_append_getElem hkl, List.any_append]
        simp
      refine ⟨fun b y h16 => ∃ j : Nat, y = j ∧ j ≤ p.s[i].length ∧ b = (bk || (decide (p.g[i][k] = (e : Int)) && (p.s[i].take j).any fun y => wayN p e to 7 y.toNat)) ∧ Grow h15 h16, fun _ y _ => (p.s[i].length - y).toNat, ⟨0, rfl, by omega, by simp, Fr.refl _ _⟩, ?_⟩
      rintro bj y h16 ⟨j, rfl, hj, hbj, g16⟩
      have f116 := f115.trans g16
      refine ldS_i (s := a2) (box f116).2.2.1 (ListsAt.getg x.g (f1.trans f116) hig fun t' yt' => ?_)
      refine (yt'.keep (f1.trans f116) fun _ _ h => h).get hkl ?_
      refine ⟨fun c => c = (decide (p.g[i][k] = (e : Int)) && decide (j < p.s[i].length)), ⟨fun ez => ?_, fun ez => ?_⟩, ?_⟩
      · refine ldS_i (s := a0) (box f116).1 (ListsAt.getg x.s (f1.trans f116) his fun t2 y2 => ?_)
        have h1 : p.g[i][k] = (e : Int) := by simpa using ez
        have h2 := y2.len
        rw [h2]
        simp [h1]
      · have h1 : ¬ p.g[i][k] = (e : Int) := by simpa using ez
        simp [h1]
      rintro _ rfl
      refine ⟨fun ec => ?_, fun ec => ?_⟩
      · obtain ⟨ec1, ec2⟩ := Bool.and_eq_true_iff.1 ec
        have hz := of_decide_eq_true ec1
        have hjl := of_decide_eq_true ec2
        have hwj : IntKind.i64.wrap ((j : Int) + 1) = ((j + 1 : Nat) : Int) := by rw [wrap64_id (by omega) (by omega)]; omega
        obtain ⟨y, ey⟩ := Int.eq_ofNat_of_zero_le (hin _ (List.getElem_mem hjl)).1
        have hy := (hin _ (List.getElem_mem hjl)).2
        have hnj : (p.s[i].take (j + 1)).any (fun y => wayN p e to 7 y.toNat) = ((p.s[i].take j).any (fun y => wayN p e to 7 y.toNat) || wayN p e to 7 y) := by
          rw [List.take_succ_eq_append_getElem hjl, List.any_append, ey]
          simp
        rw [hz] at hbj
        simp only [decide_true, Bool.true_and] at hbj
        refine ⟨fun b h' => b = (bj || wayN p e to 7 y) ∧ Grow h16 h', ⟨fun et => ⟨by rw [et, Bool.true_or], Fr.refl _ _⟩, fun ef => ?_⟩, ?_⟩
        · obtain ⟨b1, b2, b3, b4, b5⟩ := box f116
          refine ⟨a0, a1, a2, a3, a4, b1, b2, b3, b4, b5, ldS_i (s := a0) b1 (ListsAt.getg x.s (f1.trans f116) his fun t2 y2 => ?_)⟩
          refine (y2.keep (f1.trans f116) fun _ _ h => h).get hjl ?_
          rw [ey] at hy ⊢
          refine cal_of (way_spec ok B e to 7 (by omega) h16 y (by omega) (x.grow (f1.trans f116))) ?_
          rintro _ h17 ⟨rfl, f17⟩
          exact ⟨_, rfl, by rw [ef, Bool.false_or], f17⟩
        rintro _ h18 ⟨rfl, f18'⟩
        refine ⟨⟨j + 1, hwj, by omega, ?_, g16.trans f18'⟩, by rw [hwj]; (try dsimp only); omega⟩
        rw [hnj, hbj, hz]
        simp [Bool.or_assoc]
      · refine ⟨⟨k + 1, hwk, by omega, ?_, g15.trans g16⟩, by rw [hwk]; (try dsimp only); omega⟩
        rw [hnk, ← Bool.or_assoc, ← hbk, hbj]
        by_cases hz : p.g[i][k] = (e : Int)
        · have : ¬ j < p.s[i].length := by simpa [hz] using ec
          have : j = p.s[i].length := by omega
          subst this
          rw [List.take_length]
        · simp [hz]
    · have hk : k = p.g[i].length := by omega
      subst hk
      rw [List.take_length] at hbk
      refine ⟨⟨i + 1, hwi, by omega, ?_, g14.trans g15⟩, by rw [hwi]; (try dsimp only); omega⟩
      rw [hnx, ← Bool.or_assoc, ← hbi, hbk]
  have hi : i = p.g.length := by omega
  subst hi
  have hbS : bi = isS p e to := by rw [hbi, key]; rfl
  refine cal_of (ansHas_spec (A.grow (g9.trans (g10.trans g14))) (by omega) (by omega) to e) ?_
  rintro _ _ ⟨rfl, rfl⟩
  have hS : hasS p.s.length W S to e = bi := by
    have : S to e = isS p e to := ways_law ok hn7 (ls e (by omega)) htl
    rw [hbS, ← this]
    simp [hasS, htl, heW]
  rw [hS]
  refine ⟨_, rfl, fun hne => by simp at hne, fun _ => ⟨⟨to + 1, hwt, by omega, g9.trans (g10.trans g14)⟩, by rw [hwt]; (try dsimp only); omega⟩⟩
end Go.Proofs.Ytglhkodebehdbaa

/-
  The document's Inst walked.
-/
import Derived.Test.YtohlfkomjmjheaaTyN
namespace Go.Proofs.Ytohlfkomjmjheaa
open Go Go.Lf
set_option linter.unusedVariables false

def gK (k : Int) (ls : List Int) (r : Int) : Int := if k = 9 then r else lifeF ls r
theorem inst_tree {k : Int} {nm : ByteArray} {mu : Bool} {r : Int} {rs : List Int} {az : List Ty} {ls : List Int} {pk : ByteArray → Option Ty} (hnp : k = 9 → pk nm = none) :
    instT (lifeF ls) pk (.mk k nm mu r rs az) = .mk k nm mu (if k = 5 then r else if (ownL (.mk k nm mu r rs [])).length = 1 then ((ownL (.mk k nm mu r rs az)).map (gK k ls)).getD 0 r else r)
      (if k = 5 then ((ownL (.mk k nm mu r rs az)).map (gK k ls)).take (ownL (.mk k nm mu r rs [])).length else rs) (az.map (instT (lifeF ls) pk)) := by
  rw [instT_mk, ownL_mk, ownL_mk]
  by_cases h9 : k = 9
  · rw [if_pos h9, hnp h9]
    subst h9
    simp [gK]
  rw [if_neg h9]
  by_cases h5 : k = 5
  · subst h5
    have : gK 5 ls = lifeF ls := by funext x; unfold gK; simp
    simp [hasOwn, this, List.take_of_length_le]
  by_cases h7 : 7 ≤ k ∧ k ≤ 9
  · have hh : hasOwn (.mk k nm mu r rs az) = true := by
      have : k = 7 ∨ k = 8 := by omega
      rcases this with rfl | rfl <;> rfl
    rw [hh, if_neg h5, if_neg h5, if_pos h7, if_neg h5]
    simp [gK, h9]
  · have hh : hasOwn (.mk k nm mu r rs az) = false := by
      unfold hasOwn
      simp
      omega
    rw [hh, if_neg h5, if_neg h5, if_neg h7, if_neg h5]
    simp [h5]

theorem instR_spec {l nm ar : Sv} {ls : List Int} {nms : List ByteArray} {bs : List Ty} : ∀ (t : Ty) (n : Nat) (_ : n ≤ 8) (_ : small n t = true) (Q : Nat → Prop) (v : Tv) (h : Heap), (∀ b, Q b → b < h.size) → TyAt Q h t v → EnvAt Q h l nm ar ls nms bs →
    CallsH Try.prog 22 #[.agg (tvs v), .slice l.a l.n l.c, .slice nm.a nm.n nm.c, .slice ar.a ar.n ar.c] h (fun x h' => Grow h h' ∧ ∃ v', x = .agg (tvs v') ∧ TyAt (fun b => Q b ∨ h.size ≤ b) h' (instT (lifeF ls) (pickT nms bs) t) v') := by
  intro t
  refine Ty.ind (P := fun t => ∀ (n : Nat) (_ : n ≤ 8) (_ : small n t = true) (Q : Nat → Prop) (v : Tv) (h : Heap), (∀ b, Q b → b < h.size) → TyAt Q h t v → EnvAt Q h l nm ar ls nms bs →
    CallsH Try.prog 22 #[.agg (tvs v), .slice l.a l.n l.c, .slice nm.a nm.n nm.c, .slice ar.a ar.n ar.c] h (fun x h' => Grow h h' ∧ ∃ v', x = .agg (tvs v') ∧ TyAt (fun b => Q b ∨ h.size ≤ b) h' (instT (lifeF ls) (pickT nms bs) t) v')) ?_ t
  intro k nm' mu r rs az ih n hn hsm Q v h hQ hv env
  have hown6 := ownL_len hsm
  obtain ⟨m, rfl, ha4, hr6, hall⟩ := small_mk hsm
  have hbare : small (m + 1) (.mk k nm' mu r rs []) = true := by
    have h' : (decide (az.length ≤ 4) && decide (rs.length ≤ 6) && decide (nm'.size ≤ 60) && az.all (small m)) = true := hsm
    show (decide (([] : List Ty).length ≤ 4) && decide (rs.length ≤ 6) && decide (nm'.size ≤ 60) && ([] : List Ty).all (small m)) = true
    simp only [Bool.and_eq_true, decide_eq_true_eq] at h' ⊢
    exact ⟨⟨⟨Nat.zero_le _, h'.1.1.2⟩, h'.1.2⟩, rfl⟩
  obtain ⟨vk, vnm, vmu, vr, vrs, vaz⟩ := v
  have hv0 := hv
  obtain ⟨e1, e2, e3, e4, e5, e6, e7⟩ := tyAt_iff.1 hv
  dsimp only at e1 e2 e3 e4 e5 e6 e7
  subst e1 e2 e3 e4
  clear e7
  apply F22
  unfold L22
  refine new6 (v := ⟨vk, vnm, vmu, vr, vrs, vaz⟩) fun h1 b1 f1 z1 => newz fun h2 b2 f2 z2 => ?_
  have g2 : Grow h h2 := f1.trans f2
  have B1 := f2.blk b1 fun h => h
  have env2 := env.grow g2
  have s01 := f1.size
  -- a parameter
  refine ⟨fun h' => h2 = h' ∧ (vk = 9 → pickT nms bs vnm = none), ?_, ?_⟩
  · refine ⟨_, (Tv6.blk B1).1, ?_⟩
    refine ifb_iff (q := vk = 9) (by simp) (fun h9 => ?_) (fun h9 => ⟨rfl, fun e => absurd e h9⟩)
    have hsm' := env.small.1
    refine ⟨fun i h' => h2 = h' ∧ ∃ j : Nat, i = j ∧ j ≤ nms.length ∧ ∀ q (hq : q < nms.length), q < j → (nms[q].toList == vnm.toList) = false, fun i _ => nms.length - i.toNat, ⟨rfl, 0, rfl, Nat.zero_le _, fun q _ h => absurd h (Nat.not_lt_zero _)⟩, ?_⟩
    rintro _ _ ⟨rfl, j, rfl, hj, hnone⟩
    rw [env2.nlen]
    refine ifb_iff (q := j < nms.length) (by simp) (fun hl => ?_) (fun hl => ?_)
    · obtain ⟨p, e, _, c⟩ := env2.nat j hl
      refine ⟨p, e, by omega, by rw [env2.nlen]; omega, _, by rw [Int.toNat_natCast]; exact c, _, (Tv6.blk B1).2.1, ?_⟩
      refine ⟨fun he => ?_, fun he => ?_⟩
      · have hid : nmIdx nms vnm = some j := by
          unfold nmIdx
          rw [List.findIdx?_eq_some_iff_getElem]
          exact ⟨hl, he, fun q hq => by rw [hnone q (by omega) hq]; simp⟩
        have harn : ar.n = bs.length := (tyAt_iff.1 env2.args).2.2.2.2.2.1
        refine ifb_iff (q := j < bs.length) (by simp [harn]) (fun hi => ?_) (fun hi => ⟨rfl, fun _ => by unfold pickT; rw [hid]; simp; omega⟩)
        refine args_get (v := ⟨0, ⟨#[]⟩, false, 0, ⟨none, 0, 0⟩, ar⟩) env2.args hi fun u hu => ?_
        refine sto6 (v := u) b2 rfl fun h5 b5' f5 => ?_
        refine rd6 (Tv6.blk b5') ⟨g2.trans' f5 fun i hi e => by omega, u, rfl, ?_⟩
        have hpk : pickT nms bs vnm = some bs[j] := by
          unfold pickT
          rw [hid]
          simp [hi]
        rw [instT_mk, if_pos h9, hpk]
        refine (hu.fr f5 fun b hb e => ?_).weak fun b hb _ => .inl hb
        have := hQ b hb
        omega
      · refine ⟨⟨rfl, j + 1, wrap_succ hl (by omega), hl, fun q hq hqj => ?_⟩, ?_⟩
        · rcases Nat.lt_or_ge q j with h1 | h1
          · exact hnone q hq h1
          · obtain rfl : q = j := by omega
            exact he
        · rw [wrap_succ hl (by omega)]
          simp only [Int.toNat_natCast]
          omega
    · refine ⟨rfl, fun _ => ?_⟩
      have : nmIdx nms vnm = none := by
        unfold nmIdx
        rw [List.findIdx?_eq_none_iff]
        intro y hy
        obtain ⟨q, hq, rfl⟩ := List.mem_iff_getElem.1 hy
        exact hnone q hq (by omega)
      unfold pickT
      rw [this]; rfl
  rintro _ ⟨rfl, hnp⟩
  refine rd6 (Tv6.blk B1) ?_
  refine cal_of (own_spec (hv.grow g2)) ?_
  rintro _ h6 ⟨f6, s6, rfl, i6⟩
  refine ⟨s6, rfl, ?_⟩
  have htree := inst_tree (nm := vnm) (mu := vmu) (r := vr) (rs := rs) (az := az) (ls := ls) hnp
  have hob : ownL (.mk vk vnm vmu vr rs []) = ownL (.mk vk vnm vmu vr rs az) := by rw [ownL_mk, ownL_mk]
  generalize hoo : ownL (.mk vk vnm vmu vr rs az) = ow at i6 hown6 htree hob
  have hlb := env.small.2.1
  have hln := env.ints.len
  refine ⟨fun s i h' => ∃ j : Nat, i = j ∧ j ≤ ow.length ∧ Grow h6 h' ∧ Own h' h6.size 1 s (ints ((ow.take j).map (gK vk ls))), fun _ i _ => ow.length - i.toNat, ⟨0, rfl, Nat.zero_le _, Fr.refl _ _, Own.nil _ _ _⟩, ?_⟩
  rintro s1 _ h7 ⟨j, rfl, hj, f7, o7⟩
  dsimp only
  rw [i6.len]
  have g7 := g2.trans (f6.trans f7)
  have B17 := (f6.trans f7).blk B1 fun h => h
  have hn1 : s1.n = j := by have := o7.len; simp [ints] at this; omega
  refine ifb_iff (q := j < ow.length) (by simp) (fun hl => ?_) (fun hl => ?_)
  · obtain ⟨p, e, c⟩ := i6.at_ j hl
    refine ⟨p, e, by omega, by rw [i6.len]; omega, _, by rw [Int.toNat_natCast]; exact f7.clk c (fun h => h), ?_⟩
    refine ⟨fun x => x = gK vk ls ow[j], ?_, ?_⟩
    · refine ⟨_, (Tv6.blk B17).1, ?_⟩
      refine ifb_iff (q := vk ≠ 9 ∧ 1 ≤ ow[j] ∧ ow[j] ≤ ls.length) (by simp only [Bool.and_eq_true, bne_iff_ne, decide_eq_true_eq, ne_eq, hln]; exact and_assoc) (fun q => ?_) (fun q => ?_)
      · obtain ⟨q1, q2, q3⟩ := q
        have hw : IntKind.i64.wrap (ow[j] - 1) = ow[j] - 1 := wrap64_id (by omega) (by omega)
        rw [hw]
        obtain ⟨q, e', _, c⟩ := (env.grow g7).ints.at_ (ow[j] - 1).toNat (by omega)
        refine ⟨q, e', by omega, by omega, _, c, ?_⟩
        unfold gK lifeF
        rw [if_neg q1, if_pos ⟨q2, q3⟩, List.getD_eq_getElem?_getD, List.getElem?_eq_getElem (by omega)]
        rfl
      · unfold gK lifeF
        by_cases h9 : vk = 9
        · rw [if_pos h9]
        · rw [if_neg h9, if_neg fun h => q ⟨h9, h⟩]
    rintro _ rfl
    refine app1 rfl o7 rfl (by simp [Value.oneCell']) f7.size (by omega) (by omega) fun s' h' hn' o' f' _ => ?_
    rw [wrap_succ hl (by omega)]
    refine ⟨⟨j + 1, rfl, hl, f7.trans' f' fun i hi e => by have := (o7.ge e).1; omega, ?_⟩, by simp; omega⟩
    have : ints ((ow.take (j + 1)).map (gK vk ls)) = ints ((ow.take j).map (gK vk ls)) ++ #[Value.int .i64 (gK vk ls ow[j])].toList := by
      rw [List.take_succ_eq_append_getElem hl, List.map_append]
      unfold ints
      rw [List.map_append]
      rfl
    rw [this]; exact o'
  have hje : j = ow.length := by omega
  subst hje
  rw [List.take_length] at o7
  have T := Tv6.blk B17
  refine ⟨_, T.1, _, T.2.1, _, T.2.2.1, _, T.2.2.2.1, _, T.2.2.2.2.1, ?_⟩
  refine newz fun h10 b10 f10 z10 => ?_
  refine sto6 (v := ⟨vk, vnm, vmu, vr, vrs, ⟨none, 0, 0⟩⟩) b10 rfl fun h11 b11 f11 => ?_
  have s67 := f7.size
  have s26 := f6.size
  have p711 : Grow h7 h11 := f10.trans' f11 fun i hi e => by omega
  have g11 := g7.trans p711
  have s711 := p711.size
  refine rd6 (Tv6.blk b11) ?_
  have hbt : TyAt Q h11 (.mk vk vnm vmu vr rs []) ⟨vk, vnm, vmu, vr, vrs, ⟨none, 0, 0⟩⟩ := tyAt_iff.2 ⟨rfl, rfl, rfl, rfl, e5.fr g11 fun _ _ h => h, rfl, fun j hj => by simp at hj⟩
  have o11 := o7.frame p711 fun _ _ h => h
  have hbl : allT (.mk vk vnm vmu vr rs []) = ow := by rw [allT_mk, hob]; simp
  refine cal_of (with_spec (.mk vk vnm vmu vr rs []) (m + 1) hn hbare Q (fun b => b < h11.size) _ h11 s1 (ow.map (gK vk ls)) (fun b hb => by have := hQ b hb; have := g11.size; omega) (fun b hb => hb) hbt (IntsQ.of (own_ints o11) fun b _ hb => hb) (own_cap o11) (by rw [hbl]; simp)) ?_
  rintro _ h12 ⟨f12, u, l', rfl, tu, -, -, hun⟩
  have hu0 := hun rfl
  rw [withT_mk, hob] at tu
  obtain ⟨uk, unm, umu, ur, urs, uaz⟩ := u
  obtain ⟨q1, q2, q3, q4, q5, -, -⟩ := tyAt_iff.1 tu
  dsimp only at q1 q2 q3 q4 q5 hu0
  subst q1 q2 q3 hu0
  rw [hob] at htree
  rw [← q4] at htree
  clear q4 tu
  generalize (if uk = 5 then List.take ow.length (List.map (gK uk ls) ow) else rs) = RS at htree q5
  refine ⟨_, _, _, _, _, _, l', rfl, ?_⟩
  refine newz fun h13 b13 f13 z13 => ?_
  refine sto6 (v := ⟨uk, unm, umu, ur, urs, ⟨none, 0, 0⟩⟩) b13 rfl fun h14 b14 f14 => ?_
  have s1112 := f12.size
  have p1114 : Grow h11 h14 := f12.trans (f13.trans' f14 fun i hi e => by omega)
  have g14 := g11.trans p1114
  have s14 := f14.size
  have s02 := g2.size
  have B14 := (p711.trans p1114).blk B17 fun h => h
  have b24 := ((f6.trans f7).trans (p711.trans p1114)).blk b2 fun h => h
  have q14 := (q5.weak (Q' := fun b => (Q b ∨ h11.size ≤ b) ∧ b < h12.size) fun b hb hl => ⟨hb, hl⟩).fr (T := fun _ => False) (f13.trans' f14 fun i hi e => by omega) fun b hb e => e
  refine ⟨fun i h' => ∃ (j : Nat) (s : Sv) (us : List Tv), i = j ∧ j ≤ az.length ∧ us.length = j ∧
      blk h' h12.size (tvs ⟨uk, unm, umu, ur, urs, s⟩) ∧ blk h' h.size (tvs ⟨uk, unm, umu, vr, vrs, vaz⟩) ∧ blk h' h1.size z6 ∧ Own h' h13.size 6 s (c6 us) ∧ Grow h h' ∧ h13.size ≤ h'.size ∧
      IntsC (fun b => (Q b ∨ h11.size ≤ b) ∧ b < h12.size) h' urs RS ∧
      ∀ i (hi : i < us.length) (hi' : i < az.length), TyAt (fun b => (Q b ∨ h13.size ≤ b) ∧ ¬ s.own b) h' (instT (lifeF ls) (pickT nms bs) az[i]) us[i], fun i _ => az.length - i.toNat,
    ⟨0, ⟨none, 0, 0⟩, [], rfl, Nat.zero_le _, rfl, b14, B14, b24, Own.nil _ _ _, g14, s14, q14, fun i hi => by simp at hi⟩, ?_⟩
  rintro _ h15 ⟨j, s, us, rfl, hj, hus, E6, E1, E2, oE, g15, sz15, ir15, hel⟩
  have T15 := Tv6.blk E1
  have hnE : s.n = j := by have := oE.len; rw [c6_len] at this; omega
  refine ⟨_, T15.2.2.2.2.2, ?_⟩
  refine ifb_iff (q := j < az.length) (by simp [e6]) (fun hlt => ?_) (fun hge => ?_)
  · refine ⟨fun h' => Grow h15 h', Fr.refl _ _, _, T15.2.2.2.2.2, args_get (hv.grow g15) hlt fun u hu => ?_⟩
    refine ⟨s, fun h' hs => by rw [add_plain, (hs.blk E6 fun h => h).cl]; rfl, ?_⟩
    refine cal_of (ih _ (List.getElem_mem hlt) m (by omega) (hall _ (List.getElem_mem hlt)) Q u h15 (fun b hb => by have := hQ b hb; have := g15.size; omega) hu (env.grow g15)) ?_
    rintro _ h16 ⟨f16, v63, rfl, t63⟩
    refine ⟨_, _, _, _, _, _, rfl, f16, ?_⟩
    have G6 := f16.blk E6 fun h => h
    have oG := oE.frame f16 (fun _ _ h => h)
    have s16 := f16.size
    have hsge : ∀ b, s.own b → h13.size ≤ b ∧ b < h15.size := fun b hb => oE.ge hb
    rintro s' h' es eh
    refine ⟨by subst eh; exact f16.trans (Fr.push _ _ _), ?_⟩
    revert s' h'
    refine app1 (vs := tvs v63) rfl oG rfl (one_c6 v63) (by omega) (by omega) (by omega) fun s17 h17 hn17 o17 f17 own17 => ?_
    have no2 : ¬ s.own h12.size := fun e => by have := (hsge _ e).1; omega
    have H6 := f17.blk G6 no2
    rw [add_plain]
    refine sto_i H6 (by simp) ?_
    have hw : blk (sc h17 ⟨h12.size, 0 + 5, none⟩ (.slice s17.a s17.n s17.c)) h12.size (tvs ⟨uk, unm, umu, ur, urs, s17⟩) := H6.sc 5 (.slice s17.a s17.n s17.c)
    generalize hh : sc h17 ⟨h12.size, 0 + 5, none⟩ (.slice s17.a s17.n s17.c) = h18 at hw
    have f18 : Fr (fun b => b = h12.size) h17 h18 := by rw [← hh]; exact Fr.scb _ _ _ _
    have s17z := f17.size
    have s18z := f18.size
    have own17' : ∀ b, s17.own b → s.own b ∨ h16.size ≤ b := own17
    have hall18 : Fr (fun b => b = h12.size ∨ s.own b) h16 h18 := (f17.mono fun _ _ e => .inr e).trans (f18.mono fun _ _ e => .inl e)
    have hfr : Fr (fun b => b = h12.size ∨ s.own b) h15 h18 := Fr.trans' (T := fun b => b = h12.size ∨ s.own b) (f16.mono fun _ _ e => e.elim) hall18 fun i hi e => e
    rw [wrap_succ hlt (by omega)]
    refine ⟨⟨j + 1, s17, us ++ [v63], rfl, hlt, by simp [hus], hw, hfr.blk E1 ?_, hfr.blk E2 ?_, ?_, ?_, by omega, ?_, ?_⟩, by simp; omega⟩
    · intro e
      rcases e with e | e
      · omega
      · have := (hsge _ e).1; omega
    · intro e
      rcases e with e | e
      · omega
      · have := (hsge _ e).1; omega
    · rw [c6_app]
      have := o17.frame f18 fun b hb e => by
        rcases own17' b hb with q | q
        · have := (hsge b q).1; omega
        · omega
      simpa [c6] using this
    · exact g15.trans' hfr fun i hi e => by
        rcases e with e | e
        · omega
        · have := (hsge _ e).1; omega
    · refine ir15.fr hfr fun b hb e => ?_
      rcases e with e | e
      · omega
      · have := (hsge _ e).1; omega
    · intro i hi hi'
      rcases Nat.lt_or_ge i us.length with q | q
      · rw [List.getElem_append_left q]
        have x0 := (hel i q hi').weak (Q' := fun b => ((Q b ∨ h13.size ≤ b) ∧ ¬ s17.own b) ∧ ¬ (b = h12.size ∨ s.own b)) fun b hb hlt' => ⟨⟨hb.1, fun e => (own17' b e).elim hb.2 fun e => by omega⟩, fun e => by
          rcases e with e | e
          · rcases hb.1 with q | q
            · have := hQ b q; omega
            · omega
          · exact hb.2 e⟩
        exact (x0.fr hfr fun b hb => hb.2).weak fun b hb _ => hb.1
      · have hij : i = j := by simp at hi; omega
        subst hij
        rw [List.getElem_append_right q]
        simp only [hus, Nat.sub_self, List.getElem_cons_zero]
        have x0 := t63.weak (Q' := fun b => ((Q b ∨ h13.size ≤ b) ∧ ¬ s17.own b) ∧ ¬ (b = h12.size ∨ s.own b)) fun b hb hlt' => by
          have hns : ¬ s.own b := fun e => by
            have := hsge b e
            rcases hb with hb | hb
            · have := hQ b hb; omega
            · omega
          refine ⟨⟨hb.imp id fun e => by omega, fun e => (own17' b e).elim hns fun e => by omega⟩, fun e => e.elim (fun e => ?_) hns⟩
          rcases hb with hb | hb
          · have := hQ b hb; omega
          · omega
        exact (x0.fr hall18 fun b hb => hb.2).weak fun b hb _ => hb.1
  · have hje : j = az.length := by omega
    subst hje
    refine rd6 (t := ⟨uk, unm, umu, ur, urs, s⟩) (Tv6.blk E6) ?_
    refine sto6 (v := ⟨uk, unm, umu, ur, urs, s⟩) E2 rfl fun h19 b19 f19 => ?_
    refine rd6 (t := ⟨uk, unm, umu, ur, urs, s⟩) (Tv6.blk b19) ⟨g15.trans' f19 fun i hi e => by omega, _, rfl, ?_⟩
    rw [htree]
    refine tyAt_iff.2 ⟨rfl, rfl, rfl, rfl, ?_, ?_, fun i hi => ?_⟩
    · refine (ir15.fr f19 fun b hb e => ?_).weak fun b hb _ => hb.1.imp id fun q => by omega
      rcases hb.1 with q | q
      · have := hQ b q; omega
      · omega
    · rw [List.length_map]; exact hnE
    · have hi' : i < az.length := by rw [List.length_map] at hi; exact hi
      obtain ⟨p, q1, q2, q3⟩ := own6 oE (i := i) (by omega)
      have hpb := (oE.ge q2).1
      refine ⟨p, us[i], q1, .inr (by omega), q3.fr f19 (by rw [add_block]; omega), ?_⟩
      rw [List.getElem_map]
      refine ((hel i (by omega) hi').fr f19 fun b hb e => ?_).weak fun b hb _ => hb.1.imp id fun q => by omega
      rcases hb.1 with q | q
      · have := hQ b q; omega
      · omega
end Go.Proofs.Ytohlfkomjmjheaa

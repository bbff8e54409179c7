/-
  types.Inst walked.
-/
import Derived.Test.YteaidgpiolakcaaI2
namespace Go.Proofs.Yteaidgpiolakcaa.inst
open Go Go.Lf Go.Proofs.Yteaidgpiolakcaa
set_option linter.unusedVariables false

theorem instP_spec {l nm ar : Sv} {ls : List Int} {nms : List ByteArray} {bs : List Ty} : ∀ (t : Ty) (n : Nat) (_ : n ≤ 8) (_ : small n t = true) (Q : Nat → Prop) (v : Tv) (h : Heap), (∀ b, Q b → b < h.size) → TyAt Q h t v → EnvAt Q h l nm ar ls nms bs →
    CallsH Try.prog 11 #[.agg (tvs v), .slice l.a l.n l.c, .slice nm.a nm.n nm.c, .slice ar.a ar.n ar.c] h (fun x h' => Grow h h' ∧ ∃ v', x = .agg (tvs v') ∧ TyAt (fun b => Q b ∨ h.size ≤ b) h' (instT (lifeF ls) (pickT nms bs) t) v') := by
  intro t
  refine Ty.ind (P := fun t => ∀ (n : Nat) (_ : n ≤ 8) (_ : small n t = true) (Q : Nat → Prop) (v : Tv) (h : Heap), (∀ b, Q b → b < h.size) → TyAt Q h t v → EnvAt Q h l nm ar ls nms bs →
    CallsH Try.prog 11 #[.agg (tvs v), .slice l.a l.n l.c, .slice nm.a nm.n nm.c, .slice ar.a ar.n ar.c] h (fun x h' => Grow h h' ∧ ∃ v', x = .agg (tvs v') ∧ TyAt (fun b => Q b ∨ h.size ≤ b) h' (instT (lifeF ls) (pickT nms bs) t) v')) ?_ t
  intro k nm' mu r rs az ih n hn hsm Q v h hQ hv env
  obtain ⟨m, rfl, ha4, hr6, hall⟩ := small_mk hsm
  obtain ⟨vk, vnm, vmu, vr, vrs, vaz⟩ := v
  have hv0 := hv
  obtain ⟨e1, e2, e3, e4, e5, e6, e7⟩ := tyAt_iff.1 hv
  dsimp only at e1 e2 e3 e4 e5 e6 e7
  subst e1 e2 e3 e4
  clear e7
  apply F11
  unfold L11
  refine new6 (v := ⟨vk, vnm, vmu, vr, vrs, vaz⟩) fun h1 b1 f1 z1 => ?_
  rintro p5 h2 rfl rfl
  have b5 := blk.new h1 #[Value.slice l.a l.n l.c] 30
  have f2 : Grow h1 (h1.push (.cells #[Value.slice l.a l.n l.c] 30)) := Fr.push _ _ _
  have z2 : (h1.push (.cells #[Value.slice l.a l.n l.c] 30)).size = h1.size + 1 := by simp
  generalize h1.push (.cells #[Value.slice l.a l.n l.c] 30) = h2 at *
  refine newz fun h3 b3 f3 z3 => ?_
  have g3 : Grow h h3 := f1.trans (f2.trans f3)
  have B1 := (f2.trans f3).blk b1 fun h => h
  have B5 := f3.blk b5 fun h => h
  have env3 := env.grow g3
  -- a parameter
  refine ⟨fun h' => h3 = h' ∧ (vk = 9 → pickT nms bs vnm = none), ?_, ?_⟩
  · refine ⟨_, (Tv6.blk B1).1, ?_⟩
    refine ifb_iff (q := vk = 9) (by simp) (fun h9 => ?_) (fun h9 => ⟨rfl, fun e => absurd e h9⟩)
    refine ⟨_, (Tv6.blk B1).2.1, ?_⟩
    refine cal_of (idx_spec env3 vnm) ?_
    rintro _ _ ⟨rfl, rfl⟩
    refine ⟨_, rfl, ?_⟩
    have harn : ar.n = bs.length := (tyAt_iff.1 env3.args).2.2.2.2.2.1
    cases hid : nmIdx nms vnm with
    | none =>
      refine ⟨fun e => by simp at e, fun _ => ⟨rfl, fun _ => by unfold pickT; rw [hid]; rfl⟩⟩
    | some i =>
      dsimp only
      refine ifb_iff (q := i < bs.length) (by simp [harn]) (fun hi => ?_) (fun hi => ⟨rfl, fun _ => by unfold pickT; rw [hid]; simp; omega⟩)
      refine args_get (v := ⟨0, ⟨#[]⟩, false, 0, ⟨none, 0, 0⟩, ar⟩) env3.args hi fun u hu => ?_
      refine sto6 (v := u) b3 rfl fun h5 b5' f5 => ?_
      refine rd6 (Tv6.blk b5') ⟨g3.trans' f5 fun i hi e => by have := f1.size; omega, u, rfl, ?_⟩
      have hpk : pickT nms bs vnm = some bs[i] := by
        unfold pickT
        rw [hid]
        simp [hi]
      rw [instT_mk, if_pos h9, hpk]
      refine (hu.fr f5 fun b hb e => ?_).weak fun b hb _ => .inl hb
      have := hQ b hb
      have := f1.size
      omega
  rintro _ ⟨rfl, hnp⟩
  have g1size := f1.size
  -- its own region
  generalize hR : (if vk = 9 then vr else if hasOwn (.mk vk vnm vmu vr rs az) = true then lifeF ls vr else vr) = R
  refine ⟨fun h' => blk h' h.size (tvs ⟨vk, vnm, vmu, R, vrs, vaz⟩) ∧ blk h' h1.size #[.slice l.a l.n l.c] ∧ blk h' h2.size z6 ∧ Grow h h' ∧ h3.size ≤ h'.size, ?_, ?_⟩
  · refine rd6 (Tv6.blk B1) ?_
    refine cal_of (ownB_spec (hv.grow g3)) ?_
    rintro _ h4 ⟨f4, rfl⟩
    refine ⟨_, rfl, ?_⟩
    have B14 := f4.blk B1 fun h => h
    have B54 := f4.blk B5 fun h => h
    have b34 := f4.blk b3 fun h => h
    refine ⟨fun b => b = true ↔ (hasOwn (.mk vk vnm vmu vr rs az) = true ∧ vk ≠ 9), ⟨fun e => ⟨_, (Tv6.blk B14).1, ?_⟩, fun e => ?_⟩, ?_⟩
    · show _ = true ↔ _
      rw [e]; simp
    · show false = true ↔ _
      rw [e]; simp
    rintro b hb
    refine ⟨fun e => ?_, fun e => ?_⟩
    · obtain ⟨q1, q2⟩ := hb.1 e
      rw [if_neg q2, if_pos q1] at hR
      refine ⟨_, (Tv6.blk B14).2.2.2.1, ?_⟩
      refine ⟨_, _, rfl, ⟨Try.f19, Try.func19, by kernel_rfl, by kernel_rfl⟩, cal_of (life_call (env3.grow f4) B54 vr) ?_⟩
      rintro _ _ ⟨rfl, rfl⟩
      refine ⟨_, rfl, ?_⟩
      rw [add_plain]
      refine sto_i B14 (by simp) ⟨?_, ?_, ?_, ?_, ?_⟩
      · have := B14.sc 3 (.int .i64 (lifeF ls vr))
        rw [← hR]
        exact this
      · exact (Fr.scb _ _ _ _).blk B54 (by omega)
      · exact (Fr.scb _ _ _ _).blk b34 (by omega)
      · exact (g3.trans f4).trans' (Fr.scb _ _ _ _) fun i hi e => by omega
      · rw [sc_size]; exact f4.size
    · have hno : ¬ (hasOwn (.mk vk vnm vmu vr rs az) = true ∧ vk ≠ 9) := fun h => by rw [hb.2 h] at e; cases e
      have hRR : R = vr := by
        rw [← hR]
        by_cases h9 : vk = 9
        · rw [if_pos h9]
        · rw [if_neg h9, if_neg fun h => hno ⟨h, h9⟩]
      rw [hRR]
      exact ⟨B14, B54, b34, g3.trans f4, f4.size⟩
  rintro h7 ⟨B7, c7, b7, F7, S7⟩
  -- its own regions
  generalize hRS : (if vk = 5 then rs.map (lifeF ls) else rs) = RS
  refine ⟨fun h' => ∃ rs', blk h' h.size (tvs ⟨vk, vnm, vmu, R, rs', vaz⟩) ∧ blk h' h1.size #[.slice l.a l.n l.c] ∧ blk h' h2.size z6 ∧ Grow h h' ∧ h3.size ≤ h'.size ∧
    IntsC (fun b => (Q b ∨ h3.size ≤ b) ∧ b < h'.size) h' rs' RS, ?_, ?_⟩
  · refine ⟨_, (Tv6.blk B7).1, ?_⟩
    refine ifb_iff (q := vk = 5) (by simp) (fun h5 => ?_) (fun h5 => ?_)
    rotate_left
    · rw [if_neg h5] at hRS
      subst hRS
      exact ⟨vrs, B7, c7, b7, F7, S7, (e5.fr F7 fun _ _ h => h).weak fun b hb hl => ⟨.inl hb, hl⟩⟩
    rw [if_pos h5] at hRS
    refine ⟨_, (Tv6.blk B7).2.2.2.2.1, ?_⟩
    have i7 := (e5.fr F7 fun _ _ h => h).ints
    refine cal_of (cloneI_spec i7 (by omega)) ?_
    rintro _ h8 ⟨f8, sq, rfl, o8⟩
    refine ⟨sq, rfl, ?_⟩
    have B8 := f8.blk B7 fun h => h
    have c8 := f8.blk c7 fun h => h
    have b8 := f8.blk b7 fun h => h
    have s8 := f8.size
    rw [add_plain]
    refine sto_i B8 (by simp) ?_
    have B9 : blk (sc h8 ⟨h.size, 0 + 4, none⟩ (.slice sq.a sq.n sq.c)) h.size (tvs ⟨vk, vnm, vmu, R, sq, vaz⟩) := B8.sc 4 (.slice sq.a sq.n sq.c)
    have f9 : Fr (fun b => b = h.size) h8 (sc h8 ⟨h.size, 0 + 4, none⟩ (.slice sq.a sq.n sq.c)) := Fr.scb _ _ _ _
    have s9 : (sc h8 ⟨h.size, 0 + 4, none⟩ (.slice sq.a sq.n sq.c)).size = h8.size := sc_size _ _ _
    generalize sc h8 ⟨h.size, 0 + 4, none⟩ (.slice sq.a sq.n sq.c) = h9 at *
    have o9 := o8.frame f9 fun b hb e => by have := (o8.ge hb).1; omega
    refine ⟨_, (Tv6.blk B9).2.2.2.2.1, ?_⟩
    have hsn : sq.n = rs.length := by have := o9.len; simp [ints] at this; omega
    dsimp only
    rw [hsn]
    refine ⟨fun x h' => ∃ j : Nat, x = j ∧ j ≤ rs.length ∧ Own h' h7.size 1 sq (ints ((rs.take j).map (lifeF ls) ++ rs.drop j)) ∧ blk h' h.size (tvs ⟨vk, vnm, vmu, R, sq, vaz⟩) ∧ blk h' h1.size #[.slice l.a l.n l.c] ∧ blk h' h2.size z6 ∧ Grow h h' ∧ h3.size ≤ h'.size, fun x _ => rs.length - x.toNat,
      ⟨0, rfl, Nat.zero_le _, by simpa using o9, B9, f9.blk c8 (by omega), f9.blk b8 (by omega), ?_, by omega⟩, ?_⟩
    · exact (F7.trans f8).trans' f9 fun i hi e => by omega
    rintro _ h10 ⟨j, rfl, hj, o10, B10, c10, b10, F10, S10⟩
    refine ifb_iff (q := j < rs.length) (by simp) (fun hl => ?_) (fun hl => ?_)
    rotate_left
    · have hje : j = rs.length := by omega
      subst hje
      rw [List.take_length, List.drop_length, List.append_nil, hRS] at o10
      exact ⟨sq, B10, c10, b10, F10, S10, IntsQ.of (own_ints o10) fun b hb hlt => ⟨.inr (by have := (o10.ge hb).1; omega), hlt⟩, own_cap o10⟩
    have hlo : ((rs.take j).map (lifeF ls)).length = j := by rw [List.length_map, List.length_take]; omega
    have hget : j < ((rs.take j).map (lifeF ls) ++ rs.drop j).length := by rw [List.length_append, hlo, List.length_drop]; omega
    have hval : ((rs.take j).map (lifeF ls) ++ rs.drop j)[j] = rs[j] := by
      rw [List.getElem_append_right (by omega)]
      simp only [hlo, Nat.sub_self, List.getElem_drop, Nat.add_zero]
    obtain ⟨p, ea, c10'⟩ := (own_ints o10).at_ j hget
    rw [hval] at c10'
    refine ⟨p, ea, by omega, by rw [hsn]; omega, _, by rw [Int.toNat_natCast]; exact c10', ?_⟩
    refine ⟨fun h' => blk h' h.size (tvs ⟨vk, vnm, vmu, R, sq, vaz⟩), B10, sq, fun h' hs => (Tv6.blk hs).2.2.2.2.1, ?_⟩
    refine ⟨_, _, rfl, ⟨Try.f19, Try.func19, by kernel_rfl, by kernel_rfl⟩, cal_of (life_call (env.grow F10) c10 rs[j]) ?_⟩
    rintro _ _ ⟨rfl, rfl⟩
    refine ⟨_, rfl, B10, p, ea, by omega, by rw [hsn]; omega, ?_⟩
    rw [Int.toNat_natCast]
    refine own_sto o10 (by omega) rfl ea fun h12 o12 f12 => ?_
    rw [ints_set _ j hget] at o12
    have hown : ∀ b, sq.own b → h7.size ≤ b := fun b hb => (o10.ge hb).1
    rw [wrap_succ hl (by omega)]
    refine ⟨⟨j + 1, rfl, hl, ?_, f12.blk B10 fun e => by have := hown _ e; omega, f12.blk c10 fun e => by have := hown _ e; omega, f12.blk b10 fun e => by have := hown _ e; omega, F10.trans' f12 fun i hi e => by have := hown _ e; have := F7.size; omega, ?_⟩, by simp; omega⟩
    · have : ((rs.take j).map (lifeF ls) ++ rs.drop j).set j (lifeF ls rs[j]) = (rs.take (j + 1)).map (lifeF ls) ++ rs.drop (j + 1) := by
        rw [List.take_succ_eq_append_getElem hl, List.map_append, List.drop_eq_getElem_cons hl, List.set_append_right _ _ (by omega), hlo, Nat.sub_self, List.set_cons_zero]
        simp
      rw [← this]; exact o12
    · have := f12.size; omega
  rintro h13 ⟨rs', B13, c13, b13, F13, S13, i13⟩
  -- its parts
  refine ⟨_, (Tv6.blk B13).2.2.2.2.2, ?_⟩
  have hv13 : TyAt Q h13 (.mk vk vnm vmu vr rs az) ⟨vk, vnm, vmu, vr, vrs, vaz⟩ := hv0.grow F13
  obtain ⟨us, hul, hrow, hus⟩ := args_row hv13
  dsimp only at hrow
  refine cal_of (cloneT_spec (s := vaz) (us := us) (by rw [e6, hul]) hrow (by omega)) ?_
  rintro _ h14 ⟨f14, sq, rfl, o14⟩
  refine ⟨sq, rfl, ?_⟩
  have B14 := f14.blk B13 fun h => h
  have c14 := f14.blk c13 fun h => h
  have b14 := f14.blk b13 fun h => h
  have s14 := f14.size
  rw [add_plain]
  refine sto_i B14 (by simp) ?_
  have B15 : blk (sc h14 ⟨h.size, 0 + 5, none⟩ (.slice sq.a sq.n sq.c)) h.size (tvs ⟨vk, vnm, vmu, R, rs', sq⟩) := B14.sc 5 (.slice sq.a sq.n sq.c)
  have f15 : Fr (fun b => b = h.size) h14 (sc h14 ⟨h.size, 0 + 5, none⟩ (.slice sq.a sq.n sq.c)) := Fr.scb _ _ _ _
  have s15 : (sc h14 ⟨h.size, 0 + 5, none⟩ (.slice sq.a sq.n sq.c)).size = h14.size := sc_size _ _ _
  generalize sc h14 ⟨h.size, 0 + 5, none⟩ (.slice sq.a sq.n sq.c) = h15 at *
  have o15 := o14.frame f15 fun b hb e => by have := (o14.ge hb).1; omega
  refine ⟨_, (Tv6.blk B15).2.2.2.2.2, ?_⟩
  have hsn : sq.n = az.length := by have := o15.len; rw [c6_len] at this; omega
  have hown : ∀ b, sq.own b → h13.size ≤ b ∧ b < h14.size := fun b hb => o14.ge hb
  dsimp only
  rw [hsn]
  let QE : Nat → Prop := fun b => (Q b ∨ h3.size ≤ b) ∧ ¬ sq.own b
  have qe : ∀ b, QE b → b ≠ h.size ∧ b ≠ h1.size ∧ b ≠ h2.size ∧ ¬ sq.own b := fun b hb => by
    refine ⟨?_, ?_, ?_, hb.2⟩
    all_goals
      rcases hb.1 with e | e
      · have := hQ b e; omega
      · omega
  refine ⟨fun x h' => ∃ (j : Nat) (ws : List Tv), x = j ∧ j ≤ az.length ∧ ws.length = az.length ∧ Own h' h13.size 6 sq (c6 ws) ∧ blk h' h.size (tvs ⟨vk, vnm, vmu, R, rs', sq⟩) ∧ blk h' h1.size #[.slice l.a l.n l.c] ∧ blk h' h2.size z6 ∧ Grow h h' ∧ h14.size ≤ h'.size ∧
      IntsC (fun b => (Q b ∨ h3.size ≤ b) ∧ b < h13.size) h' rs' RS ∧
      ∀ i (h1 : i < ws.length) (h2 : i < az.length), TyAt QE h' (if i < j then instT (lifeF ls) (pickT nms bs) az[i] else az[i]) ws[i], fun x _ => az.length - x.toNat,
    ⟨0, us, rfl, Nat.zero_le _, hul, o15, B15, f15.blk c14 (by omega), f15.blk b14 (by omega), ?_, by omega, ?_, ?_⟩, ?_⟩
  · exact (F13.trans f14).trans' f15 fun i hi e => by omega
  · refine ((i13.fr f14 fun _ _ h => h).fr f15 fun b hb e => ?_)
    rcases hb.1 with q | q
    · have := hQ b q; omega
    · omega
  · intro i q1 q2
    rw [if_neg (Nat.not_lt_zero _)]
    refine (((hus i q1 q2).fr f14 fun _ _ h => h).fr f15 fun b hb e => by have := hQ b hb; omega).weak fun b hb _ => ⟨.inl hb, fun e => by have := hown b e; have := hQ b hb; have := F13.size; omega⟩
  rintro _ h16 ⟨j, ws, rfl, hj, hwl, o16, B16, c16, b16, F16, S16, i16, hws⟩
  have sF13 := F13.size
  refine ifb_iff (q := j < az.length) (by simp) (fun hl => ?_) (fun hl => ?_)
  · have hjw : j < ws.length := by omega
    obtain ⟨p, ea, -, T⟩ := own6 o16 hjw
    refine ⟨p, ea, by omega, by rw [hsn]; omega, rd6 (by rw [Int.toNat_natCast]; exact T) ?_⟩
    refine newz fun h17 b17 f17 z17 => sto6 (v := ws[j]) b17 rfl fun h18 b18 f18 => ?_
    have f1618 : Grow h16 h18 := f17.trans' f18 fun i hi e => by omega
    have s1618 := f1618.size
    have tj := hws j hjw hl
    rw [if_neg (Nat.lt_irrefl _)] at tj
    have B18 := f1618.blk B16 fun h => h
    have c18 := f1618.blk c16 fun h => h
    refine ⟨fun h' => blk h' h.size (tvs ⟨vk, vnm, vmu, R, rs', sq⟩), B18, rd6 (Tv6.blk b18) (ldS_i (c18.cl 0) ⟨sq, fun h' hs => (Tv6.blk hs).2.2.2.2.2, ?_⟩)⟩
    have env18 : EnvAt (fun b => QE b ∧ b < h18.size) h18 l nm ar ls nms bs := (env.grow (F16.trans f1618)).weak fun b hb hl => ⟨⟨.inl hb, fun e => by have := hown b e; have := hQ b hb; omega⟩, hl⟩
    refine cal_of (ih _ (List.getElem_mem hl) m (by omega) (hall _ (List.getElem_mem hl)) (fun b => QE b ∧ b < h18.size) ws[j] h18 (fun b hb => hb.2) ((tj.grow f1618).weak fun b hb hl => ⟨hb, hl⟩) env18) ?_
    rintro _ h19 ⟨f19, v', rfl, t19⟩
    have B19 := f19.blk B18 fun h => h
    refine ⟨_, _, _, _, _, _, rfl, B19, p, ea, by omega, by rw [hsn]; omega, ?_⟩
    have o19 := (o16.frame f1618 fun _ _ h => h).frame f19 fun _ _ h => h
    rw [Int.toNat_natCast]
    refine own_stoA o19 (by omega) (vs := (tvs v').toList) rfl (one_c6 v') ea fun h20 o20 f20 => ?_
    rw [c6_set ws j hjw] at o20
    have s19 := f19.size
    have s20 := f20.size
    rw [wrap_succ hl (by omega)]
    have f1619 := f1618.trans f19
    have all20 : ∀ {b}, ¬ sq.own b → ∀ cs, blk h16 b cs → blk h20 b cs := fun ho cs k => f20.blk (f1619.blk k fun h => h) ho
    refine ⟨⟨j + 1, ws.set j v', rfl, hl, by simp [hwl], o20, all20 (fun e => by have := hown _ e; omega) _ B16, all20 (fun e => by have := hown _ e; omega) _ c16, all20 (fun e => by have := hown _ e; omega) _ b16, ?_, by omega, ?_, ?_⟩, by simp; omega⟩
    · exact (F16.trans f1619).trans' f20 fun i hi e => by have := hown i e; omega
    · exact (i16.fr f1619 fun _ _ h => h).fr f20 fun b hb e => by have := hown b e; omega
    · intro i q1 q2
      rw [List.length_set] at q1
      by_cases hij : i = j
      · subst hij
        rw [if_pos (Nat.lt_succ_self _)]
        simp only [List.getElem_set_self]
        have x0 := t19.weak (Q' := QE) fun b hb hlt => by
          rcases hb with hb | hb
          · exact hb.1
          · exact ⟨.inr (by omega), fun e => by have := hown b e; omega⟩
        exact x0.fr f20 fun b hb => (qe b hb).2.2.2
      · rw [List.getElem_set_ne (fun e => hij e.symm)]
        have e2 : (i < j + 1) = (i < j) := by
          apply propext; omega
        simp only [e2]
        exact ((hws i q1 q2).grow f1619).fr f20 fun b hb => (qe b hb).2.2.2
  · have hje : j = az.length := by omega
    subst hje
    refine rd6 (Tv6.blk B16) ?_
    refine sto6 (v := ⟨vk, vnm, vmu, R, rs', sq⟩) b16 rfl fun h21 b21 f21 => ?_
    have sF := F16.size
    refine rd6 (Tv6.blk b21) ⟨F16.trans' f21 fun i hi e => by omega, _, rfl, ?_⟩
    have htree : instT (lifeF ls) (pickT nms bs) (.mk vk vnm vmu vr rs az) = .mk vk vnm vmu R RS (az.map (instT (lifeF ls) (pickT nms bs))) := by
      rw [instT_mk, ← hR, ← hRS]
      by_cases h9 : vk = 9
      · rw [if_pos h9, hnp h9, if_pos h9, if_neg (by omega)]; rfl
      · rw [if_neg h9, if_neg h9]
    rw [htree]
    refine tyAt_iff.2 ⟨rfl, rfl, rfl, rfl, ?_, ?_, fun i hi => ?_⟩
    · refine (i16.fr f21 fun b hb e => ?_).weak fun b hb _ => hb.1.imp id fun q => by omega
      rcases hb.1 with q | q
      · have := hQ b q; omega
      · omega
    · simp [hsn]
    · have hi' : i < az.length := by simpa using hi
      obtain ⟨p, q1, q2, q3⟩ := own6 o16 (i := i) (by omega)
      have hpb := hown p.block q2
      refine ⟨p, ws[i], q1, .inr (by omega), q3.fr f21 (by rw [add_block]; omega), ?_⟩
      have t0 := hws i (by omega) hi'
      rw [if_pos hi'] at t0
      simp only [List.getElem_map]
      exact (t0.fr f21 fun b hb e => (qe b hb).2.2.1 e).weak fun b hb _ => hb.1.imp id fun q => by omega
end Go.Proofs.Yteaidgpiolakcaa.inst

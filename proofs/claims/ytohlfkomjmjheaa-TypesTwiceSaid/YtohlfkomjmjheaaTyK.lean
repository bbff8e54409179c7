/-
  Map: a type with other regions, one by one.
-/
import Derived.Test.YtohlfkomjmjheaaTyJ
namespace Go.Proofs.Ytohlfkomjmjheaa
open Go Go.Lf
set_option linter.unusedVariables false

section
variable {σ : Type} {g : σ → Int → Int} {nx : σ → Int → σ}
def ownO (g : σ → Int → Int) (t : Ty) (r : Int) (s : σ) : Int := if hasOwn t = true then g s r else r
def ownS (nx : σ → Int → σ) (t : Ty) (r : Int) (s : σ) : σ := if hasOwn t = true then nx s r else s
def regO (g : σ → Int → Int) (nx : σ → Int → σ) (k : Int) (rs : List Int) (s : σ) : List Int := if k = 5 then outs g nx s rs else rs
def regS (nx : σ → Int → σ) (k : Int) (rs : List Int) (s : σ) : σ := if k = 5 then fins nx s rs else s
theorem own_fin (k : Int) (nm : ByteArray) (mu : Bool) (r : Int) (rs : List Int) (az : List Ty) (s : σ) : fins nx s (ownL (.mk k nm mu r rs az)) = regS nx k rs (ownS nx (.mk k nm mu r rs az) r s) := by
  rw [ownL_has, fins_app]
  unfold regS ownS
  by_cases h5 : k = 5
  · rw [if_pos h5, if_pos h5]
    split <;> rfl
  · rw [if_neg h5, if_neg h5]
    split <;> rfl
theorem map_tree (k : Int) (nm : ByteArray) (mu : Bool) (r : Int) (rs : List Int) (az : List Ty) (s : σ) (bz : List Ty) (hl : bz.length = az.length)
    (hb : ∀ i (h1 : i < bz.length) (h2 : i < az.length), bz[i] = withT az[i] (outs g nx (fins nx (regS nx k rs (ownS nx (.mk k nm mu r rs az) r s)) ((az.take i).flatMap allT)) (allT az[i]))) :
    withT (.mk k nm mu r rs az) (outs g nx s (allT (.mk k nm mu r rs az))) = .mk k nm mu (ownO g (.mk k nm mu r rs az) r s) (regO g nx k rs (ownS nx (.mk k nm mu r rs az) r s)) bz := by
  rw [withT_mk, allT_mk, outs_app, own_fin]
  have hol : (outs g nx s (ownL (.mk k nm mu r rs az))).length = (ownL (.mk k nm mu r rs az)).length := outs_len _ _
  have hargs : withA withT allT az ((outs g nx s (ownL (.mk k nm mu r rs az)) ++ outs g nx (regS nx k rs (ownS nx (.mk k nm mu r rs az) r s)) (az.flatMap allT)).drop (ownL (.mk k nm mu r rs az)).length) = bz := by
    rw [← hol, List.drop_left]
    apply List.ext_getElem
    · rw [withA_len, hl]
    · intro i h1 h2
      have h3 : i < az.length := by rw [withA_len] at h1; exact h1
      rw [withA_get _ _ _ _ i h3 h1, hb i h2 h3]
      apply withT_ext
      have hsplit : az.flatMap allT = (az.take i).flatMap allT ++ (allT az[i] ++ (az.drop (i + 1)).flatMap allT) := by
        have : az = az.take i ++ az[i] :: az.drop (i + 1) := by simp
        conv => lhs; rw [this]
        rw [List.flatMap_append, List.flatMap_cons]
      rw [hsplit, outs_app]
      have hl2 : (outs g nx (regS nx k rs (ownS nx (.mk k nm mu r rs az) r s)) ((az.take i).flatMap allT)).length = ((az.take i).flatMap allT).length := outs_len _ _
      rw [← hl2, List.drop_left, outs_app, List.take_append_of_le_length (by rw [outs_len]; exact Nat.le_refl _)]
  rw [hargs]
  congr 1
  · unfold ownO
    rw [ownL_has] at hol ⊢
    by_cases h5 : k = 5
    · have : hasOwn (.mk k nm mu r rs az) = false := by unfold hasOwn; rw [h5]; rfl
      rw [if_pos h5, this, if_neg (by simp)]
    · rw [if_neg h5]
      by_cases ho : hasOwn (.mk k nm mu r rs az) = true
      · rw [if_pos ho, if_pos ho, if_neg h5]; rfl
      · rw [if_neg ho, if_neg ho, if_neg h5]; rfl
  · unfold regO
    by_cases h5 : k = 5
    · have hno : hasOwn (.mk k nm mu r rs az) = false := by unfold hasOwn; rw [h5]; rfl
      have hss : ownS nx (.mk k nm mu r rs az) r s = s := by unfold ownS; rw [hno]; rfl
      rw [if_pos h5, if_pos h5, ← hol, List.take_left, hss, ownL_has, hno, if_pos h5]
      rfl
    · rw [if_neg h5, if_neg h5]
section
variable {Q : Nat → Prop} {h : Heap} {fv : Value} {C : Nat → Prop} {I : σ → Heap → Prop}
theorem Clos.up {s : σ} {h h' : Heap} (cl : Clos Try.prog fv C I g nx) (x : I s h) (f : Grow h h') : I s h' := cl.fr _ s h h' x f fun _ _ e => e
theorem map_spec (cl : Clos Try.prog fv C I g nx) : ∀ (t : Ty) (n : Nat) (_ : n ≤ 8) (_ : small n t = true) (Q : Nat → Prop) (v : Tv) (h : Heap) (s : σ), (∀ b, Q b → b < h.size ∧ ¬ C b) → (∀ b, C b → b < h.size) → TyAt Q h t v → I s h →
    CallsH Try.prog 14 #[.agg (tvs v), fv] h (fun x h' => Fr C h h' ∧ I (fins nx s (allT t)) h' ∧ ∃ v', x = .agg (tvs v') ∧ TyAt (fun b => Q b ∨ h.size ≤ b) h' (withT t (outs g nx s (allT t))) v') := by
  intro t
  refine Ty.ind (P := fun t => ∀ (n : Nat) (_ : n ≤ 8) (_ : small n t = true) (Q : Nat → Prop) (v : Tv) (h : Heap) (s : σ), (∀ b, Q b → b < h.size ∧ ¬ C b) → (∀ b, C b → b < h.size) → TyAt Q h t v → I s h →
    CallsH Try.prog 14 #[.agg (tvs v), fv] h (fun x h' => Fr C h h' ∧ I (fins nx s (allT t)) h' ∧ ∃ v', x = .agg (tvs v') ∧ TyAt (fun b => Q b ∨ h.size ≤ b) h' (withT t (outs g nx s (allT t))) v')) ?_ t
  intro k nm mu r rs az ih n hn hsm Q v h s hQ hC hv hI
  obtain ⟨m, rfl, ha4, hr6, hall⟩ := small_mk hsm
  obtain ⟨vk, vnm, vmu, vr, vrs, vaz⟩ := v
  have hv0 := hv
  obtain ⟨e1, e2, e3, e4, e5, e6, e7⟩ := tyAt_iff.1 hv
  dsimp only at e1 e2 e3 e4 e5 e6 e7
  subst e1 e2 e3 e4
  clear e7
  apply F14
  unfold L14
  refine new6 (v := ⟨vk, vnm, vmu, vr, vrs, vaz⟩) fun h1 b1 f1 z1 => newz fun h2 b2 f2 z2 => ?_
  refine ⟨false, cl.some, fun e => (by cases e), fun _ => ?_⟩
  have g2 : Grow h h2 := f1.trans f2
  have B1 := f2.blk b1 fun h => h
  have s1 : h1.size = h.size + 1 := z1
  have toC : ∀ {a b : Heap}, Grow a b → Fr C a b := fun f => f.mono fun _ _ e => e.elim
  have hI2 := cl.up hI g2
  have nC : ∀ b, h.size ≤ b → ¬ C b := fun b hb hc => by have := hC b hc; omega
  -- its own region
  refine ⟨fun h' => blk h' h.size (tvs ⟨vk, vnm, vmu, ownO g (.mk vk vnm vmu vr rs az) vr s, vrs, vaz⟩) ∧ blk h' h1.size z6 ∧ Fr C h h' ∧ I (ownS nx (.mk vk vnm vmu vr rs az) vr s) h' ∧ h2.size ≤ h'.size, ?_, ?_⟩
  · refine rd6 (Tv6.blk B1) ?_
    refine cal_of (ownB_spec (hv.grow g2)) ?_
    rintro _ h4 ⟨f4, rfl⟩
    refine ⟨_, rfl, fun e => ?_, fun e => ?_⟩
    · have B4 := f4.blk B1 fun h => h
      refine ⟨_, (Tv6.blk B4).2.2.2.1, ?_⟩
      obtain ⟨fno, caps, hf, hfn, hc⟩ := cl.call s vr h4 (cl.up hI2 f4)
      refine ⟨fno, caps, hf, hfn, cal_of hc ?_⟩
      rintro _ h5 ⟨rfl, f5, hI5⟩
      refine ⟨_, rfl, ?_⟩
      have B5 := f5.blk B4 (nC _ (Nat.le_refl _))
      rw [add_plain]
      refine sto_i B5 (by simp) ⟨?_, ?_, ?_, ?_, ?_⟩
      · have := B5.sc 3 (.int .i64 (g s vr))
        unfold ownO
        rw [if_pos e]
        exact this
      · exact (Fr.scb _ _ _ _).blk (f5.blk (f4.blk b2 fun h => h) (nC _ f1.size)) (by omega)
      · exact ((toC (g2.trans f4)).trans f5).trans' (Fr.scb _ _ _ _) fun i hi e => by omega
      · unfold ownS
        rw [if_pos e]
        exact cl.fr _ _ _ _ hI5 (Fr.scb h5 h.size (0 + 3) (.int .i64 (g s vr))) fun b hb e => by have := hC b hb; omega
      · rw [sc_size]; have := f4.size; have := f5.size; omega
    · unfold ownO ownS
      rw [if_neg (by rw [e]; simp), if_neg (by rw [e]; simp)]
      exact ⟨f4.blk B1 fun h => h, f4.blk b2 fun h => h, toC (g2.trans f4), cl.up hI2 f4, f4.size⟩
  rintro h7 ⟨B7, b7, F7, I7, S7⟩
  generalize hRR : ownO g (.mk vk vnm vmu vr rs az) vr s = R at *
  generalize hs1 : ownS nx (.mk vk vnm vmu vr rs az) vr s = σ1 at *
  have qb : ∀ b, Q b → b < h.size := fun b hb => (hQ b hb).1
  -- its own regions
  refine ⟨fun h' => ∃ rs', blk h' h.size (tvs ⟨vk, vnm, vmu, R, rs', vaz⟩) ∧ blk h' h1.size z6 ∧ Fr C h h' ∧ I (regS nx vk rs σ1) h' ∧ h2.size ≤ h'.size ∧
    IntsC (fun b => (Q b ∨ h2.size ≤ b) ∧ b < h'.size) h' rs' (regO g nx vk rs σ1), ?_, ?_⟩
  · refine ⟨_, (Tv6.blk B7).1, ?_⟩
    refine ifb_iff (q := vk = 5) (by simp) (fun h5 => ?_) (fun h5 => ?_)
    rotate_left
    · unfold regO regS
      rw [if_neg h5, if_neg h5]
      exact ⟨vrs, B7, b7, F7, I7, S7, (e5.fr F7 fun b hb hc => (hQ b hb).2 hc).weak fun b hb hl => ⟨.inl hb, hl⟩⟩
    unfold regO regS
    rw [if_pos h5, if_pos h5]
    refine ⟨_, (Tv6.blk B7).2.2.2.2.1, ?_⟩
    have i7 := (e5.fr F7 fun b hb hc => (hQ b hb).2 hc).ints
    refine cal_of (cloneI_spec i7 (by omega)) ?_
    rintro _ h8 ⟨f8, sq, rfl, o8⟩
    refine ⟨sq, rfl, ?_⟩
    have B8 := f8.blk B7 fun h => h
    have b8 := f8.blk b7 fun h => h
    have s8 := f8.size
    rw [add_plain]
    refine sto_i B8 (by simp) ?_
    have B9 : blk (sc h8 ⟨h.size, 0 + 4, none⟩ (.slice sq.a sq.n sq.c)) h.size (tvs ⟨vk, vnm, vmu, R, sq, vaz⟩) := B8.sc 4 (.slice sq.a sq.n sq.c)
    have f9 : Fr (fun b => b = h.size) h8 (sc h8 ⟨h.size, 0 + 4, none⟩ (.slice sq.a sq.n sq.c)) := Fr.scb _ _ _ _
    have s9 : (sc h8 ⟨h.size, 0 + 4, none⟩ (.slice sq.a sq.n sq.c)).size = h8.size := sc_size _ _ _
    generalize sc h8 ⟨h.size, 0 + 4, none⟩ (.slice sq.a sq.n sq.c) = h9 at *
    have o9 := o8.frame f9 fun b hb e => by have := (o8.ge hb).1; omega
    refine ⟨_, (Tv6.blk B9).2.2.2.2.1, ?_⟩
    have hsn : sq.n = rs.length := by have := o9.len; simp [ints] at this; omega
    dsimp only
    rw [hsn]
    refine ⟨fun x h' => ∃ j : Nat, x = j ∧ j ≤ rs.length ∧ Own h' h7.size 1 sq (ints (outs g nx σ1 (rs.take j) ++ rs.drop j)) ∧ I (fins nx σ1 (rs.take j)) h' ∧ blk h' h.size (tvs ⟨vk, vnm, vmu, R, sq, vaz⟩) ∧ blk h' h1.size z6 ∧ Fr C h h' ∧ h2.size ≤ h'.size, fun x _ => rs.length - x.toNat,
      ⟨0, rfl, Nat.zero_le _, by simpa [outs] using o9, ?_, B9, f9.blk b8 (by omega), ?_, by omega⟩, ?_⟩
    · exact cl.fr _ _ _ _ (cl.up I7 f8) f9 fun b hb e => by have := hC b hb; omega
    · exact (F7.trans (toC f8)).trans' f9 fun i hi e => by omega
    rintro _ h10 ⟨j, rfl, hj, o10, I10, B10, b10, F10, S10⟩
    refine ifb_iff (q := j < rs.length) (by simp) (fun hl => ?_) (fun hl => ?_)
    rotate_left
    · have hje : j = rs.length := by omega
      subst hje
      rw [List.take_length, List.drop_length, List.append_nil] at o10
      rw [List.take_length] at I10
      exact ⟨sq, B10, b10, F10, I10, S10, IntsQ.of (own_ints o10) fun b hb hlt => ⟨.inr (by have := (o10.ge hb).1; omega), hlt⟩, own_cap o10⟩
    have hlo : (outs g nx σ1 (rs.take j)).length = j := by rw [outs_len, List.length_take]; omega
    have hget : j < (outs g nx σ1 (rs.take j) ++ rs.drop j).length := by rw [List.length_append, hlo, List.length_drop]; omega
    have hval : (outs g nx σ1 (rs.take j) ++ rs.drop j)[j] = rs[j] := by
      rw [List.getElem_append_right (by omega)]
      simp [hlo]
    have q10 := (own_ints o10).at_ j hget
    obtain ⟨p, ea, c10⟩ := q10
    rw [hval] at c10
    refine ⟨p, ea, by omega, by rw [hsn]; omega, _, by rw [Int.toNat_natCast]; exact c10, ?_⟩
    refine ⟨fun h' => blk h' h.size (tvs ⟨vk, vnm, vmu, R, sq, vaz⟩), B10, sq, fun h' hs => (Tv6.blk hs).2.2.2.2.1, ?_⟩
    obtain ⟨fno, caps, hf, hfn, hc⟩ := cl.call (fins nx σ1 (rs.take j)) rs[j] h10 I10
    refine ⟨fno, caps, hf, hfn, cal_of hc ?_⟩
    rintro _ h11 ⟨rfl, f11, hI11⟩
    have B11 := f11.blk B10 (nC _ (Nat.le_refl _))
    refine ⟨_, rfl, B11, p, ea, by omega, by rw [hsn]; omega, ?_⟩
    have o11 := o10.frame f11 fun b hb e => nC b (by have := (o10.ge hb).1; omega) e
    rw [Int.toNat_natCast]
    refine own_sto o11 (by omega) rfl ea fun h12 o12 f12 => ?_
    rw [ints_set _ j hget] at o12
    have hown : ∀ b, sq.own b → h7.size ≤ b := fun b hb => (o11.ge hb).1
    rw [wrap_succ hl (by omega)]
    refine ⟨⟨j + 1, rfl, hl, ?_, ?_, f12.blk B11 fun e => by have := hown _ e; omega, f12.blk (f11.blk b10 (nC _ f1.size)) fun e => by have := hown _ e; omega, (F10.trans f11).trans' f12 fun i hi e => by have := hown _ e; omega, ?_⟩, by simp; omega⟩
    · have : (outs g nx σ1 (rs.take j) ++ rs.drop j).set j (g (fins nx σ1 (rs.take j)) rs[j]) = outs g nx σ1 (rs.take (j + 1)) ++ rs.drop (j + 1) := by
        rw [List.take_succ_eq_append_getElem hl, outs_app, List.drop_eq_getElem_cons hl, List.set_append_right _ _ (by omega), hlo, Nat.sub_self, List.set_cons_zero]
        simp [outs]
      rw [← this]; exact o12
    · rw [List.take_succ_eq_append_getElem hl, fins_app]
      exact cl.fr _ _ _ _ hI11 f12 fun b hb e => by have := hown b e; have := hC b hb; omega
    · have := f11.size; have := f12.size; omega
  rintro h13 ⟨rs', B13, b13, F13, I13, S13, i13⟩
  generalize hs2 : regS nx vk rs σ1 = σ2 at *
  generalize hRS : regO g nx vk rs σ1 = RS at *
  -- its parts
  refine ⟨_, (Tv6.blk B13).2.2.2.2.2, ?_⟩
  have hv13 : TyAt Q h13 (.mk vk vnm vmu vr rs az) ⟨vk, vnm, vmu, vr, vrs, vaz⟩ := hv0.fr F13 fun b hb hc => (hQ b hb).2 hc
  obtain ⟨us, hul, hrow, hus⟩ := args_row hv13
  dsimp only at hrow
  refine cal_of (cloneT_spec (s := vaz) (us := us) (by rw [e6, hul]) hrow (by omega)) ?_
  rintro _ h14 ⟨f14, sq, rfl, o14⟩
  refine ⟨sq, rfl, ?_⟩
  have B14 := f14.blk B13 fun h => h
  have b14 := f14.blk b13 fun h => h
  have s14 := f14.size
  rw [add_plain]
  refine sto_i B14 (by simp) ?_
  have B15 : blk (sc h14 ⟨h.size, 0 + 5, none⟩ (.slice sq.a sq.n sq.c)) h.size (tvs ⟨vk, vnm, vmu, R, rs', sq⟩) := B14.sc 5 (.slice sq.a sq.n sq.c)
  have f15 : Fr (fun b => b = h.size) h14 (sc h14 ⟨h.size, 0 + 5, none⟩ (.slice sq.a sq.n sq.c)) := Fr.scb _ _ _ _
  have s15 : (sc h14 ⟨h.size, 0 + 5, none⟩ (.slice sq.a sq.n sq.c)).size = h14.size := sc_size _ _ _
  generalize sc h14 ⟨h.size, 0 + 5, none⟩ (.slice sq.a sq.n sq.c) = h15 at *
  have o15 := o14.frame f15 fun b hb e => by have := (o14.ge hb).1; omega
  refine ⟨_, (Tv6.blk B15).2.2.2.2.2, ?_⟩
  have hsn : sq.n = az.length := by have := o15.len; rw [c6_len] at this; omega
  have hown : ∀ b, sq.own b → h13.size ≤ b ∧ b < h14.size := fun b hb => o14.ge hb
  dsimp only
  rw [hsn]
  -- where parts' cells are
  let QE : Nat → Prop := fun b => (Q b ∨ h2.size ≤ b) ∧ ¬ sq.own b
  have qe : ∀ b, QE b → b ≠ h.size ∧ b ≠ h1.size ∧ ¬ C b ∧ ¬ sq.own b := fun b hb => by
    refine ⟨?_, ?_, ?_, hb.2⟩
    · rcases hb.1 with e | e
      · have := qb b e; omega
      · omega
    · rcases hb.1 with e | e
      · have := qb b e; omega
      · omega
    · rcases hb.1 with e | e
      · exact (hQ b e).2
      · exact nC b (by omega)
  refine ⟨fun x h' => ∃ (j : Nat) (ws : List Tv), x = j ∧ j ≤ az.length ∧ ws.length = az.length ∧ Own h' h13.size 6 sq (c6 ws) ∧ I (fins nx σ2 ((az.take j).flatMap allT)) h' ∧ blk h' h.size (tvs ⟨vk, vnm, vmu, R, rs', sq⟩) ∧ blk h' h1.size z6 ∧ Fr C h h' ∧ h14.size ≤ h'.size ∧
      IntsC (fun b => (Q b ∨ h2.size ≤ b) ∧ b < h13.size) h' rs' RS ∧
      ∀ i (h1 : i < ws.length) (h2 : i < az.length), TyAt QE h' (if i < j then withT az[i] (outs g nx (fins nx σ2 ((az.take i).flatMap allT)) (allT az[i])) else az[i]) ws[i], fun x _ => az.length - x.toNat,
    ⟨0, us, rfl, Nat.zero_le _, hul, o15, ?_, B15, f15.blk b14 (by omega), ?_, by omega, ?_, ?_⟩, ?_⟩
  · exact cl.fr _ _ _ _ (cl.up I13 f14) f15 fun b hb e => by have := hC b hb; omega
  · exact (F13.trans (toC f14)).trans' f15 fun i hi e => by omega
  · refine ((i13.fr f14 fun _ _ h => h).fr f15 fun b hb e => ?_)
    rcases hb.1 with q | q
    · have := qb b q; omega
    · omega
  · intro i q1 q2
    rw [if_neg (Nat.not_lt_zero _)]
    refine (((hus i q1 q2).fr f14 fun _ _ h => h).fr f15 fun b hb e => by have := qb b hb; omega).weak fun b hb _ => ⟨.inl hb, fun e => by have := hown b e; have := qb b hb; have := F13.size; omega⟩
  rintro _ h16 ⟨j, ws, rfl, hj, hwl, o16, I16, B16, b16, F16, S16, i16, hws⟩
  refine ifb_iff (q := j < az.length) (by simp) (fun hl => ?_) (fun hl => ?_)
  · have hjw : j < ws.length := by omega
    obtain ⟨p, ea, -, T⟩ := own6 o16 hjw
    refine ⟨p, ea, by omega, by rw [hsn]; omega, rd6 (by rw [Int.toNat_natCast]; exact T) ?_⟩
    refine newz fun h17 b17 f17 z17 => sto6 (v := ws[j]) b17 rfl fun h18 b18 f18 => ?_
    have f1618 : Grow h16 h18 := f17.trans' f18 fun i hi e => by omega
    have s1618 := f1618.size
    have tj := hws j hjw hl
    rw [if_neg (Nat.lt_irrefl _)] at tj
    have B18 := f1618.blk B16 fun h => h
    refine ⟨fun h' => blk h' h.size (tvs ⟨vk, vnm, vmu, R, rs', sq⟩), B18, rd6 (Tv6.blk b18) ⟨sq, fun h' hs => (Tv6.blk hs).2.2.2.2.2, ?_⟩⟩
    refine cal_of (ih _ (List.getElem_mem hl) m (by omega) (hall _ (List.getElem_mem hl)) (fun b => QE b ∧ b < h18.size) ws[j] h18 _ (fun b hb => ⟨hb.2, (qe b hb.1).2.2.1⟩) (fun b hb => by have := hC b hb; have := F16.size; omega) ((tj.grow f1618).weak fun b hb hl => ⟨hb, hl⟩) (cl.up I16 f1618)) ?_
    rintro _ h19 ⟨f19, I19, v', rfl, t19⟩
    have B19 := f19.blk B18 (nC _ (Nat.le_refl _))
    refine ⟨_, _, _, _, _, _, rfl, B19, p, ea, by omega, by rw [hsn]; omega, ?_⟩
    have o19 := (o16.frame f1618 fun _ _ h => h).frame f19 fun b hb e => nC b (by have := hown b hb; have := F13.size; omega) e
    rw [Int.toNat_natCast]
    refine own_stoA o19 (by omega) (vs := (tvs v').toList) rfl (one_c6 v') ea fun h20 o20 f20 => ?_
    rw [c6_set ws j hjw] at o20
    have s19 := f19.size
    have s20 := f20.size
    have sF13 := F13.size
    rw [wrap_succ hl (by omega)]
    have all20 : ∀ {b}, ¬ C b → ¬ sq.own b → ∀ cs, blk h16 b cs → blk h20 b cs := fun hc ho cs k => f20.blk (f19.blk (f1618.blk k fun h => h) hc) ho
    refine ⟨⟨j + 1, ws.set j v', rfl, hl, by simp [hwl], o20, ?_, all20 (nC _ (Nat.le_refl _)) (fun e => by have := hown _ e; omega) _ B16, all20 (nC _ f1.size) (fun e => by have := hown _ e; omega) _ b16, ?_, by omega, ?_, ?_⟩, by simp; omega⟩
    · rw [List.take_succ_eq_append_getElem hl, List.flatMap_append, fins_app]
      simp only [List.flatMap_cons, List.flatMap_nil, List.append_nil]
      exact cl.fr _ _ _ _ I19 f20 fun b hb e => by have := hown b e; have := hC b hb; omega
    · exact ((F16.trans (toC f1618)).trans f19).trans' f20 fun i hi e => by have := hown i e; omega
    · refine ((i16.fr f1618 fun _ _ h => h).fr f19 fun b hb e => ?_).fr f20 fun b hb e => by have := hown b e; omega
      rcases hb.1 with q | q
      · exact (hQ b q).2 e
      · exact nC b (by omega) e
    · intro i q1 q2
      rw [List.length_set] at q1
      by_cases hij : i = j
      · subst hij
        rw [if_pos (Nat.lt_succ_self _)]
        simp only [List.getElem_set_self]
        have x0 := t19.weak (Q' := QE) fun b hb hlt => by
          rcases hb with hb | hb
          · exact hb.1
          · exact ⟨.inr (by omega), fun e => by have := hown b e; omega⟩
        exact x0.fr f20 fun b hb => (qe b hb).2.2.2
      · rw [List.getElem_set_ne (fun e => hij e.symm)]
        have e2 : (i < j + 1) = (i < j) := by
          apply propext; omega
        simp only [e2]
        exact (((hws i q1 q2).grow f1618).fr f19 fun b hb => (qe b hb).2.2.1).fr f20 fun b hb => (qe b hb).2.2.2
  · have hje : j = az.length := by omega
    subst hje
    refine rd6 (Tv6.blk B16) ?_
    refine sto6 (v := ⟨vk, vnm, vmu, R, rs', sq⟩) b16 rfl fun h21 b21 f21 => ?_
    have sF := F16.size
    refine rd6 (Tv6.blk b21) ⟨F16.trans' f21 fun i hi e => by omega, ?_, _, rfl, ?_⟩
    · rw [allT_mk, fins_app, own_fin, hs1, hs2, List.take_length] at *
      exact cl.fr _ _ _ _ I16 f21 fun b hb e => by have := hC b hb; omega
    · have htree := map_tree (g := g) (nx := nx) vk vnm vmu vr rs az s (bz := (List.range az.length).map fun i => if hh : i < az.length then withT az[i] (outs g nx (fins nx σ2 ((az.take i).flatMap allT)) (allT az[i])) else .mk 0 ⟨#[]⟩ false 0 [] []) (by simp) (fun i q1 q2 => by simp [q2, hs1, hs2])
      rw [htree, hs1, hRS]
      refine tyAt_iff.2 ⟨rfl, rfl, rfl, hRR.symm, ?_, ?_, fun i hi => ?_⟩
      · refine (i16.fr f21 fun b hb e => ?_).weak fun b hb _ => hb.1.imp id fun q => by omega
        rcases hb.1 with q | q
        · have := qb b q; omega
        · omega
      · simp [hsn]
      · have hi' : i < az.length := by simpa using hi
        obtain ⟨p, q1, q2, q3⟩ := own6 o16 (i := i) (by omega)
        have hpb := hown p.block q2
        refine ⟨p, ws[i], q1, .inr (by omega), q3.fr f21 (by rw [add_block]; omega), ?_⟩
        have t0 := hws i (by omega) hi'
        rw [if_pos hi'] at t0
        simp only [List.getElem_map, List.getElem_range, hi', dite_true]
        exact (t0.fr f21 fun b hb e => (qe b hb).2.1 e).weak fun b hb _ => hb.1.imp id fun q => by omega
end
end
end Go.Proofs.Ytohlfkomjmjheaa

/-
  TypesInsts, TypesTwice walked.
-/
import Derived.Test.YtohlfkomjmjheaaC2
import Derived.Test.YtohlfkomjmjheaaTyO
namespace Go.Proofs.Ytohlfkomjmjheaa
open Go Go.Lf
set_option linter.unusedVariables false

theorem small_up : ∀ (n : Nat) (t : Ty), small n t = true → small (n + 1) t = true := by
  intro n
  induction n with
  | zero => intro t h; cases t; cases h
  | succ n ih =>
    intro t h
    obtain ⟨k, nm, mu, r, rs, az⟩ := t
    have h' : (decide (az.length ≤ 4) && decide (rs.length ≤ 6) && decide (nm.size ≤ 60) && az.all (small n)) = true := h
    show (decide (az.length ≤ 4) && decide (rs.length ≤ 6) && decide (nm.size ≤ 60) && az.all (small (n + 1))) = true
    simp only [Bool.and_eq_true, List.all_eq_true] at h' ⊢
    exact ⟨h'.1, fun a ha => ih a (h'.2 a ha)⟩
theorem small_ups (n m : Nat) (t : Ty) (h : small n t = true) : small (n + m) t = true := by
  induction m with
  | zero => exact h
  | succ m ih => exact small_up _ _ ih
theorem pick_mem {nms : List ByteArray} {bs : List Ty} {nm : ByteArray} {a : Ty} (h : pickT nms bs nm = some a) : a ∈ bs := by
  unfold pickT at h
  cases hi : nmIdx nms nm with
  | none => rw [hi] at h; cases h
  | some i => rw [hi] at h; exact List.mem_of_getElem? h
theorem small_inst {g : Int → Int} {nms : List ByteArray} {bs : List Ty} {m : Nat} (hb : ∀ a ∈ bs, small m a = true) : ∀ (n : Nat) (t : Ty), small n t = true → small (n + m) (instT g (pickT nms bs) t) = true := by
  intro n
  induction n with
  | zero => intro t h; cases t; cases h
  | succ n ih =>
    intro t h
    obtain ⟨k, nm, mu, r, rs, az⟩ := t
    have h' : (decide (az.length ≤ 4) && decide (rs.length ≤ 6) && decide (nm.size ≤ 60) && az.all (small n)) = true := h
    simp only [Bool.and_eq_true, List.all_eq_true] at h'
    have hgo : ∀ r' rs', rs'.length = rs.length → small (n + 1 + m) (.mk k nm mu r' rs' (az.map (instT g (pickT nms bs)))) = true := by
      intro r' rs' hl
      rw [show n + 1 + m = (n + m) + 1 by omega]
      show (decide ((az.map _).length ≤ 4) && decide (rs'.length ≤ 6) && decide (nm.size ≤ 60) && (az.map _).all (small (n + m))) = true
      simp only [Bool.and_eq_true, List.all_eq_true, List.length_map, hl]
      refine ⟨h'.1, fun a ha => ?_⟩
      obtain ⟨c, hc, rfl⟩ := List.mem_map.1 ha
      exact ih c (h'.2 c hc)
    rw [instT_mk]
    by_cases h9 : k = 9
    · rw [if_pos h9]
      cases hp : pickT nms bs nm with
      | none => exact hgo r rs rfl
      | some a =>
        have := small_ups m (n + 1) a (hb a (pick_mem hp))
        rw [Nat.add_comm] at this
        exact this
    · rw [if_neg h9]
      refine hgo _ _ ?_
      split
      · simp
      · rfl
theorem lifeF_nil : lifeF [] = fun r => r := by
  funext r
  unfold lifeF
  rw [if_neg]
  intro h
  have := h.2
  simp at this
  omega
theorem inst_nil (t : Ty) : instT (lifeF []) (pickT [] []) t = t := by
  refine Ty.ind (P := fun t => instT (lifeF []) (pickT [] []) t = t) ?_ t
  intro k nm mu r rs az ih
  have haz : az.map (instT (lifeF []) (pickT [] [])) = az := by
    conv => rhs; rw [← List.map_id az]
    exact List.map_congr_left fun a ha => ih a ha
  rw [instT_mk, haz, lifeF_nil]
  simp [pickT, nmIdx]
theorem inst_twice (a b : List Int) (ha : ∀ x ∈ a, 1 ≤ x ∧ x ≤ b.length) (t : Ty) : (∀ r ∈ allT t, 1 ≤ r ∧ r ≤ a.length) →
    instT (lifeF b) (pickT [] []) (instT (lifeF a) (pickT [] []) t) = instT (lifeF (a.map fun x => b.getD (x - 1).toNat 0)) (pickT [] []) t := by
  refine Ty.ind (P := fun t => (∀ r ∈ allT t, 1 ≤ r ∧ r ≤ a.length) → instT (lifeF b) (pickT [] []) (instT (lifeF a) (pickT [] []) t) = instT (lifeF (a.map fun x => b.getD (x - 1).toNat 0)) (pickT [] []) t) ?_ t
  intro k nm mu r rs az ih hr
  rw [allT_mk] at hr
  have hone : ∀ r : Int, 1 ≤ r ∧ r ≤ a.length → lifeF b (lifeF a r) = lifeF (a.map fun x => b.getD (x - 1).toNat 0) r := by
    intro r ⟨h1, h2⟩
    have hi : (r - 1).toNat < a.length := by omega
    have e1 : lifeF a r = a[(r - 1).toNat] := by
      unfold lifeF
      rw [if_pos ⟨h1, h2⟩, List.getD_eq_getElem?_getD, List.getElem?_eq_getElem hi]; rfl
    rw [e1]
    have h3 := ha _ (List.getElem_mem hi)
    unfold lifeF
    rw [if_pos h3, if_pos ⟨h1, by rw [List.length_map]; exact h2⟩, List.getD_eq_getElem?_getD (l := List.map _ a), List.getElem?_map, List.getElem?_eq_getElem hi]
    rfl
  have hmap : (az.map (instT (lifeF a) (pickT [] []))).map (instT (lifeF b) (pickT [] [])) = az.map (instT (lifeF (a.map fun x => b.getD (x - 1).toNat 0)) (pickT [] [])) := by
    rw [List.map_map]
    exact List.map_congr_left fun c hc => ih c hc fun r h => hr r (List.mem_append.2 (.inr (List.mem_flatMap.2 ⟨c, hc, h⟩)))
  have hno : ∀ nm, pickT [] [] nm = none := fun nm => by simp [pickT, nmIdx]
  rw [instT_mk, instT_mk]
  by_cases h9 : k = 9
  · rw [if_pos h9, if_pos h9, hno]
    simp only [Option.getD_none]
    rw [instT_mk, if_pos h9, hno, hmap]
    rfl
  · rw [if_neg h9, if_neg h9, instT_mk, if_neg h9, hmap]
    have hh : ∀ r' rs' az', hasOwn (.mk k nm mu r' rs' az') = hasOwn (.mk k nm mu r rs az) := fun _ _ _ => rfl
    rw [hh]
    congr 1
    · by_cases ho : hasOwn (.mk k nm mu r rs az) = true
      · simp only [if_pos ho]
        exact hone r (hr r (List.mem_append.2 (.inl (by rw [ownL_has, if_pos ho]; simp))))
      · simp only [if_neg ho]
    · by_cases h5 : k = 5
      · simp only [if_pos h5]
        rw [List.map_map]
        exact List.map_congr_left fun c hc => hone c (hr c (List.mem_append.2 (.inl (by rw [ownL_has, if_pos h5]; simp [hc]))))
      · simp only [if_neg h5]
theorem tnil_at (Q : Nat → Prop) (h : Heap) : TyAt Q h (tNil []) ⟨0, ⟨#[]⟩, false, 0, ⟨none, 0, 0⟩, ⟨none, 0, 0⟩⟩ := by
  unfold tNil
  refine tyAt_iff.2 ⟨rfl, rfl, rfl, rfl, IntsC.nil _ _, rfl, ?_⟩
  intro j hj
  exact absurd hj (Nat.not_lt_zero _)
theorem env_nil (Q : Nat → Prop) (h : Heap) {l : Sv} {ls : List Int} (hl : IntsQ Q h l ls) (hb : ls.length ≤ 1000000) : EnvAt Q h l ⟨none, 0, 0⟩ ⟨none, 0, 0⟩ ls [] [] where
  ints := hl
  nlen := rfl
  nat := by intro i hi; exact absurd hi (Nat.not_lt_zero _)
  args := tnil_at Q h
  small := by
    refine ⟨?_, hb, ?_⟩ <;> simp
theorem insts_walk (v : Tv) (t : Ty) (l : Sv) (ls : List Int) (ar : Sv) (bs : List Ty) (h : Heap) (hv : TyAt (fun b => b < h.size) h t v) (hl : IntsAt h l ls) (har : TyAt (fun b => b < h.size) h (tNil bs) ⟨0, ⟨#[]⟩, false, 0, ⟨none, 0, 0⟩, ar⟩) :
    CallsH Try.prog 5 #[.agg (tvs v), .slice l.a l.n l.c, .slice ar.a ar.n ar.c] h (fun x h' => x = .bool true ∧ Grow h h') := by
  apply F5
  unfold L5
  refine new6 (v := v) fun h1 b1 f1 z1 => ?_
  refine typed_small hv f1 b1 fun h3 f3 => ?_
  have g3 := f1.trans f3
  have B3 := f3.blk b1 fun h => h
  have han : ar.n = bs.length := (tyAt_iff.1 har).2.2.2.2.2.1
  refine ⟨fun e => ?_, fun e => ?_⟩
  · refine cal_of (typed_spec h3) ?_
    rintro _ h7 ⟨f7, rfl⟩
    exact ⟨_, rfl, rfl, g3.trans f7⟩
  simp only [Bool.or_eq_false_iff, Bool.not_eq_false', decide_eq_false_iff_not] at e
  obtain ⟨⟨hs, hl10⟩, ha4⟩ := e
  have hll := hl.len
  rintro s28 h6 rfl rfl
  have f6 : Grow h3 (h3.push (.cells #[.string (⟨#[84]⟩ : ByteArray), .string (⟨#[85]⟩ : ByteArray), .string (⟨#[86]⟩ : ByteArray), .string (⟨#[84]⟩ : ByteArray)] 9)) := Fr.push _ _ _
  have k6 := blk.new h3 #[.string (⟨#[84]⟩ : ByteArray), .string (⟨#[85]⟩ : ByteArray), .string (⟨#[86]⟩ : ByteArray), .string (⟨#[84]⟩ : ByteArray)] 9
  have z6' : (h3.push (.cells #[.string (⟨#[84]⟩ : ByteArray), .string (⟨#[85]⟩ : ByteArray), .string (⟨#[86]⟩ : ByteArray), .string (⟨#[84]⟩ : ByteArray)] 9)).size = h3.size + 1 := by simp
  generalize h3.push (.cells #[.string (⟨#[84]⟩ : ByteArray), .string (⟨#[85]⟩ : ByteArray), .string (⟨#[86]⟩ : ByteArray), .string (⟨#[84]⟩ : ByteArray)] 9) = h6 at *
  have g6 := g3.trans f6
  refine ⟨fun i h' => ∃ j : Nat, i = j ∧ j ≤ bs.length ∧ Grow h6 h' ∧ ∀ q (hq : q < bs.length), q < j → small 4 bs[q] = true, fun i _ => bs.length - i.toNat, ⟨0, rfl, Nat.zero_le _, Fr.refl _ _, fun q _ e => absurd e (Nat.not_lt_zero _)⟩, ?_⟩
  rintro _ h7 ⟨j, rfl, hj, f7, hall⟩
  have g7 := g6.trans f7
  rw [han]
  refine ifb_iff (q := j < bs.length) (by simp) (fun hl => ?_) (fun hl' => ?_)
  · refine args_get (v := ⟨0, ⟨#[]⟩, false, 0, ⟨none, 0, 0⟩, ar⟩) (har.grow g7) hl fun u hu => ?_
    refine cal_of (small_spec 4 (by omega) bs[j] u h7 hu) ?_
    rintro _ h8 ⟨f8, rfl⟩
    refine ⟨_, rfl, fun e => ⟨rfl, g7.trans f8⟩, fun e => ?_⟩
    rw [wrap_succ hl (by omega)]
    refine ⟨⟨j + 1, rfl, hl, f7.trans f8, fun q hq hqj => ?_⟩, by simp; omega⟩
    rcases Nat.lt_or_ge q j with h1 | h1
    · exact hall q hq h1
    · obtain rfl : q = j := by omega
      simpa using e
  have hje : j = bs.length := by omega
  subst hje
  have hsb : ∀ a ∈ bs, small 4 a = true := fun a ha => by
    obtain ⟨q, hq, rfl⟩ := List.mem_iff_getElem.1 ha
    exact hall q hq hq
  have s7 := f7.size
  have s3 := g3.size
  have env : EnvAt (fun b => b < h7.size) h7 l ⟨some ⟨h3.size, 0, none⟩, 4, 4⟩ ar ls [⟨#[84]⟩, ⟨#[85]⟩, ⟨#[86]⟩, ⟨#[84]⟩] bs := by
    refine ⟨IntsQ.of (hl.keep g7 fun _ _ h => h) fun b _ hb => hb, rfl, fun i hi => ?_, (har.grow g7).weak fun b _ hb => hb, by simp, by omega, by omega⟩
    refine ⟨_, rfl, by dsimp only; omega, ?_⟩
    rw [add_plain, (f7.blk k6 fun h => h).cl]
    match i, hi with
    | 0, _ => rfl
    | 1, _ => rfl
    | 2, _ => rfl
    | 3, _ => rfl
  have B7 := (f6.trans f7).blk B3 fun h => h
  have hv7 : TyAt (fun b => b < h7.size) h7 t v := (hv.grow g7).weak fun b _ hb => hb
  have hsi := small_inst (g := lifeF ls) (nms := [⟨#[84]⟩, ⟨#[85]⟩, ⟨#[86]⟩, ⟨#[84]⟩]) hsb 6 t hs
  refine rd6 (Tv6.blk B7) ?_
  have X := instP_spec t 6 (by omega) hs (fun b => b < h7.size) v h7 (fun b hb => hb) hv7 env
  rw [← han]
  refine cal_of X ?_
  rintro _ h9 ⟨f9, u, rfl, tu⟩
  refine ⟨_, _, _, _, _, _, rfl, ?_⟩
  refine newz fun h10 b10 f10 z10 => sto6 (v := u) b10 rfl fun h11 b11 f11 => ?_
  have p911 : Grow h9 h11 := f10.trans' f11 fun i hi e => by omega
  have B11 := (f9.trans p911).blk B7 fun h => h
  refine ⟨fun h' => Grow h11 h', Fr.refl _ _, rd6 (Tv6.blk b11) (hd6 (fun h' hs => Tv6.blk (hs.blk B11 fun h => h)) ?_)⟩
  refine cal_of (textR_spec _ 10 (by omega) hsi u h11 (tu.grow p911)) ?_
  rintro _ h12 ⟨f12, rfl⟩
  refine ⟨_, rfl, f12, ?_⟩
  have g12 := f9.trans (p911.trans f12)
  have s12 := g12.size
  have Y := instR_spec t 6 (by omega) hs (fun b => b < h7.size) v h12 (fun b hb => Nat.lt_of_lt_of_le hb s12) (hv7.grow g12) (env.grow g12)
  refine cal_of Y ?_
  rintro _ h13 ⟨f13, w, rfl, tw⟩
  refine ⟨_, _, _, _, _, _, rfl, ?_⟩
  refine cal_of (textR_spec _ 10 (by omega) hsi w h13 tw) ?_
  rintro _ h14 ⟨f14, rfl⟩
  exact ⟨_, rfl, by simp, g7.trans (g12.trans (f13.trans f14))⟩
theorem ints_nil (Q : Nat → Prop) (h : Heap) : IntsQ Q h ⟨none, 0, 0⟩ [] := (IntsC.nil Q h).toIntsQ
theorem small_i6 {g : Int → Int} {t : Ty} (h : small 6 t = true) : small 6 (instT g (pickT [] []) t) = true := small_inst (m := 0) (fun a ha => by cases ha) 6 t h
theorem twice_walk (v : Tv) (t : Ty) (a : Sv) (aa : List Int) (b : Sv) (bs : List Int) (h : Heap) (hv : TyAt (fun b => b < h.size) h t v) (ha : IntsAt h a aa) (hb : IntsAt h b bs) :
    CallsH Try.prog 6 #[.agg (tvs v), .slice a.a a.n a.c, .slice b.a b.n b.c] h (fun x h' => x = .bool true ∧ Grow h h') := by
  apply F6
  unfold L6
  refine new6 (v := v) fun h1 b1 f1 z1 => ?_
  refine typed_small hv f1 b1 fun h3 f3 => ?_
  have g3 := f1.trans f3
  have B3 := f3.blk b1 fun h => h
  have hal := ha.len
  have hbl := hb.len
  refine ⟨fun e => ?_, fun e => ?_⟩
  · refine cal_of (typed_spec h3) ?_
    rintro _ h7 ⟨f7, rfl⟩
    exact ⟨_, rfl, rfl, g3.trans f7⟩
  simp only [Bool.or_eq_false_iff, Bool.not_eq_false', decide_eq_false_iff_not] at e
  obtain ⟨⟨hs, ha10⟩, hb10⟩ := e
  refine rd6 (Tv6.blk B3) ?_
  refine cal_of (all_spec t 6 (by omega) hs v h3 (hv.grow g3)) ?_
  rintro _ h6 ⟨f6, s6, rfl, o6⟩
  refine ⟨s6, rfl, ?_⟩
  have i6 := own_ints o6
  have hn6 := i6.len
  have hbig := allT_big (n := 6) (by omega) hs
  generalize hA : allT t = al at i6 hn6 hbig
  have g6 := g3.trans f6
  have i6a := ha.keep g6 fun _ _ h => h
  refine ⟨fun i => ∃ j : Nat, i = j ∧ j ≤ al.length ∧ ∀ q (hq : q < al.length), q < j → 1 ≤ al[q] ∧ al[q] ≤ aa.length, fun i => al.length - i.toNat, ⟨0, rfl, Nat.zero_le _, fun q _ h => absurd h (Nat.not_lt_zero _)⟩, ?_⟩
  rintro _ ⟨j, rfl, hj, hall⟩
  dsimp only
  refine ifb_iff (q := j < al.length) (by simp [hn6]) (fun hl => ?_) (fun hl => ?_)
  · obtain ⟨p, e, c⟩ := i6.at_ j hl
    refine ⟨p, e, by omega, by omega, _, by rw [Int.toNat_natCast]; exact c, ?_⟩
    refine ⟨fun x => x = true ↔ ¬ (1 ≤ al[j] ∧ al[j] ≤ aa.length), ⟨fun e' => ?_, fun e' => ?_⟩, ?_⟩
    · have := of_decide_eq_true e'
      show true = true ↔ _
      simp only [true_iff]
      omega
    · have := of_decide_eq_false e'
      refine ⟨p, e, by omega, by omega, _, by rw [Int.toNat_natCast]; exact c, ?_⟩
      show decide _ = true ↔ _
      rw [decide_eq_true_eq, hal]
      omega
    rintro x hx
    refine ⟨fun e' => ⟨rfl, g6⟩, fun e' => ?_⟩
    have hok : 1 ≤ al[j] ∧ al[j] ≤ aa.length := Decidable.not_not.1 fun hn => by rw [hx.2 hn] at e'; cases e'
    refine ⟨⟨j + 1, wrap_succ hl (by omega), hl, fun q hq hqj => ?_⟩, by rw [wrap_succ hl (by omega)]; simp; omega⟩
    rcases Nat.lt_or_ge q j with h1 | h1
    · exact hall q hq h1
    · obtain rfl : q = j := by omega
      exact hok
  have hje : j = al.length := by omega
  subst hje
  have hrs : ∀ r ∈ al, 1 ≤ r ∧ r ≤ aa.length := fun r hr => by
    obtain ⟨q, hq, rfl⟩ := List.mem_iff_getElem.1 hr
    exact hall q hq hq
  refine ⟨fun s i h' => ∃ j : Nat, i = j ∧ j ≤ aa.length ∧ Grow h6 h' ∧ Own h' h6.size 1 s (ints ((aa.take j).map fun x => bs.getD (x - 1).toNat 0)) ∧ ∀ q (hq : q < aa.length), q < j → 1 ≤ aa[q] ∧ aa[q] ≤ bs.length, fun _ i _ => aa.length - i.toNat, ⟨0, rfl, Nat.zero_le _, Fr.refl _ _, Own.nil _ _ _, fun q _ h => absurd h (Nat.not_lt_zero _)⟩, ?_⟩
  rintro s7 _ h7 ⟨j, rfl, hj, f7, o7, hall7⟩
  have g7 := g6.trans f7
  have hn7 : s7.n = j := by have := o7.len; simp [ints] at this; omega
  refine ifb_iff (q := j < aa.length) (by simp [hal]) (fun hl => ?_) (fun hl => ?_)
  · obtain ⟨p, e, c⟩ := (ha.keep g7 fun _ _ h => h).at_ j hl
    refine ⟨p, e, by omega, by omega, _, by rw [Int.toNat_natCast]; exact c, ?_⟩
    refine ⟨fun x => x = true ↔ ¬ (1 ≤ aa[j] ∧ aa[j] ≤ bs.length), ⟨fun e' => ?_, fun e' => ?_⟩, ?_⟩
    · have := of_decide_eq_true e'
      show true = true ↔ _
      simp only [true_iff]
      omega
    · have := of_decide_eq_false e'
      refine ⟨p, e, by omega, by omega, _, by rw [Int.toNat_natCast]; exact c, ?_⟩
      show decide _ = true ↔ _
      rw [decide_eq_true_eq, hbl]
      omega
    rintro x hx
    refine ⟨fun e' => ⟨rfl, g7⟩, fun e' => ?_⟩
    have hok : 1 ≤ aa[j] ∧ aa[j] ≤ bs.length := Decidable.not_not.1 fun hn => by rw [hx.2 hn] at e'; cases e'
    refine ⟨p, e, by omega, by omega, _, by rw [Int.toNat_natCast]; exact c, ?_⟩
    have hw : IntKind.i64.wrap (aa[j] - 1) = aa[j] - 1 := wrap64_id (by omega) (by omega)
    dsimp only
    rw [hw]
    obtain ⟨p2, e2, c2⟩ := (hb.keep g7 fun _ _ h => h).at_ (aa[j] - 1).toNat (by omega)
    refine ⟨p2, e2, by omega, by omega, _, c2, ?_⟩
    refine app1 rfl o7 rfl (by simp [Value.oneCell']) f7.size (by omega) (by omega) fun s' h' hn' o' f' _ => ?_
    rw [wrap_succ hl (by omega)]
    refine ⟨⟨j + 1, rfl, hl, f7.trans' f' fun i hi e => by have := (o7.ge e).1; omega, ?_, fun q hq hqj => ?_⟩, by simp; omega⟩
    · have hgd : bs.getD (aa[j] - 1).toNat 0 = bs[(aa[j] - 1).toNat]'(by omega) := by
        rw [List.getD_eq_getElem?_getD, List.getElem?_eq_getElem (by omega)]; rfl
      have : ints ((aa.take (j + 1)).map fun x => bs.getD (x - 1).toNat 0) = ints ((aa.take j).map fun x => bs.getD (x - 1).toNat 0) ++ #[Value.int .i64 (bs[(aa[j] - 1).toNat]'(by omega))].toList := by
        rw [List.take_succ_eq_append_getElem hl, List.map_append]
        unfold ints
        rw [List.map_append]
        rw [← hgd]
        rfl
      rw [this]; exact o'
    · rcases Nat.lt_or_ge q j with h1 | h1
      · exact hall7 q hq h1
      · obtain rfl : q = j := by omega
        exact hok
  have hje : j = aa.length := by omega
  subst hje
  rw [List.take_length] at o7
  have has : ∀ x ∈ aa, 1 ≤ x ∧ x ≤ bs.length := fun r hr => by
    obtain ⟨q, hq, rfl⟩ := List.mem_iff_getElem.1 hr
    exact hall7 q hq hq
  have B7 := (f6.trans f7).blk B3 fun h => h
  let Q : Nat → Prop := fun b => b < h7.size
  have hv7 : TyAt Q h7 t v := (hv.grow g7).weak fun b _ hb => hb
  have eN : EnvAt Q h7 ⟨none, 0, 0⟩ ⟨none, 0, 0⟩ ⟨none, 0, 0⟩ [] [] [] := env_nil Q h7 (ints_nil _ _) (by simp)
  have eA : EnvAt Q h7 a ⟨none, 0, 0⟩ ⟨none, 0, 0⟩ aa [] [] := env_nil Q h7 (IntsQ.of (ha.keep g7 fun _ _ h => h) fun b _ hb => hb) (by omega)
  have eB : EnvAt Q h7 b ⟨none, 0, 0⟩ ⟨none, 0, 0⟩ bs [] [] := env_nil Q h7 (IntsQ.of (hb.keep g7 fun _ _ h => h) fun b _ hb => hb) (by omega)
  have eC : EnvAt Q h7 s7 ⟨none, 0, 0⟩ ⟨none, 0, 0⟩ (aa.map fun x => bs.getD (x - 1).toNat 0) [] [] := env_nil Q h7 (IntsQ.of (own_ints o7) fun b _ hb => hb) (by simp; omega)
  have qle : ∀ {h' : Heap}, Grow h7 h' → ∀ b, Q b → b < h'.size := fun f b hb => Nat.lt_of_lt_of_le hb f.size
  have P : ∀ {h' : Heap}, Grow h7 h' → Tv6 h' ⟨h.size, 0, none⟩ v := fun f => Tv6.blk (f.blk B7 fun h => h)
  refine ⟨fun x h' => x = true ∧ Grow h7 h', ⟨fun h' => Grow h7 h', Fr.refl _ _, rd6 (P (Fr.refl _ _)) (hd6 (fun h' hs => P hs) ?_)⟩, ?_⟩
  rotate_left
  · rintro _ h16 ⟨rfl, f16⟩
    exact ⟨rfl, g7.trans f16⟩
  have X := instP_spec t 6 (by omega) hs Q v h7 (fun b hb => hb) hv7 eN
  refine cal_of X ?_
  rintro _ h10 ⟨f10, u, rfl, tu⟩
  rw [inst_nil] at tu
  refine ⟨_, _, _, _, _, _, rfl, f10, ?_⟩
  refine cal_of (equalR_spec t t 6 (by omega) hs hs u v h10 tu ((hv7.grow f10).weak fun b hb _ => .inl hb)) ?_
  rintro _ h11 ⟨f11, rfl⟩
  have F11 := f10.trans f11
  refine ⟨_, rfl, F11, fun _ => ?_, fun e => by rw [same_refl] at e; simp at e⟩
  refine rd6 (P F11) ⟨fun h' => Grow h11 h', fun h' H => F11.trans H, Fr.refl _ _, hd6 (fun h' hs => P (F11.trans hs)) ?_⟩
  have Y := instP_spec t 6 (by omega) hs Q v h11 (qle F11) (hv7.grow F11) (eA.grow F11)
  refine cal_of Y ?_
  rintro _ h12 ⟨f12, u2, rfl, tu2⟩
  have F12 := F11.trans f12
  refine ⟨_, _, _, _, _, _, rfl, f12, ?_⟩
  have Z := instP_spec _ 6 (by omega) (small_i6 hs) (fun b => b < h12.size) u2 h12 (fun b hb => hb) (tu2.weak fun b _ hb => hb) ((eB.grow F12).weak fun b _ hb => hb)
  refine cal_of Z ?_
  rintro _ h13 ⟨f13, u3, rfl, tu3⟩
  have F13 := F12.trans f13
  refine ⟨_, _, _, _, _, _, rfl, f12.trans f13, ?_⟩
  have W := instP_spec t 6 (by omega) hs Q v h13 (qle F13) (hv7.grow F13) (eC.grow F13)
  refine cal_of W ?_
  rintro _ h14 ⟨f14, u4, rfl, tu4⟩
  have F14 := F13.trans f14
  refine ⟨_, _, _, _, _, _, rfl, ?_⟩
  have htw := inst_twice aa bs has t (by rw [hA]; exact hrs)
  rw [htw] at tu3
  refine cal_of (equalR_spec _ _ 6 (by omega) (small_i6 hs) (small_i6 hs) u3 u4 h14 ((tu3.grow f14).weak (Q' := fun b => b < h14.size) fun b _ hb => hb) (tu4.weak fun b _ hb => hb)) ?_
  rintro _ h15 ⟨f15, rfl⟩
  exact ⟨_, rfl, by rw [same_refl]; simp, F14.trans f15⟩
end Go.Proofs.Ytohlfkomjmjheaa

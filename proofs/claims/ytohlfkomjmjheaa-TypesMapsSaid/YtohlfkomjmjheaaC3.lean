/-
  TypesMaps walked.
-/
import Derived.Test.YtohlfkomjmjheaaC2
namespace Go.Proofs.Ytohlfkomjmjheaa
open Go Go.Lf
set_option linter.unusedVariables false

def mg (by_ : Int) (s r : Int) : Int := bitsI .xor .i64 (IntKind.i64.wrap (s + 1)) by_
def mn (s _r : Int) : Int := IntKind.i64.wrap (s + 1)
def wl (by_ : Int) (n : Nat) : List Int := (List.range n).map fun (j : Nat) => bitsI .xor .i64 ((j + 1 : Nat) : Int) by_
theorem fins_mn (xs : List Int) : ∀ (k : Nat), k + xs.length ≤ 4611686018427387904 → fins mn (k : Int) xs = ((k + xs.length : Nat) : Int) := by
  induction xs with
  | nil => intro k _; rfl
  | cons x xs ih =>
    intro k h
    simp only [List.length_cons] at h ⊢
    have e : mn (k : Int) x = ((k + 1 : Nat) : Int) := wrap_succ (n := k + 1) (Nat.lt_succ_self _) (by omega)
    rw [fins, e, ih _ (by omega)]
    congr 1
    omega
theorem outs_mg (by_ : Int) (xs : List Int) : ∀ (k : Nat), k + xs.length ≤ 4611686018427387904 → outs (mg by_) mn (k : Int) xs = (List.range xs.length).map fun (j : Nat) => bitsI .xor .i64 ((k + j + 1 : Nat) : Int) by_ := by
  induction xs with
  | nil => intro k _; rfl
  | cons x xs ih =>
    intro k h
    simp only [List.length_cons] at h ⊢
    have e : mn (k : Int) x = ((k + 1 : Nat) : Int) := wrap_succ (n := k + 1) (Nat.lt_succ_self _) (by omega)
    have e2 : mg by_ (k : Int) x = bitsI .xor .i64 ((k + 1 : Nat) : Int) by_ := by
      unfold mg
      rw [wrap_succ (n := k + 1) (Nat.lt_succ_self _) (by omega)]
    rw [outs, e, e2, ih _ (by omega), List.range_succ_eq_map, List.map_cons, List.map_map]
    congr 1
    apply List.map_congr_left
    intro j _
    simp only [Function.comp_apply]
    congr 2
    omega
theorem outs_wl (by_ : Int) (xs : List Int) (h : xs.length ≤ 4611686018427387904) : outs (mg by_) mn 0 xs = wl by_ xs.length := by
  rw [show (0 : Int) = ((0 : Nat) : Int) from rfl, outs_mg by_ xs 0 (by omega)]
  unfold wl
  simp
theorem outs_zero (xs : List Int) : outs (σ := Unit) (fun _ _ => 0) (fun s _ => s) () xs = List.replicate xs.length 0 := by
  induction xs with
  | nil => rfl
  | cons x xs ih => rw [outs, ih]; rfl
theorem maps_clos (C B : Nat) (hCB : B ≠ C) (by_ : Int) : Clos Try.prog (.func (.func 15) #[] #[.pointer (some ⟨C, 0, none⟩), .pointer (some ⟨B, 0, none⟩)]) (fun b => b = C ∨ b = B) (fun (s : Int) h => blk h C #[.int .i64 s] ∧ blk h B #[.int .i64 by_]) (mg by_) mn := by
  refine ⟨rfl, fun T s h h' ⟨b1, b2⟩ f hT => ⟨f.blk b1 (hT _ (.inl rfl)), f.blk b2 (hT _ (.inr rfl))⟩, fun s r h ⟨b1, b2⟩ => ⟨_, _, rfl, ⟨Try.f15, Try.func15, by kernel_rfl, by kernel_rfl⟩, ?_⟩⟩
  apply F15
  unfold L15
  refine ldI_i (b1.cl 0) (sto_i b1 (by simp) ?_)
  have k1 := b1.sc 0 (.int .i64 (IntKind.i64.wrap (s + 1)))
  have f1 : Fr (fun b => b = C) h (sc h ⟨C, 0, none⟩ (.int .i64 (IntKind.i64.wrap (s + 1)))) := Fr.scb _ _ _ _
  have k2 := f1.blk b2 hCB
  exact ldI_i (k1.cl 0) (ldI_i (k2.cl 0) ⟨rfl, f1.mono fun _ _ e => .inl e, k1, k2⟩)
theorem maps_walk (v : Tv) (t : Ty) (by_ : Int) (h : Heap) (hv : TyAt (fun b => b < h.size) h t v) :
    CallsH Try.prog 4 #[.agg (tvs v), .int .i64 by_] h (fun x h' => x = .bool true ∧ Grow h h') := by
  apply F4
  unfold L4
  refine new6 (v := v) fun h1 b1 f1 z1 => ?_
  rintro p3 h2 rfl rfl
  have k3 := blk.new h1 #[.int .i64 by_] 3
  have f2 : Grow h1 (h1.push (.cells #[.int .i64 by_] 3)) := Fr.push _ _ _
  have z2 : (h1.push (.cells #[.int .i64 by_] 3)).size = h1.size + 1 := by simp
  generalize h1.push (.cells #[.int .i64 by_] 3) = h2 at *
  have g2 := f1.trans f2
  have B1 := f2.blk b1 fun h => h
  refine typed_small hv g2 B1 fun h4 f4 => ?_
  have g4 := g2.trans f4
  have B4 := f4.blk B1 fun h => h
  have K4 := f4.blk k3 fun h => h
  refine ⟨fun e => ?_, fun e => ?_⟩
  · refine cal_of (typed_spec h4) ?_
    rintro _ h7 ⟨f7, rfl⟩
    exact ⟨_, rfl, rfl, g4.trans f7⟩
  have hs : small 6 t = true := by simpa using e
  have hbig := allT_big (n := 6) (by omega) hs
  have hlen : (allT t).length ≤ 305830 := Nat.le_trans (allT_len 6 t hs) (bnd8 (by omega))
  refine rd6 (Tv6.blk B4) ?_
  refine cal_of (textR_spec t 6 (by omega) hs v h4 (hv.grow g4)) ?_
  rintro _ h7 ⟨f7, rfl⟩
  refine ⟨_, rfl, ?_⟩
  rintro p6 h8 rfl rfl
  have k6 := blk.new h7 #[.int .i64 0] 3
  have f8 : Grow h7 (h7.push (.cells #[.int .i64 0] 3)) := Fr.push _ _ _
  have z8 : (h7.push (.cells #[.int .i64 0] 3)).size = h7.size + 1 := by simp
  generalize h7.push (.cells #[.int .i64 0] 3) = h8 at *
  have g8 := f4.trans (f7.trans f8)
  have s8 := g8.size
  have s7 := f7.size
  have s4 := f4.size
  refine sto_i k6 (by simp) ?_
  have k9 := k6.sc 0 (.int .i64 0)
  have f9 : Fr (fun b => b = h7.size) h8 (sc h8 ⟨h7.size, 0, none⟩ (.int .i64 0)) := Fr.scb _ _ _ _
  have z9 : (sc h8 ⟨h7.size, 0, none⟩ (.int .i64 0)).size = h8.size := sc_size _ _ _
  generalize sc h8 ⟨h7.size, 0, none⟩ (.int .i64 0) = h9 at *
  have B9 := f9.blk (g8.blk B1 fun h => h) (by omega)
  have K9 := f9.blk (g8.blk k3 fun h => h) (by omega)
  have g9 : Grow h h9 := (g2.trans g8).trans' f9 fun i hi e => by have := g2.size; omega
  have cl := maps_clos h7.size h1.size (by omega) by_
  refine rd6 (Tv6.blk B9) ?_
  refine cal_of (map_spec cl t 6 (by omega) hs (fun b => b < h.size) v h9 0 (fun b hb => ⟨by omega, by omega⟩) (fun b hb => by omega) (hv.grow g9) ⟨k9, K9⟩) ?_
  rintro _ h10 ⟨f10, I10, u, rfl, tu⟩
  rw [outs_wl by_ (allT t) hbig] at tu
  rw [show (0 : Int) = ((0 : Nat) : Int) from rfl, fins_mn _ 0 (by omega), Nat.zero_add] at I10
  have s10 := f10.size
  have g10 : Grow h h10 := g9.trans' f10 fun i hi e => by omega
  have B10 := f10.blk B9 (by omega)
  refine ⟨_, _, _, _, _, _, rfl, ?_⟩
  refine newz fun h11 b11 f11 z11 => sto6 (v := u) b11 rfl fun h12 b12 f12 => ?_
  have s12 := f12.size
  have F12 : Fr (fun b => b = h10.size) h10 h12 := (f11.mono fun _ _ e => e.elim).trans f12
  have f1012 : Grow h10 h12 := F12.mono fun i hi e => by omega
  have g12 : Grow h h12 := g10.trans f1012
  have B12 := f1012.blk B10 fun h => h
  have I12 := cl.up I10 f1012
  have tu12 := (tu.weak (Q' := fun b => b < h10.size) fun b _ hl => hl).grow f1012
  refine rd6 (Tv6.blk B12) ?_
  refine cal_of (all_spec t 6 (by omega) hs v h12 (hv.grow g12)) ?_
  rintro _ h13 ⟨f13, s13, rfl, o13⟩
  have hn13 : s13.n = (allT t).length := by have := o13.len; simp [ints] at this; omega
  refine ⟨s13, rfl, ?_⟩
  dsimp only
  rw [hn13]
  generalize hN : (allT t).length = N at *
  refine ⟨fun want nulls i h' => ∃ j : Nat, i = j ∧ j ≤ N ∧ Own h' h13.size 1 want (ints (wl by_ j)) ∧ Own h' h13.size 1 nulls (ints (List.replicate j 0)) ∧ (∀ b, want.own b → ¬ nulls.own b) ∧ Grow h13 h', fun _ _ i _ => N - i.toNat,
    ⟨0, rfl, Nat.zero_le _, Own.nil _ _ _, Own.nil _ _ _, fun b ⟨a, ea, _⟩ => (by cases ea), Fr.refl _ _⟩, ?_⟩
  rintro want nulls _ h14 ⟨j, rfl, hj, ow, on_, dis, f14⟩
  have hwn : want.n = j := by have := ow.len; simp [ints, wl] at this; omega
  have hnn : nulls.n = j := by have := on_.len; simp [ints] at this; omega
  have I14 := cl.up I12 (f13.trans f14)
  refine ifb_iff (q := j < N) (by simp) (fun hl => ?_) (fun hl => ?_)
  · refine ldI_i (I14.2.cl 0) ?_
    refine app1 rfl ow rfl (by simp [Value.oneCell']) f14.size (by omega) (by omega) fun w' h16 e16 ow' f16 own16 => ?_
    have on16 := on_.frame f16 fun b hb hw => dis b hw hb
    refine app1 rfl on16 rfl (by simp [Value.oneCell']) (Nat.le_trans f14.size f16.size) (by omega) (by omega) fun n' h18 e18 on' f18 own18 => ?_
    have hd16 : ∀ b, w'.own b → ¬ nulls.own b := fun b hb hn => by
      rcases own16 b hb with e | e
      · exact dis b e hn
      · have := (on_.ge hn).2; omega
    have ow18 := ow'.frame f18 hd16
    rw [wrap_succ hl (by omega)]
    refine ⟨⟨j + 1, rfl, hl, ?_, ?_, fun b hb hn => ?_, ?_⟩, by simp; omega⟩
    · have e : ints (wl by_ (j + 1)) = ints (wl by_ j) ++ #[Value.int .i64 (bitsI .xor .i64 ((j + 1 : Nat) : Int) by_)].toList := by
        unfold wl ints
        rw [List.range_succ]
        simp
      rw [e]; rw [wrap_succ hl (by omega)] at ow18; exact ow18
    · have e : ints (List.replicate (j + 1) 0) = ints (List.replicate j 0) ++ #[Value.int .i64 0].toList := by
        rw [List.replicate_succ']
        unfold ints
        simp
      rw [e]; exact on'
    · rcases own18 b hn with e | e
      · exact hd16 b hb e
      · have := (ow'.ge hb).2; omega
    · exact (f14.trans' f16 fun i hi e => by have := (ow.ge e).1; omega).trans' f18 fun i hi e => by have := (on16.ge e).1; omega
  have hje : j = N := by omega
  subst hje
  have g14 := g12.trans (f13.trans f14)
  have G14 := f13.trans f14
  have P2 : ∀ {h' : Heap}, Grow h14 h' → Tv6 h' ⟨h.size, 0, none⟩ v := fun f => Tv6.blk ((G14.trans f).blk B12 fun h => h)
  have P9 : ∀ {h' : Heap}, Grow h14 h' → Tv6 h' ⟨h10.size, 0, none⟩ u := fun f => Tv6.blk ((G14.trans f).blk b12 fun h => h)
  have V : ∀ {h' : Heap}, Grow h14 h' → TyAt (fun b => b < h.size) h' t v := fun f => hv.grow (g14.trans f)
  have U : ∀ {h' : Heap}, Grow h14 h' → TyAt (fun b => b < h10.size) h' (withT t (wl by_ (allT t).length)) u := fun f => by rw [hN]; exact tu12.grow (G14.trans f)
  have hwl : (allT t).length ≤ (wl by_ (allT t).length).length := by simp [wl]
  have hsu := small_wT 6 t (wl by_ (allT t).length) hs
  have R0 := Fr.refl (fun _ => False) h14
  refine ⟨fun x h' => x = true ∧ Grow h14 h', ⟨fun h' => Grow h14 h', R0, ?_⟩, ?_⟩
  rotate_left
  · rintro _ h30 ⟨rfl, f30⟩
    exact ⟨rfl, g14.trans f30⟩
  refine ldI_i (I14.1.cl 0) ⟨fun _ => ?_, fun e => by simp at e⟩
  refine rd6 (P9 R0) (rd6 (P2 R0) ?_)
  refine cal_of (sameR_spec _ t 6 (by omega) hsu u v h14 (U R0) ((V R0).weak fun b hb _ => by have := g10.size; omega)) ?_
  rintro _ h19 ⟨f19, rfl⟩
  refine ⟨_, rfl, f19, fun _ => ?_, fun e => by rw [same_wT' t _ hwl] at e; cases e⟩
  refine rd6 (P9 f19) ?_
  refine cal_of (all_spec _ 6 (by omega) hsu u h19 (U f19)) ?_
  rintro _ h20 ⟨f20, s20, rfl, o20⟩
  have F20 := f19.trans f20
  refine ⟨s20, rfl, F20, ?_⟩
  rw [allT_wT t _ hwl, List.take_of_length_le (by simp [wl])] at o20
  refine cal_of (Ints_spec (own_ints o20) (own_ints (ow.frame F20 fun _ _ h => h)) (by simp [wl]; omega)) ?_
  rintro _ _ ⟨rfl, rfl⟩
  refine ⟨_, rfl, F20, fun _ => ?_, fun e => by rw [hN] at e; simp at e⟩
  refine rd6 (P2 F20) ?_
  refine cal_of (textR_spec t 6 (by omega) hs v h20 (V F20)) ?_
  rintro _ h22 ⟨f22, rfl⟩
  have F22 := F20.trans f22
  refine ⟨_, rfl, F22, fun _ => ?_, fun e => by simp at e⟩
  refine rd6 (P2 F22) ?_
  refine cal_of (erase_spec (n := 6) (by omega) hs (fun b hb => by have := (g14.trans F22).size; omega) (V F22)) ?_
  rintro _ h23 ⟨f23, w, rfl, tw⟩
  have F23 := F22.trans f23
  refine ⟨_, _, _, _, _, _, rfl, F23, ?_⟩
  have hse : small 6 (eraT t) = true := small_wT 6 t _ hs
  refine cal_of (all_spec _ 6 (by omega) hse w h23 tw) ?_
  rintro _ h24 ⟨f24, s24, rfl, o24⟩
  have F24 := F23.trans f24
  refine ⟨s24, rfl, F24, ?_⟩
  have hae : allT (eraT t) = List.replicate j 0 := by
    unfold eraT
    rw [allT_wT t _ (by rw [outs_len]; exact Nat.le_refl _), outs_zero, List.take_of_length_le (by simp), hN]
  rw [hae] at o24
  refine cal_of (Ints_spec (own_ints o24) (own_ints (on_.frame F24 fun _ _ h => h)) (by simp; omega)) ?_
  rintro _ _ ⟨rfl, rfl⟩
  refine ⟨_, rfl, F24, fun _ => ?_, fun e => by simp at e⟩
  refine rd6 (P2 F24) ⟨fun h' => Grow h24 h', fun h' H => F24.trans H, Fr.refl _ _, hd6 (fun h' hs => P2 (F24.trans hs)) ?_⟩
  refine cal_of (erase_spec (n := 6) (by omega) hs (fun b hb => by have := (g14.trans F24).size; omega) (V F24)) ?_
  rintro _ h26 ⟨f26, w2, rfl, tw2⟩
  refine ⟨_, _, _, _, _, _, rfl, f26, ?_⟩
  have F26 := F24.trans f26
  refine cal_of (sameR_spec _ t 6 (by omega) hse w2 v h26 tw2 ((V F26).weak fun b hb _ => .inl hb)) ?_
  rintro _ h27 ⟨f27, rfl⟩
  have F27 := F26.trans f27
  have hst : same (eraT t) t = true := same_wT' t _ (by rw [outs_len]; exact Nat.le_refl _)
  refine ⟨_, rfl, f26.trans f27, fun _ => ?_, fun e => by rw [hst] at e; cases e⟩
  refine rd6 (P2 F27) ⟨fun h' => Grow h27 h', fun h' H => (f26.trans f27).trans H, Fr.refl _ _, hd6 (fun h' hs => P2 (F27.trans hs)) ?_⟩
  refine cal_of (map_nil_spec (V F27)) ?_
  rintro _ h28 ⟨f28, rfl⟩
  refine ⟨_, _, _, _, _, _, rfl, f28, ?_⟩
  have F28 := F27.trans f28
  refine cal_of (equalR_spec t t 6 (by omega) hs hs v v h28 (V F28) (V F28)) ?_
  rintro _ h29 ⟨f29, rfl⟩
  exact ⟨_, rfl, by rw [same_refl]; simp, F28.trans f29⟩
end Go.Proofs.Ytohlfkomjmjheaa

/-
  Regions put in; what two such types ask for, place by place.
-/
import Derived.Test.YtkgckfcekokieaaS6
namespace Go.Proofs.Ytkgckfcekokieaa
open Go Go.Lf

def rg (ls : List Int) (i : Nat) : Int := if 0 < ls.length then IntKind.i64.wrap ((IntKind.u64.wrap ((ls[i % ls.length]?).getD 0)).tmod 8) else 0
def rgs (ls : List Int) (n : Nat) : List Int := (List.range n).map (rg ls)
theorem rgs_succ (ls : List Int) (n : Nat) : rgs ls (n + 1) = rgs ls n ++ [rg ls n] := by unfold rgs; rw [List.range_succ]; simp
theorem rgs_len (ls : List Int) (n : Nat) : (rgs ls n).length = n := by simp [rgs]
theorem own_cap {h : Heap} {B sz : Nat} {s : Sv} {xs : List Value} (o : Own h B sz s xs) : s.n ≤ s.c := by
  rcases o.mem with ⟨_, e1, e2⟩ | ⟨g, cur, _, _, _, e, _⟩ <;> omega
section
variable {Q : Nat → Prop} {h : Heap}
theorem regions_spec (t : Ty) (n : Nat) (hn : n ≤ 8) (hsm : small n t = true) (Q : Nat → Prop) (v : Tv) (h : Heap) (l : Sv) (ls : List Int) (hQ : ∀ b, Q b → b < h.size) (hv : TyAt Q h t v) (hl : IntsAt h l ls) :
    CallsH Try.prog 11 #[.agg (tvs v), .slice l.a l.n l.c] h (fun x h' => Grow h h' ∧ ∃ v', x = .agg (tvs v') ∧ TyAt (fun b => Q b ∨ h.size ≤ b) h' (withT t (rgs ls (allT t).length)) v') := by
  apply F11
  unfold L11
  have hal := allT_len n t hsm
  have hb := bnd8 hn
  refine new6 (v := v) fun h1 b1 f1 z1 => newz fun h2 b2 f2 z2 => ?_
  have g2 := f1.trans f2
  have B1 := f2.blk b1 (fun h => h)
  refine rd6 (Tv6.blk B1) ?_
  refine cal_of (all_spec t n hn hsm v h2 (hv.grow g2)) ?_
  rintro _ h3 ⟨f3, s12, rfl, o12⟩
  have hn12 : s12.n = (allT t).length := by have := o12.len; simp [ints] at this; omega
  refine ⟨s12, rfl, ?_⟩
  have g3 := g2.trans f3
  refine ⟨fun all i h' => ∃ j : Nat, i = j ∧ j ≤ (allT t).length ∧ Grow h3 h' ∧ Own h' h3.size 1 all (ints (rgs ls j)), fun _ i _ => (allT t).length - i.toNat, ⟨0, rfl, Nat.zero_le _, Fr.refl _ _, Own.nil _ _ _⟩, ?_⟩
  rintro all _ h4 ⟨j, rfl, hj, f4, o4⟩
  dsimp only
  rw [hn12]
  have g4 := g3.trans f4
  have hn4 : all.n = j := by have := o4.len; simp [ints, rgs_len] at this; omega
  refine ifb_iff (q := j < (allT t).length) (by simp) (fun hlt => ?_) (fun hge => ?_)
  · refine ⟨fun r h' => r = rg ls j ∧ h' = h4, ?_, ?_⟩
    · rw [hl.len]
      refine ifb_iff (q := 0 < ls.length) (by simp) (fun hp => ?_) (fun hp => ⟨by unfold rg; rw [if_neg hp], rfl⟩)
      have hm : (j : Int).tmod (ls.length : Int) = ((j % ls.length : Nat) : Int) := by rw [Int.tmod_eq_emod_of_nonneg (by omega)]; rfl
      have hml : j % ls.length < ls.length := Nat.mod_lt _ hp
      rw [hm]
      refine ⟨by omega, (hl.keep g4 (fun _ _ h => h)).get hml ⟨?_, rfl⟩⟩
      unfold rg
      rw [if_pos hp, List.getElem?_eq_getElem hml]
      rfl
    · rintro _ _ ⟨rfl, rfl⟩
      refine app1 rfl o4 rfl (by simp [Value.oneCell']) f4.size (by omega) (by omega) fun s' h7 e1 o' f' hown => ?_
      rw [wrap_succ hlt (by omega)]
      refine ⟨⟨j + 1, rfl, hlt, f4.trans' f' fun i hi e => by have := (o4.ge e).1; omega, ?_⟩, by simp; omega⟩
      rw [rgs_succ]
      simpa [ints] using o'
  · have hje : j = (allT t).length := by omega
    have B4 := (f3.trans f4).blk B1 (fun h => h)
    refine rd6 (Tv6.blk B4) ?_
    have i4 : IntsQ (fun b => b < h4.size) h4 all (rgs ls j) := IntsQ.of (own_ints o4) fun b _ hb => hb
    refine cal_of (with_spec t n hn hsm Q (fun b => b < h4.size) v h4 all (rgs ls j) (fun b hb => by have := hQ b hb; have := g4.size; omega) (fun _ h => h) (hv.grow g4) i4 (own_cap o4) (by rw [rgs_len]; omega)) ?_
    rintro _ h8 ⟨f8, v', l', rfl, t8, _, _⟩
    refine ⟨_, rfl, _, rfl, _, _, _, _, _, _, rfl, _, rfl, l', rfl, ?_⟩
    refine newz fun h9 b9 f9 z9 => ?_
    refine sto6 (v := v') b9 rfl fun h10 b10 f10 => ?_
    refine rd6 (Tv6.blk b10) ?_
    have p10 : Grow h8 h10 := f9.trans' f10 fun i hi e => by omega
    have C2 := (f3.trans (f4.trans (f8.trans p10))).blk b2 (fun h => h)
    refine sto6 (v := v') C2 rfl fun h11 b11 f11 => ?_
    refine rd6 (Tv6.blk b11) ?_
    have g8 := g4.trans f8
    have g10 := g8.trans p10
    refine ⟨g10.trans' f11 fun i hi e => by have := f1.size; omega, v', rfl, ?_⟩
    have s4 := (f2.trans (f3.trans f4)).size
    have s3 := (f3.trans f4).size
    rw [hje] at t8
    refine ((t8.grow p10).fr f11 fun b hb e => ?_).weak fun b hb _ => hb.imp id fun e => by have := g4.size; omega
    rcases hb with hb | hb
    · have := hQ b hb; have := f1.size; omega
    · omega
end

/-! ### place by place -/
def zipL : List Int → List Int → List Int → List (Int × Int)
  | w :: ws, x :: xs, y :: ys => lifeL x y w ++ zipL ws xs ys
  | _, _, _ => []
theorem zipL_app : ∀ (ws ws' xs ys : List Int), ws.length ≤ xs.length → ws.length ≤ ys.length → zipL (ws ++ ws') xs ys = zipL ws xs ys ++ zipL ws' (xs.drop ws.length) (ys.drop ws.length)
  | [], ws', xs, ys, _, _ => by simp [zipL]
  | w :: ws, ws', [], ys, h, _ => by simp at h
  | w :: ws, ws', x :: xs, [], _, h => by simp at h
  | w :: ws, ws', x :: xs, y :: ys, h1, h2 => by
    simp only [List.cons_append, zipL, List.length_cons, List.drop_succ_cons]
    rw [zipL_app ws ws' xs ys (by simpa using h1) (by simpa using h2), List.append_assoc]
def argsW (W : Ty → Int → List Int) (f : Nat → Int) : Nat → List Ty → List Int
  | _, [] => []
  | i, a :: az => W a (f i) ++ argsW W f (i + 1) az
noncomputable def waysT (of : ByteArray → Nat → Int) : Ty → Int → List Int :=
  Ty.rec (motive_1 := fun _ => Int → List Int) (motive_2 := fun _ => (Nat → Int) → Nat → List Int)
    (fun k nm mu _ rs _ ih w => (if 7 ≤ k ∧ k ≤ 9 then [if k = 9 then 0 else w] else if k = 5 then (List.range rs.length).map (fun i => thr w (of nm i)) else []) ++
      ih (fun i => if k = 5 then thr w (of nm (rs.length + i)) else if k = 7 ∧ mu = true then thr w 3 else w) 0)
    (fun _ _ => []) (fun _ _ ih1 ih2 f i => ih1 (f i) ++ ih2 f (i + 1))
theorem waysT_rec (of : ByteArray → Nat → Int) (az : List Ty) (f : Nat → Int) (i : Nat) : (Ty.rec_1 (motive_1 := fun _ => Int → List Int) (motive_2 := fun _ => (Nat → Int) → Nat → List Int)
    (fun k nm mu _ rs _ ih w => (if 7 ≤ k ∧ k ≤ 9 then [if k = 9 then 0 else w] else if k = 5 then (List.range rs.length).map (fun i => thr w (of nm i)) else []) ++
      ih (fun i => if k = 5 then thr w (of nm (rs.length + i)) else if k = 7 ∧ mu = true then thr w 3 else w) 0)
    (fun _ _ => []) (fun _ _ ih1 ih2 f i => ih1 (f i) ++ ih2 f (i + 1)) az : (Nat → Int) → Nat → List Int) f i = argsW (waysT of) f i az := by
  induction az generalizing i with
  | nil => rfl
  | cons a az ih => rw [argsW, ← ih (i + 1)]; rfl
theorem waysT_mk (of : ByteArray → Nat → Int) (k : Int) (nm : ByteArray) (mu : Bool) (r : Int) (rs : List Int) (az : List Ty) (w : Int) :
    waysT of (.mk k nm mu r rs az) w = (if 7 ≤ k ∧ k ≤ 9 then [if k = 9 then 0 else w] else if k = 5 then (List.range rs.length).map (fun i => thr w (of nm i)) else []) ++
      argsW (waysT of) (fun i => if k = 5 then thr w (of nm (rs.length + i)) else if k = 7 ∧ mu = true then thr w 3 else w) 0 az := by
  rw [← waysT_rec]; rfl
theorem ownW_len (of : ByteArray → Nat → Int) (k : Int) (nm : ByteArray) (mu : Bool) (r : Int) (rs : List Int) (az : List Ty) (w : Int) :
    (if 7 ≤ k ∧ k ≤ 9 then [if k = 9 then (0 : Int) else w] else if k = 5 then (List.range rs.length).map (fun i => thr w (of nm i)) else []).length = (ownL (.mk k nm mu r rs az)).length := by
  rw [ownL_mk]
  split
  · rfl
  · split
    · simp
    · rfl
theorem waysT_len (of : ByteArray → Nat → Int) (t : Ty) : ∀ w, (waysT of t w).length = (allT t).length := by
  refine Ty.ind (P := fun t => ∀ w, (waysT of t w).length = (allT t).length) ?_ t
  intro k nm mu r rs az ih w
  rw [waysT_mk, allT_mk, List.length_append, List.length_append, ownW_len of k nm mu r rs az w]
  congr 1
  have : ∀ (f : Nat → Int) (i : Nat) (bz : List Ty), (∀ b ∈ bz, b ∈ az) → (argsW (waysT of) f i bz).length = (bz.flatMap allT).length := by
    intro f i bz
    induction bz generalizing i with
    | nil => intro _; rfl
    | cons b bz ihb =>
      intro hb
      simp only [argsW, List.flatMap_cons, List.length_append]
      rw [ihb (i + 1) fun x hx => hb x (by simp [hx]), ih b (hb b (by simp))]
  exact this _ _ _ fun b h => h
theorem regs_zip (g : Nat → Int) : ∀ (n i : Nat) (xs ys : List Int), n ≤ xs.length → n ≤ ys.length → regsL g i (xs.take n) (ys.take n) = zipL ((List.range n).map fun j => g (i + j)) xs ys
  | 0, i, xs, ys, _, _ => by simp [regsL, zipL]
  | n + 1, i, [], ys, h, _ => by simp at h
  | n + 1, i, x :: xs, [], _, h => by simp at h
  | n + 1, i, x :: xs, y :: ys, h1, h2 => by
    have := regs_zip g n (i + 1) xs ys (by simpa using h1) (by simpa using h2)
    simp only [List.take_succ_cons, regsL, List.range_succ_eq_map, List.map_cons, List.map_map, zipL]
    rw [this, Nat.add_zero]
    congr 2
    refine List.map_congr_left fun j _ => ?_
    show g (i + 1 + j) = g (i + (j + 1))
    congr 1
    omega
theorem life0 (x y : Int) : lifeL x y 0 = [] := by
  unfold lifeL
  have h1 : (bitsI .and .i64 0 1 != 0) = false := by decide
  have h2 : (bitsI .and .i64 0 2 != 0) = false := by decide
  rw [h1, h2]; rfl
theorem see_with (of : ByteArray → Nat → Int) (t : Ty) : ∀ (w : Int) (xs ys : List Int), (allT t).length ≤ xs.length → (allT t).length ≤ ys.length → seeL of (withT t xs) w (withT t ys) = zipL (waysT of t w) xs ys := by
  refine Ty.ind (P := fun t => ∀ (w : Int) (xs ys : List Int), (allT t).length ≤ xs.length → (allT t).length ≤ ys.length → seeL of (withT t xs) w (withT t ys) = zipL (waysT of t w) xs ys) ?_ t
  intro k nm mu r rs az ih w xs ys hx hy
  rw [allT_mk, List.length_append] at hx hy
  have hW := ownW_len of k nm mu r rs az w
  rw [withT_mk, withT_mk, seeL_mk, waysT_mk, zipL_app _ _ _ _ (by omega) (by omega), hW]
  generalize ho : (ownL (.mk k nm mu r rs az)).length = o at hx hy
  have hargs : ∀ (f : Nat → Int) (i : Nat) (bz : List Ty) (xs ys : List Int), (∀ b ∈ bz, b ∈ az) → (bz.flatMap allT).length ≤ xs.length → (bz.flatMap allT).length ≤ ys.length → seeA (seeL of) f i (withA withT allT bz xs) (withA withT allT bz ys) = zipL (argsW (waysT of) f i bz) xs ys := by
    intro f i bz
    induction bz generalizing i with
    | nil => intro xs ys _ _ _; simp [withA, seeA, argsW, zipL]
    | cons b bz ihb =>
      intro xs ys hb h1 h2
      rw [List.flatMap_cons, List.length_append] at h1 h2
      simp only [withA, seeA, argsW]
      rw [zipL_app _ _ _ _ (by rw [waysT_len]; omega) (by rw [waysT_len]; omega), waysT_len, ih b (hb b (by simp)) _ _ _ (by omega) (by omega), ihb (i + 1) _ _ (fun x hx => hb x (by simp [hx])) (by rw [List.length_drop]; omega) (by rw [List.length_drop]; omega)]
  have hx' : (az.flatMap allT).length ≤ (xs.drop o).length := by rw [List.length_drop]; omega
  have hy' : (az.flatMap allT).length ≤ (ys.drop o).length := by rw [List.length_drop]; omega
  have hown := ownL_mk k nm mu r rs az
  by_cases h5 : k = 5
  · have h79 : ¬ (7 ≤ k ∧ k ≤ 9) := by omega
    rw [if_neg h79, if_pos h5] at hown
    have hor : o = rs.length := by rw [← ho, hown]
    rw [if_pos h5, if_pos h5, if_pos h5, if_neg h79, if_pos h5]
    have hl : (xs.take o).length = rs.length := by simp; omega
    rw [regs_zip _ o 0 xs ys (by omega) (by omega), hl, hargs _ _ az _ _ (fun _ h => h) hx' hy', hor]
    congr 1
    · congr 1
      refine List.map_congr_left fun j _ => ?_
      rw [Nat.zero_add]
    · congr 1
      congr 1
      funext i
      rw [if_pos h5]
  · rw [if_neg h5, if_neg h5, if_neg h5, if_neg h5]
    have e2 : (fun i => if k = 5 then thr w (of nm (rs.length + i)) else if k = 7 ∧ mu = true then thr w 3 else w) = fun _ : Nat => if k = 7 ∧ mu = true then thr w 3 else w := by
      funext i; rw [if_neg h5]
    rw [e2, hargs _ _ az _ _ (fun _ h => h) hx' hy']
    congr 1
    by_cases h79 : 7 ≤ k ∧ k ≤ 9
    · rw [if_pos h79] at hown ⊢
      have ho1 : o = 1 := by rw [← ho, hown]; rfl
      rw [if_pos ho1, if_pos ho1]
      cases xs with
      | nil => simp at hx; omega
      | cons x xs =>
        cases ys with
        | nil => simp at hy; omega
        | cons y ys =>
          simp only [zipL, List.append_nil, List.getD_cons_zero]
          by_cases h9 : k = 9
          · rw [if_pos h9, life0, if_neg (by omega)]
          · rw [if_neg h9, if_pos (by omega)]
    · rw [if_neg h79]
      rw [if_neg (by omega)]
      rfl
theorem small_with : ∀ (n : Nat) (t : Ty) (xs : List Int), small n t = true → small n (withT t xs) = true := by
  intro n
  induction n with
  | zero => intro t xs h; cases t; cases h
  | succ n ih =>
    intro t xs h
    have h0 := ownL_len h
    obtain ⟨k, nm, mu, r, rs, az⟩ := t
    have h' : (decide (az.length ≤ 4) && decide (rs.length ≤ 6) && decide (nm.size ≤ 60) && az.all (small n)) = true := h
    rw [withT_mk]
    show (decide ((withA withT allT az _).length ≤ 4) && decide ((if k = 5 then xs.take (ownL (.mk k nm mu r rs az)).length else rs).length ≤ 6) && decide (nm.size ≤ 60) && (withA withT allT az _).all (small n)) = true
    simp only [Bool.and_eq_true, decide_eq_true_eq] at h' ⊢
    refine ⟨⟨⟨by rw [withA_len]; exact h'.1.1.1, ?_⟩, h'.1.2⟩, ?_⟩
    · split
      · rw [List.length_take]; omega
      · exact h'.1.1.2
    · have hall := h'.2
      have : ∀ (bz : List Ty) (ys : List Int), bz.all (small n) = true → (withA withT allT bz ys).all (small n) = true := by
        intro bz
        induction bz with
        | nil => intro ys _; rfl
        | cons b bz ihb =>
          intro ys hb
          simp only [withA, List.all_cons, Bool.and_eq_true] at hb ⊢
          exact ⟨ih b _ hb.1, ihb _ hb.2⟩
      exact this _ _ hall
theorem same_with (t : Ty) : ∀ (xs ys : List Int), (allT t).length ≤ xs.length → (allT t).length ≤ ys.length → same (withT t xs) (withT t ys) = true := by
  refine Ty.ind (P := fun t => ∀ (xs ys : List Int), (allT t).length ≤ xs.length → (allT t).length ≤ ys.length → same (withT t xs) (withT t ys) = true) ?_ t
  intro k nm mu r rs az ih xs ys hx hy
  rw [allT_mk, List.length_append] at hx hy
  rw [withT_mk, withT_mk, same_mk]
  have hargs : ∀ (bz : List Ty) (xs ys : List Int), (∀ b ∈ bz, b ∈ az) → (bz.flatMap allT).length ≤ xs.length → (bz.flatMap allT).length ≤ ys.length → sameA same (withA withT allT bz xs) (withA withT allT bz ys) = true := by
    intro bz
    induction bz with
    | nil => intro xs ys _ _ _; rfl
    | cons b bz ihb =>
      intro xs ys hb h1 h2
      rw [List.flatMap_cons, List.length_append] at h1 h2
      simp only [withA, sameA, Bool.and_eq_true]
      exact ⟨ih b (hb b (by simp)) _ _ (by omega) (by omega), ihb _ _ (fun x hx => hb x (by simp [hx])) (by rw [List.length_drop]; omega) (by rw [List.length_drop]; omega)⟩
  rw [hargs az _ _ (fun _ h => h) (by rw [List.length_drop]; omega) (by rw [List.length_drop]; omega)]
  by_cases h5 : k = 5
  · rw [if_pos h5, if_pos h5, List.length_take, List.length_take, Nat.min_eq_left (by omega), Nat.min_eq_left (by omega)]
    simp
  · have : (k != 5) = true := by simpa using h5
    rw [this]
    simp
end Go.Proofs.Ytkgckfcekokieaa

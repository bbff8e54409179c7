/-
  VARIANCE IS RIGHT, in plain words: what fields ask for is among what the struct asks for.
-/
import Derived.Test.YteaidgpiolakcaaW2
import Derived.Test.YteaidgpiolakcaaI3
import Derived.Test.YteaidgpiolakcaaP5
namespace Go.Proofs.Yteaidgpiolakcaa
open Go Go.Lf
set_option linter.unusedVariables false

/-! ### regions put in (cut of ty/TyL) -/
theorem ownL_has (k : Int) (nm : ByteArray) (mu : Bool) (r : Int) (rs : List Int) (az : List Ty) : ownL (.mk k nm mu r rs az) = (if inst.hasOwn (.mk k nm mu r rs az) = true then [r] else []) ++ (if k = 5 then rs else []) := by
  rw [ownL_mk]
  unfold inst.hasOwn
  by_cases h79 : 7 ≤ k ∧ k ≤ 9
  · rw [if_pos h79, if_neg (by omega : ¬ k = 5)]
    have : (k == 7 || k == 8 || k == 9) = true := by simp; omega
    rw [if_pos this]; rfl
  · rw [if_neg h79]
    have : ¬ ((k == 7 || k == 8 || k == 9) = true) := by simp; omega
    rw [if_neg this]; rfl
/-- all regions, as the program tells them -/
theorem small_wT : ∀ (n : Nat) (t : Ty) (xs : List Int), small n t = true → small n (withT t xs) = true := by
  intro n
  induction n with
  | zero => intro t xs h; cases t; cases h
  | succ n ih =>
    intro t xs h
    have h0 := ownL_len h
    obtain ⟨k, nm, mu, r, rs, az⟩ := t
    have h' : (decide (az.length ≤ 4) && decide (rs.length ≤ 6) && decide (nm.size ≤ 60) && az.all (small n)) = true := h
    rw [withT_mk]
    show (decide ((withA withT allT az _).length ≤ 4) && decide ((if k = 5 then xs.take (ownL (.mk k nm mu r rs az)).length else rs).length ≤ 6) && decide (nm.size ≤ 60) && (withA withT allT az _).all (small n)) = true
    simp only [Bool.and_eq_true, decide_eq_true_eq] at h' ⊢
    refine ⟨⟨⟨by rw [withA_len]; exact h'.1.1.1, ?_⟩, h'.1.2⟩, ?_⟩
    · split
      · rw [List.length_take]; omega
      · exact h'.1.1.2
    · have hall := h'.2
      have : ∀ (bz : List Ty) (ys : List Int), bz.all (small n) = true → (withA withT allT bz ys).all (small n) = true := by
        intro bz
        induction bz with
        | nil => intro ys _; rfl
        | cons b bz ihb =>
          intro ys hb
          simp only [withA, List.all_cons, Bool.and_eq_true] at hb ⊢
          exact ⟨ih b _ hb.1, ihb _ hb.2⟩
      exact this _ _ hall
/-- the regions put in are the regions there -/
theorem allT_wT (t : Ty) : ∀ (xs : List Int), (allT t).length ≤ xs.length → allT (withT t xs) = xs.take (allT t).length := by
  refine Ty.ind (P := fun t => ∀ (xs : List Int), (allT t).length ≤ xs.length → allT (withT t xs) = xs.take (allT t).length) ?_ t
  intro k nm mu r rs az ih xs hx
  rw [allT_mk, List.length_append] at hx
  rw [withT_mk, allT_mk, allT_mk, List.length_append]
  generalize ho : (ownL (.mk k nm mu r rs az)).length = o at *
  have hargs : ∀ (bz : List Ty) (xs : List Int), (∀ b ∈ bz, b ∈ az) → (bz.flatMap allT).length ≤ xs.length → (withA withT allT bz xs).flatMap allT = xs.take (bz.flatMap allT).length := by
    intro bz
    induction bz with
    | nil => intro xs _ _; simp [withA]
    | cons b bz ihb =>
      intro xs hb h1
      rw [List.flatMap_cons, List.length_append] at h1
      simp only [withA, List.flatMap_cons, List.length_append]
      rw [ih b (hb b (by simp)) _ (by omega), ihb _ (fun x hx => hb x (by simp [hx])) (by rw [List.length_drop]; omega), List.take_add]
  rw [hargs az _ (fun _ h => h) (by rw [List.length_drop]; omega), List.take_add]
  congr 1
  rw [ownL_has] at ho ⊢
  have hsame : inst.hasOwn (.mk k nm mu (if k = 5 then r else if o = 1 then xs.getD 0 r else r) (if k = 5 then xs.take o else rs) (withA withT allT az (xs.drop o))) = inst.hasOwn (.mk k nm mu r rs az) := rfl
  rw [hsame]
  by_cases h5 : k = 5
  · have hno : inst.hasOwn (.mk k nm mu r rs az) = false := by unfold inst.hasOwn; rw [h5]; rfl
    rw [hno, if_neg (by simp), if_pos h5, if_pos h5]
    rfl
  · rw [if_neg h5] at ho ⊢
    rw [if_neg h5]
    by_cases hh : inst.hasOwn (.mk k nm mu r rs az) = true
    · rw [if_pos hh] at ho ⊢
      have ho1 : o = 1 := by rw [← ho]; rfl
      rw [if_pos ho1]
      subst ho1
      cases xs with
      | nil => simp at hx
      | cons x xs => simp
    · rw [if_neg hh] at ho ⊢
      have ho0 : o = 0 := by rw [← ho]; rfl
      rw [ho0]; rfl

/-! ### lifetimes put in -/
abbrev noP : ByteArray → Option Ty := fun _ => none
theorem LEW.self' {V W : List (ByteArray × List Int)} (h : LEW V W) : LEW V V ∧ LEW W W := by
  induction h with
  | nil => exact ⟨.nil, .nil⟩
  | cons a _ ih => exact ⟨.cons a.self.1 ih.1, .cons a.self.2 ih.2⟩
theorem same_inst (f g : Int → Int) (t : Ty) : same (inst.instT f noP t) (inst.instT g noP t) = true := by
  refine Ty.ind (P := fun t => same (inst.instT f noP t) (inst.instT g noP t) = true) ?_ t
  intro k nm mu r rs az ih
  have hA : sameA same (az.map (inst.instT f noP)) (az.map (inst.instT g noP)) = true := by
    refine sameA_iff.2 ⟨by simp, fun q h1 h2 => ?_⟩
    simp only [List.getElem_map]
    exact ih _ (List.getElem_mem _)
  rw [inst.instT_mk, inst.instT_mk]
  by_cases h9 : k = 9
  · rw [if_pos h9, if_pos h9]
    simp only [noP, Option.getD_none]
    rw [same_mk, hA]; simp
  · rw [if_neg h9, if_neg h9, same_mk, hA]
    by_cases h5 : k = 5
    · rw [if_pos h5, if_pos h5]; simp
    · rw [if_neg h5, if_neg h5]; simp
theorem small_inst (f : Int → Int) : ∀ (n : Nat) (t : Ty), small n t = true → small n (inst.instT f noP t) = true := by
  intro n
  induction n with
  | zero => intro t h; cases t; cases h
  | succ n ih =>
    intro t h
    obtain ⟨k, nm, mu, r, rs, az⟩ := t
    have h' : (decide (az.length ≤ 4) && decide (rs.length ≤ 6) && decide (nm.size ≤ 60) && az.all (small n)) = true := h
    simp only [Bool.and_eq_true, List.all_eq_true] at h'
    have hall : (az.map (inst.instT f noP)).all (small n) = true := by
      rw [List.all_eq_true]
      intro a ha
      obtain ⟨b, hb, rfl⟩ := List.mem_map.1 ha
      exact ih b (h'.2 b hb)
    rw [inst.instT_mk]
    by_cases h9 : k = 9
    · rw [if_pos h9]
      show (decide ((az.map (inst.instT f noP)).length ≤ 4) && decide (rs.length ≤ 6) && decide (nm.size ≤ 60) && (az.map (inst.instT f noP)).all (small n)) = true
      rw [hall, List.length_map]; simp only [Bool.and_eq_true]; exact ⟨h'.1, trivial⟩
    · rw [if_neg h9]
      show (decide ((az.map (inst.instT f noP)).length ≤ 4) && decide ((if k = 5 then rs.map f else rs).length ≤ 6) && decide (nm.size ≤ 60) && (az.map (inst.instT f noP)).all (small n)) = true
      have hl : (if k = 5 then rs.map f else rs).length = rs.length := by split <;> simp
      rw [hall, List.length_map, hl]; simp only [Bool.and_eq_true]; exact ⟨h'.1, trivial⟩

/-! ### ways -/
theorem thr_eq (a b : Int) : pairs.thr a b = throughF a b := rfl
theorem lkL_eq (nm : ByteArray) : ∀ W, pairs.lkL nm W = lkW nm W
  | [] => rfl
  | (q, l) :: r => by unfold pairs.lkL lkW; rw [lkL_eq nm r]
theorem ofW_eq (W : List (ByteArray × List Int)) (nm : ByteArray) (i : Nat) : pairs.ofW W nm i = ofW W nm (i : Int) := by
  unfold pairs.ofW ofW
  rw [lkL_eq]
  by_cases h : i < (lkW nm W).length
  · rw [if_neg (by omega), List.getD_eq_getElem?_getD, Int.toNat_natCast]
  · rw [if_pos (by omega), List.getElem?_eq_none (by omega)]; rfl
theorem le4_pre {x v w : Int} (hx : 0 ≤ x ∧ x ≤ 3) (hv : 0 ≤ v ∧ v ≤ 3) (h : le4 (bitsI .or .i64 x v) w) : le4 v w := by
  obtain ⟨i, hi, rfl⟩ := four hx
  obtain ⟨j, hj, rfl⟩ := four hv
  obtain ⟨l, hl, rfl⟩ := four h.2.1
  have : ∀ i, i < 4 → ∀ j, j < 4 → ∀ l, l < 4 → (!(le4b (bitsI .or .i64 ((i : Nat) : Int) ((j : Nat) : Int)) ((l : Nat) : Int)) || le4b ((j : Nat) : Int) ((l : Nat) : Int)) = true := by decide
  have h2 := this i hi j hj l hl
  rw [le4_iff.2 h] at h2
  exact le4_iff.1 (by simpa using h2)
theorem life_sub {x y v w : Int} (h : le4 v w) {p : Int × Int} (hp : p ∈ pairs.lifeL x y v) : p ∈ pairs.lifeL x y w := by
  obtain ⟨i, hi, rfl⟩ := four h.1
  obtain ⟨j, hj, rfl⟩ := four h.2.1
  have h1 : ∀ i, i < 4 → ∀ j, j < 4 → bitsI .or .i64 ((i : Nat) : Int) ((j : Nat) : Int) = j → ((bitsI .and .i64 ((i : Nat) : Int) 1 != 0) = true → (bitsI .and .i64 ((j : Nat) : Int) 1 != 0) = true) ∧ ((bitsI .and .i64 ((i : Nat) : Int) 2 != 0) = true → (bitsI .and .i64 ((j : Nat) : Int) 2 != 0) = true) := by decide
  obtain ⟨a, b⟩ := h1 i hi j hj h.2.2
  unfold pairs.lifeL at hp ⊢
  rw [List.mem_append] at hp ⊢
  refine hp.imp (fun hp => ?_) (fun hp => ?_)
  · by_cases q : (bitsI .and .i64 ((i : Nat) : Int) 1 != 0) = true
    · rw [if_pos q] at hp; rw [if_pos (a q)]; exact hp
    · rw [if_neg q] at hp; cases hp
  · by_cases q : (bitsI .and .i64 ((i : Nat) : Int) 2 != 0) = true
    · rw [if_pos q] at hp; rw [if_pos (b q)]; exact hp
    · rw [if_neg q] at hp; cases hp
/-- among what the struct asks for -/
def Among (Z A B : List Int) (p : Int × Int) : Prop := ∃ (i : Nat) (z : Int), Z[i]? = some z ∧ p ∈ pairs.lifeL (A.getD i 0) (B.getD i 0) z
theorem life_among {L : Nat} {Z A B xs : List Int} (hA : A.length = L) (hB : B.length = L) (hL : xs.length = L) (hx : LE xs xs) {r v : Int} (hv : 0 ≤ v ∧ v ≤ 3) (hr : 1 ≤ r ∧ r ≤ (L : Int)) (h : LE (lifeW L xs r v) Z) {w : Int} (e : w = v) {p : Int × Int} (hp : p ∈ pairs.lifeL (inst.lifeF A r) (inst.lifeF B r) w) : Among Z A B p := by
  subst e
  unfold lifeW at h
  rw [if_pos hr] at h
  unfold orAt at h
  have hi : (r - 1).toNat < xs.length := by omega
  rw [dif_pos hi] at h
  have hl := h.len
  rw [List.length_set] at hl
  have hg := h.get (r - 1).toNat (by simpa using hi) (by omega)
  rw [List.getElem_set_self] at hg
  unfold inst.lifeF at hp
  rw [if_pos ⟨hr.1, by omega⟩, if_pos ⟨hr.1, by omega⟩] at hp
  exact ⟨_, _, List.getElem?_eq_getElem (by omega), life_sub (le4_pre (hx.get _ hi hi).1 hv hg) hp⟩
theorem regs_among {L : Nat} {Z A B : List Int} (hA : A.length = L) (hB : B.length = L) {wf wf' : Nat → Int} (hw : ∀ i, 0 ≤ wf i ∧ wf i ≤ 3) (hww : ∀ i, wf' i = wf i) : ∀ (rs : List Int) (i : Nat) (xs : List Int), xs.length = L → LE xs xs → (∀ r ∈ rs, 1 ≤ r ∧ r ≤ (L : Int)) → LE (regsW L wf i rs xs) Z →
    ∀ p ∈ pairs.regsL wf' i (rs.map (inst.lifeF A)) (rs.map (inst.lifeF B)), Among Z A B p
  | [], _, _, _, _, _, _, p, hp => by simp [pairs.regsL] at hp
  | r :: rs, i, xs, hL, hx, hr, h, p, hp => by
    simp only [List.map_cons, pairs.regsL, List.mem_append] at hp
    have h1 : LE xs (lifeW L xs r (wf i)) := hx.lifeX r (hw i)
    have h2 : LE (lifeW L xs r (wf i)) (regsW L wf (i + 1) rs (lifeW L xs r (wf i))) := LE.regsX hw rs (i + 1) h1.self.2
    rcases hp with hp | hp
    · exact life_among hA hB hL hx (hw i) (hr r (by simp)) (h2.trans h) (hww i) hp
    · exact regs_among hA hB hw hww rs (i + 1) _ (by rw [lifeW_len]; exact hL) h1.self.2 (fun q hq => hr q (by simp [hq])) h p hp
theorem args_among {Z A B : List Int} {L : Nat} {W : List (ByteArray × List Int)} (hW : LEW W W) {S' : Ty → Int → Ty → List (Int × Int)} {f g : Ty → Ty} {wf wf' : Nat → Int} (hw : ∀ i, 0 ≤ wf i ∧ wf i ≤ 3) (hww : ∀ i, wf' i = wf i) : ∀ (az : List Ty) (i : Nat) (xs : List Int), xs.length = L → LE xs xs →
    (∀ a ∈ az, ∀ v xs, xs.length = L → 0 ≤ v ∧ v ≤ 3 → LE xs xs → LE (seeW L [] W a v xs) Z → ∀ p ∈ S' (f a) v (g a), Among Z A B p) → LE (argsW (seeW L [] W) wf i az xs) Z → ∀ p ∈ pairs.seeA S' wf' i (az.map f) (az.map g), Among Z A B p
  | [], _, _, _, _, _, _, p, hp => by simp [pairs.seeA] at hp
  | a :: az, i, xs, hL, hx, H, h, p, hp => by
    simp only [List.map_cons, pairs.seeA, List.mem_append] at hp
    have h1 := see_ext (L := L) (tys := []) hW a (wf i) xs (hw i) hx
    have h3 : LE (seeW L [] W a (wf i) xs) (argsW (seeW L [] W) wf (i + 1) az (seeW L [] W a (wf i) xs)) := args_ext hw az (i + 1) (fun b _ => see_ext hW b) h1.self.2
    rcases hp with hp | hp
    · rw [hww i] at hp
      exact H a (by simp) _ xs hL (hw i) hx (h3.trans h) p hp
    · exact args_among hW hw hww az (i + 1) _ (by rw [seeW_len]; exact hL) h1.self.2 (fun b hb => H b (by simp [hb])) h p hp
theorem see_among {Z A B : List Int} {L : Nat} (hA : A.length = L) (hB : B.length = L) {W : List (ByteArray × List Int)} (hW : LEW W W) (t : Ty) : ∀ (v : Int) (xs : List Int), (∀ r ∈ allT t, 1 ≤ r ∧ r ≤ (L : Int)) → xs.length = L → 0 ≤ v ∧ v ≤ 3 → LE xs xs → LE (seeW L [] W t v xs) Z →
    ∀ p ∈ pairs.seeL (pairs.ofW W) (inst.instT (inst.lifeF A) noP t) v (inst.instT (inst.lifeF B) noP t), Among Z A B p := by
  refine Ty.ind (P := fun t => ∀ (v : Int) (xs : List Int), (∀ r ∈ allT t, 1 ≤ r ∧ r ≤ (L : Int)) → xs.length = L → 0 ≤ v ∧ v ≤ 3 → LE xs xs → LE (seeW L [] W t v xs) Z →
    ∀ p ∈ pairs.seeL (pairs.ofW W) (inst.instT (inst.lifeF A) noP t) v (inst.instT (inst.lifeF B) noP t), Among Z A B p) ?_ t
  intro k nm mu r rs az ih v xs hr hL hv hx h p hp
  rw [allT_mk] at hr
  rw [seeW_mk] at h
  have hr1 : ∀ q ∈ ownL (.mk k nm mu r rs az), 1 ≤ q ∧ q ≤ (L : Int) := fun q hq => hr q (List.mem_append_left _ hq)
  have hr2 : ∀ a ∈ az, ∀ q ∈ allT a, 1 ≤ q ∧ q ≤ (L : Int) := fun a ha q hq => hr q (List.mem_append_right _ (List.mem_flatMap.2 ⟨a, ha, hq⟩))
  rw [ownL_mk] at hr1
  have hin : ∀ i, 0 ≤ innerW W k nm mu rs.length v i ∧ innerW W k nm mu rs.length v i ≤ 3 := fun i => (le4_inner hW k nm mu rs.length (le4_refl hv) i).1
  have h0 := LE.headX (L := L) (tys := []) hx hW k nm r rs hv
  have h1 := args_ext hin az 0 (fun a _ => see_ext (L := L) (tys := []) hW a) h0.self.2
  have hhd : LE (headW L [] W k nm r rs v xs) Z := h1.trans h
  have hargs : ∀ wf' : Nat → Int, (∀ i, wf' i = innerW W k nm mu rs.length v i) → ∀ p ∈ pairs.seeA (pairs.seeL (pairs.ofW W)) wf' 0 (az.map (inst.instT (inst.lifeF A) noP)) (az.map (inst.instT (inst.lifeF B) noP)), Among Z A B p := fun wf' hww =>
    args_among hW hin hww az 0 _ (by rw [headW_len]; exact hL) h0.self.2 (fun a ha v xs q1 q2 q3 q4 => ih a ha v xs (hr2 a ha) q1 q2 q3 q4) h
  rw [inst.instT_mk, inst.instT_mk] at hp
  by_cases h9 : k = 9
  · rw [if_pos h9, if_pos h9] at hp
    simp only [noP, Option.getD_none] at hp
    rw [pairs.seeL_mk, if_neg (by omega), if_neg (by omega), List.nil_append] at hp
    refine hargs _ (fun i => ?_) p hp
    unfold innerW
    rw [if_neg (by omega), if_neg (by omega), if_neg (by omega)]
  rw [if_neg h9, if_neg h9, pairs.seeL_mk] at hp
  unfold headW at hhd
  rw [if_neg h9] at hhd
  by_cases h5 : k = 5
  · rw [if_neg (by omega), if_pos h5] at hr1
    rw [if_pos h5, if_pos h5, if_pos h5, List.mem_append] at hp
    rw [if_neg (by omega), if_pos h5] at hhd
    have hwf : ∀ i : Nat, 0 ≤ throughF v (ofW W nm i) ∧ throughF v (ofW W nm i) ≤ 3 := fun i => (le4_thr (le4_refl hv) (le4_of hW nm i)).1
    rcases hp with hp | hp
    · exact regs_among hA hB hwf (fun i => by rw [thr_eq, ofW_eq]) rs 0 xs hL hx hr1 hhd p hp
    · refine hargs _ (fun i => ?_) p hp
      unfold innerW
      rw [if_neg (by omega), if_pos h5, thr_eq, ofW_eq, List.length_map]
  · simp only [if_neg h5] at hp
    rw [List.mem_append] at hp
    rcases hp with hp | hp
    · by_cases h78 : k = 7 ∨ k = 8
      · rw [if_pos (by omega)] at hr1
        rw [if_pos h78] at hp
        have ho : inst.hasOwn (.mk k nm mu r rs az) = true := by unfold inst.hasOwn; rcases h78 with e | e <;> rw [e] <;> rfl
        rw [if_pos ho, if_pos ho] at hp
        rw [if_pos (by omega)] at hhd
        exact life_among hA hB hL hx hv (hr1 r (by simp)) hhd rfl hp
      · rw [if_neg h78] at hp; cases hp
    · refine hargs _ (fun i => ?_) p hp
      unfold innerW
      by_cases h7 : k = 7 ∧ mu = true
      · rw [if_pos h7, if_pos h7]; rfl
      · rw [if_neg h7, if_neg h7, if_neg h5]

/-! ### the struct -/
theorem regs_all {Z : List Int} (hZ : LE Z Z) : ∀ (A B : List Int) (j : Nat), (∀ (f : Nat → Int), (∀ i, f i = ((Z[i]?).getD 3)) → A.length = B.length → j + A.length = Z.length → ∀ (i : Nat) (z : Int), Z[j + i]? = some z → ∀ p ∈ pairs.lifeL (A.getD i 0) (B.getD i 0) z, p ∈ pairs.regsL f j A B)
  | [], [], j, f, hf, hl, hZl, i, z, hz, p, hp => by
    have := (List.getElem?_eq_some_iff.1 hz).1
    simp at hZl; omega
  | [], _ :: _, _, _, _, hl, _, _, _, _, _, _ => by simp at hl
  | _ :: _, [], _, _, _, hl, _, _, _, _, _, _ => by simp at hl
  | a :: A, b :: B, j, f, hf, hl, hZl, i, z, hz, p, hp => by
    simp only [pairs.regsL, List.mem_append]
    cases i with
    | zero =>
      left
      rw [hf j]
      rw [Nat.add_zero] at hz
      rw [hz]
      simpa using hp
    | succ i =>
      right
      refine regs_all hZ A B (j + 1) f hf (by simpa using hl) (by simp at hZl; omega) i z (by rw [← hz]; congr 1; omega) p (by simpa using hp)
theorem thr1 {z : Int} (h : 0 ≤ z ∧ z ≤ 3) : pairs.thr 1 z = z := by
  obtain ⟨i, hi, rfl⟩ := four h
  have : ∀ i, i < 4 → pairs.thr 1 ((i : Nat) : Int) = i := by decide
  exact this i hi
/-- what the struct asks for -/
theorem struct_all {W : List (ByteArray × List Int)} {nm : ByteArray} {Z A B : List Int} (hZ : LE Z Z) (hlk : lkW nm W = Z) (hA : A.length = Z.length) (hB : B.length = Z.length) {p : Int × Int} (h : Among Z A B p) : p ∈ pairs.seeL (pairs.ofW W) (.mk 5 nm false 0 A []) 1 (.mk 5 nm false 0 B []) := by
  obtain ⟨i, z, hz, hp⟩ := h
  rw [pairs.seeL_mk, if_pos rfl, List.mem_append]
  left
  refine regs_all hZ A B 0 _ (fun i => ?_) (by omega) (by omega) i z (by rw [Nat.zero_add]; exact hz) p hp
  unfold pairs.ofW
  rw [lkL_eq, hlk]
  by_cases h : i < Z.length
  · rw [List.getElem?_eq_getElem h, Option.getD_some]
    exact thr1 (hZ.get i h h).1
  · rw [List.getElem?_eq_none (by omega)]
    decide
/-- the law -/
theorem varies_law {nm : ByteArray} {l : List Ty} {K : Nat} (hK : eqW (itW [⟨nm, 4, [], l⟩] (K + 1)) (itW [⟨nm, 4, [], l⟩] K) = true) (hr : ∀ t ∈ l, ∀ r ∈ allT t, 1 ≤ r ∧ r ≤ (4 : Int)) {A B : List Int} (hA : A.length = 4) (hB : B.length = 4) {R : Int × Int → Bool}
    (hall : (pairs.seeL (pairs.ofW (itW [⟨nm, 4, [], l⟩] K)) (.mk 5 nm false 0 A []) 1 (.mk 5 nm false 0 B [])).all R = true) {t : Ty} (ht : t ∈ l) :
    (pairs.seeL (pairs.ofW (itW [⟨nm, 4, [], l⟩] K)) (inst.instT (inst.lifeF A) noP t) 1 (inst.instT (inst.lifeF B) noP t)).all R = true := by
  have hrise := it_rise [⟨nm, 4, [], l⟩] K
  have hfix : onceW (itW [⟨nm, 4, [], l⟩] K) [⟨nm, 4, [], l⟩] = itW [⟨nm, 4, [], l⟩] K := eqW_eq hrise (keys_it _ K) hK
  have hWW := hrise.self'.1
  generalize itW [⟨nm, 4, [], l⟩] K = W at *
  have hone : W = [(nm, onceD W ⟨nm, 4, [], l⟩)] := hfix.symm
  have hlk : lkW nm W = onceD W ⟨nm, 4, [], l⟩ := by
    have h2 : lkW nm [(nm, onceD W ⟨nm, 4, [], l⟩)] = onceD W ⟨nm, 4, [], l⟩ := by unfold lkW; rw [if_pos rfl]
    rw [← h2, ← hone]
  have hZ : LE (onceD W ⟨nm, 4, [], l⟩) (onceD W ⟨nm, 4, [], l⟩) := (onceD_zero hWW ⟨nm, 4, [], l⟩).self.2
  have hZl : (onceD W ⟨nm, 4, [], l⟩).length = 4 := by rw [onceD_len]; rfl
  rw [List.all_eq_true] at hall ⊢
  intro p hp
  refine hall p (struct_all hZ hlk (by omega) (by omega) ?_)
  obtain ⟨s, e, rfl⟩ := List.append_of_mem ht
  have hzero : LE (List.replicate 4 0) (List.replicate 4 0) := LE.zeros 4
  have e1 : onceD W ⟨nm, 4, [], s ++ t :: e⟩ = argsW (seeW 4 [] W) (fun _ => 1) 0 e (seeW 4 [] W t 1 (argsW (seeW 4 [] W) (fun _ => 1) 0 s (List.replicate 4 0))) := by
    show argsW (seeW 4 [] W) (fun _ => 1) 0 (s ++ t :: e) (List.replicate 4 0) = _
    rw [argsW_app _ _ s (t :: e) 0 0]
    show argsW (seeW 4 [] W) (fun _ => 1) 1 e _ = _
    exact argsW_app _ _ [] e 1 0 _
  have h1 : LE (List.replicate 4 0) (argsW (seeW 4 [] W) (fun _ => 1) 0 s (List.replicate 4 0)) := args_ext (fun _ => one_ok) s 0 (fun a _ => see_ext hWW a) hzero
  have h2 := see_ext (L := 4) (tys := []) hWW t 1 _ one_ok h1.self.2
  have h3 := args_ext (fun _ => one_ok) e 0 (fun a _ => see_ext (L := 4) (tys := []) hWW a) h2.self.2
  refine see_among (L := 4) hA hB hWW t 1 _ (hr t (by simp)) ?_ one_ok h1.self.2 ?_ p hp
  · rw [argsW_len _ _ _ _ fun a _ w out => seeW_len _ _ _ a w out]; simp
  · rw [e1]; exact h3
end Go.Proofs.Yteaidgpiolakcaa

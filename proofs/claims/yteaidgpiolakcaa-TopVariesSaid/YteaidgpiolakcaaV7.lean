/-
  Find walked.
-/
import Derived.Test.YteaidgpiolakcaaV6
namespace Go.Proofs.Yteaidgpiolakcaa
open Go Go.Lf
set_option linter.unusedVariables false

def zeroW (ds : List Df) : List (ByteArray × List Int) := ds.foldl (fun acc d => updL d.nm (List.replicate (d.lf.toNat + d.tys.length) 0) acc) []
noncomputable def itW (ds : List Df) : Nat → List (ByteArray × List Int)
  | 0 => zeroW ds
  | k + 1 => onceW (itW ds k) ds
/-- one more entry -/
theorem WApart.put {h0 m : Nat} {h : Heap} {W : List (ByteArray × List Int)} (x : WApart h0 h m W) {k : ByteArray} {so : Sv} {xs : List Int} (hs : IntsQ (fun b => h0 ≤ b ∧ b ≠ m ∧ b < h.size) h so xs) (hl : xs.length ≤ 1000000)
    {K : Heap → Prop} (kk : ∀ h', Fr (fun b => b = m) h h' → h'.size = h.size → WApart h0 h' m (updL k xs W) → K h') : updS h (.map (some m)) k (.slice so.a so.n so.c) K := by
  obtain ⟨es, Lm, c, rfl, e2, e3, e4, e5, e6⟩ := x
  refine ⟨m, Lm, c, _, rfl, e2, e4, ?_⟩
  rintro h12 L' c' rfl hL' hst
  have hm := map_lt e2
  have f12 : Fr (fun b => b = m) h (h.setIfInBounds m (.map L' c')) := by
    refine ⟨by simp, fun b hb hne => ?_⟩
    rw [Array.getElem?_setIfInBounds, if_neg fun e => hne e.symm]
  have hm12 : (h.setIfInBounds m (.map L' c'))[m]? = some (.map L' c') := by
    rw [Array.getElem?_setIfInBounds, if_pos rfl, if_pos hm]
  have z12 : (h.setIfInBounds m (.map L' c')).size = h.size := by simp
  generalize h.setIfInBounds m (.map L' c') = h12 at *
  refine kk h12 f12 z12 ⟨updX k so xs es, L', c', ?_, hm12, e3, ?_, hst e5, fun e he => ?_⟩
  · rw [updX_W]
  · rw [updX_V]; exact hL'
  · rcases updX_mem he with he | rfl
    · obtain ⟨q1, q2⟩ := e6 e he
      exact ⟨(q1.fr f12 fun b hb e => hb.2.1 e).weak fun b hb _ => ⟨hb.1, hb.2.1, by omega⟩, q2⟩
    · exact ⟨(hs.fr f12 fun b hb e => hb.2.1 e).weak fun b hb _ => ⟨hb.1, hb.2.1, by omega⟩, hl⟩
theorem least_of {P : Nat → Prop} : ∀ n, P n → ∃ d, P d ∧ ∀ d', P d' → d ≤ d' := by
  intro n
  induction n using Nat.strongRecOn with
  | ind n ih =>
    intro hn
    by_cases h : ∃ m, m < n ∧ P m
    · obtain ⟨m, hm, hp⟩ := h
      exact ih m hm hp
    · exact ⟨n, hn, fun d' hd => Nat.le_of_not_lt fun hlt => h ⟨d', hlt, hd⟩⟩
/-- a loop whose state is the next one of a row, up to the last -/
theorem row_loop {σ : Type} {St : Nat → σ → Heap → Prop} {K : Nat} {s0 : σ} {h0 : Heap} (h00 : St 0 s0 h0) {Body : (σ → Heap → Prop) → σ → Heap → Prop} (mono : ∀ (A B : σ → Heap → Prop) s h, (∀ s' h', A s' h' → B s' h') → Body A s h → Body B s h)
    (step : ∀ k s h, k ≤ K → St k s h → Body (fun s' h' => k < K ∧ St (k + 1) s' h') s h) :
    ∃ (I : σ → Heap → Prop) (m : σ → Heap → Nat), I s0 h0 ∧ ∀ s h, I s h → Body (fun s' h' => I s' h' ∧ m s' h' < m s h) s h := by
  let P : σ → Heap → Nat → Prop := fun s h d => ∃ k, k + d = K ∧ St k s h
  have hm : ∀ s h, ∃ d, (∃ d, P s h d) → P s h d ∧ ∀ d', P s h d' → d ≤ d' := fun s h => by
    by_cases hh : ∃ d, P s h d
    · obtain ⟨d, hd⟩ := hh
      obtain ⟨e, he⟩ := least_of d hd
      exact ⟨e, fun _ => he⟩
    · exact ⟨0, fun h => absurd h hh⟩
  obtain ⟨M, hM⟩ : ∃ M : σ → Heap → Nat, ∀ s h, (∃ d, P s h d) → P s h (M s h) ∧ ∀ d', P s h d' → M s h ≤ d' := ⟨fun s h => Classical.choose (hm s h), fun s h => Classical.choose_spec (hm s h)⟩
  refine ⟨fun s h => ∃ d, P s h d, M, ⟨K, 0, by omega, h00⟩, fun s h hI => ?_⟩
  obtain ⟨⟨k, hk, hs⟩, -⟩ := hM s h hI
  refine mono _ _ s h (fun s' h' hh => ?_) (step k s h (by omega) hs)
  obtain ⟨hlt, hs'⟩ := hh
  have hI' : ∃ d, P s' h' d := ⟨K - (k + 1), k + 1, by omega, hs'⟩
  refine ⟨hI', ?_⟩
  have := (hM s' h' hI').2 (K - (k + 1)) ⟨k + 1, by omega, hs'⟩
  omega
theorem find_spec {Q : Nat → Prop} {h : Heap} {l : Sv} {ds : List Df} (hQ : ∀ b, Q b → b < h.size) (hd : DsAt Q h l ds) (hsm : ∀ d ∈ ds, SmD d) (hn : ds.length ≤ 1000000) {K : Nat}
    (hK : eqW (itW ds (K + 1)) (itW ds K) = true) (hmin : ∀ k, k < K → eqW (itW ds (k + 1)) (itW ds k) = false) :
    CallsH Try.prog 8 #[.slice l.a l.n l.c] h (fun x h' => Grow h h' ∧ ∃ m, x = .map (some m) ∧ WApart h.size h' m (itW ds K)) := by
  apply F8
  unfold L8
  rintro m11 h1 rfl rfl
  have f1 : Grow h (h.push (.map #[] 0)) := Fr.push _ _ _
  have hm1 : (h.push (.map #[] 0))[h.size]? = some (.map #[] 0) := by simp
  have z1 : (h.push (.map #[] 0)).size = h.size + 1 := by simp
  generalize h.push (.map #[] 0) = h1 at *
  refine ⟨fun i h' => ∃ j : Nat, i = j ∧ j ≤ ds.length ∧ Grow h h' ∧ h1.size ≤ h'.size ∧ WApart h.size h' h.size (zeroW (ds.take j)), fun i _ => ds.length - i.toNat, ⟨0, rfl, Nat.zero_le _, f1, Nat.le_refl _, [], #[], 0, rfl, hm1, Nat.le_refl _, rfl, ⟨by simp, fun e he => by simp at he⟩, fun e he => by cases he⟩, ?_⟩
  rintro _ h2 ⟨j, rfl, hj, g2, sz2, x2⟩
  rw [hd.len]
  refine ifb_iff (q := j < ds.length) (by simp) (fun hl => ?_) (fun hl => ?_)
  rotate_left
  · have hje : j = ds.length := by omega
    subst hje
    rw [List.take_length] at x2
    rw [← hd.len]
    refine (fun key => ?fin) (row_loop (σ := Option Nat) (s0 := some h.size) (h0 := h2) (K := K) (St := fun k w h' => Grow h h' ∧ ∃ m, w = some m ∧ WApart h.size h' m (itW ds k)) (Body := fun C ways3 h7 => cal Try.prog 13 #[.slice l.a l.n l.c, .map ways3] h7 fun u h8 => asM u fun x29 =>
        cal Try.prog 14 #[.map x29, .map ways3, .func (.func 15) #[] #[]] h8 fun u_1 h9 => asB u_1 fun x32 =>
        ifb x32 (Grow h h9 ∧ ∃ m, Value.map ways3 = .map (some m) ∧ WApart h.size h9 m (itW ds K)) (C x29 h9)) ⟨g2, h.size, rfl, x2⟩ ?mono ?step)
    case fin =>
      obtain ⟨I, mm, q1, q2⟩ := key
      exact ⟨I, mm, q1, fun ways3 h7 hI => q2 ways3 h7 hI⟩
    case mono =>
      intro A B s h' hAB hb
      obtain ⟨J, c, hJ⟩ := hb
      refine ⟨J, c, fun v h8 hv => ?_⟩
      obtain ⟨x, e, J2, c2, hJ2⟩ := hJ v h8 hv
      refine ⟨x, e, J2, c2, fun v2 h9 hv2 => ?_⟩
      obtain ⟨y, e2, hy1, hy2⟩ := hJ2 v2 h9 hv2
      exact ⟨y, e2, hy1, fun e => hAB _ _ (hy2 e)⟩
    case step =>
      intro k w h7 hk hst
      obtain ⟨g7, m, rfl, x7⟩ := hst
      have hsz := g7.size
      refine cal_of (once_spec (Q := fun b => b < h7.size) (fun b hb => hb) ⟨hd.len, fun i hi => ?_⟩ hsm hn (x7.at_.weak fun b hb hl => hl)) ?_
      · obtain ⟨q, v, e, eq_, c4, da⟩ := hd.at_ i hi
        have hq := hQ _ eq_
        refine ⟨q, v, e, by omega, c4.fr g7 fun h => h, da.nm, da.lf, ?_, ?_⟩
        · have := da.tys.fr g7 fun _ _ h => h
          exact ⟨this.len, fun i hi => by obtain ⟨q, e, k, c⟩ := this.at_ i hi; exact ⟨q, e, by have := hQ _ k; omega, c⟩⟩
        · exact (da.flds.fr g7 fun _ _ h => h).weak fun b hb _ => by have := hQ b hb; omega
      rintro _ h8 ⟨f8, m', rfl, x8⟩
      refine ⟨some m', rfl, ?_⟩
      have x78 := x7.fr f8 fun _ _ _ h => h
      refine cal_of (eqMaps_spec x8 (x78.at_)) ?_
      rintro _ h9 ⟨f9, rfl⟩
      have g9 := g7.trans (f8.trans f9)
      refine ⟨_, rfl, fun e => ?_, fun e => ?_⟩
      · have hkk : k = K := by
          rcases Nat.lt_or_ge k K with q | q
          · have := hmin k q
            rw [show onceW (itW ds k) ds = itW ds (k + 1) from rfl, this] at e
            cases e
          · omega
        subst hkk
        exact ⟨g9, m, rfl, x78.fr f9 fun _ _ _ h => h⟩
      · have hlt : k < K := by
          rcases Nat.lt_or_ge k K with q | q
          · exact q
          · obtain rfl : k = K := by omega
            rw [show onceW (itW ds k) ds = itW ds (k + 1) from rfl, hK] at e
            cases e
        refine ⟨hlt, g9, m', rfl, ?_⟩
        obtain ⟨es, L, c, e1, e2, e3, e4, e5, e6⟩ := x8.fr f9 fun _ _ _ h => h
        exact ⟨es, L, c, e1, e2, by omega, e4, e5, fun e he => ⟨(e6 e he).1.weak fun b hb _ => ⟨by omega, hb.2.1, hb.2.2⟩, (e6 e he).2⟩⟩
  obtain ⟨q, v, ea, eq_, c4, da⟩ := hd.at_ j hl
  have hsd := hsm _ (List.getElem_mem hl)
  obtain ⟨hl0, hl1, ht1, hfl, hsf⟩ := hsd
  have c42 := c4.fr g2 (fun h => h)
  refine ⟨q, ea, by omega, by rw [hd.len]; omega, v.nm, v.lf, v.ts, v.fs, by rw [Int.toNat_natCast]; exact c42.1, by rw [Int.toNat_natCast]; exact c42.2.1, by rw [Int.toNat_natCast]; exact c42.2.2.1, by rw [Int.toNat_natCast]; exact c42.2.2.2, ?_⟩
  rintro p7 h3 rfl rfl
  have b3 := blk.new h2 #[Value.string (⟨#[]⟩ : ByteArray), Value.int .i64 0, Value.slice (⟨none, 0, 0⟩ : Sv).a (⟨none, 0, 0⟩ : Sv).n (⟨none, 0, 0⟩ : Sv).c, Value.slice (⟨none, 0, 0⟩ : Sv).a (⟨none, 0, 0⟩ : Sv).n (⟨none, 0, 0⟩ : Sv).c] 41
  have f3 : Grow h2 (h2.push (.cells #[Value.string (⟨#[]⟩ : ByteArray), Value.int .i64 0, Value.slice (⟨none, 0, 0⟩ : Sv).a (⟨none, 0, 0⟩ : Sv).n (⟨none, 0, 0⟩ : Sv).c, Value.slice (⟨none, 0, 0⟩ : Sv).a (⟨none, 0, 0⟩ : Sv).n (⟨none, 0, 0⟩ : Sv).c] 41)) := Fr.push _ _ _
  have z3 : (h2.push (.cells #[Value.string (⟨#[]⟩ : ByteArray), Value.int .i64 0, Value.slice (⟨none, 0, 0⟩ : Sv).a (⟨none, 0, 0⟩ : Sv).n (⟨none, 0, 0⟩ : Sv).c, Value.slice (⟨none, 0, 0⟩ : Sv).a (⟨none, 0, 0⟩ : Sv).n (⟨none, 0, 0⟩ : Sv).c] 41)).size = h2.size + 1 := by simp
  generalize h2.push (.cells #[Value.string (⟨#[]⟩ : ByteArray), Value.int .i64 0, Value.slice (⟨none, 0, 0⟩ : Sv).a (⟨none, 0, 0⟩ : Sv).n (⟨none, 0, 0⟩ : Sv).c, Value.slice (⟨none, 0, 0⟩ : Sv).a (⟨none, 0, 0⟩ : Sv).n (⟨none, 0, 0⟩ : Sv).c] 41) = h3 at *
  refine stoA_i b3 rfl (vs := (dvs v).toList) (by intro u hu; simp only [List.mem_cons, List.not_mem_nil, or_false] at hu; rcases hu with rfl | rfl | rfl | rfl <;> rfl) fun h4 b4 f4 => ?_
  have g24 : Grow h2 h4 := f3.trans' f4 fun i hi e => by omega
  have s24 := g24.size
  have s34 := f4.size
  have s2 := g2.size
  have D4 := Dv4.blk b4
  have Dh : ∀ h', Grow h4 h' → Dv4 h' ⟨h2.size, 0, none⟩ v := fun h' hs => Dv4.blk (hs.blk b4 fun h => h)
  refine ⟨fun h' => Grow h4 h', Fr.refl _ _, v.nm, fun h' hs => (Dh h' hs).1, v.lf, fun h' hs => (Dh h' hs).2.1, ldS_i (s := v.ts) D4.2.2.1 ?_⟩
  have hvl : 0 ≤ v.lf ∧ v.lf ≤ 100 := by rw [da.lf]; exact ⟨hl0, hl1⟩
  have htn := da.tys.len
  have hN : IntKind.i64.wrap ((if (if 100 < v.lf then 100 else v.lf) > 0 then (if 100 < v.lf then 100 else v.lf) else 0) + ((v.ts.n : Nat) : Int)) = (((ds[j].lf.toNat + ds[j].tys.length : Nat)) : Int) := by
    rw [clamp_id hvl.1 hvl.2, wrap64_id (by omega) (by omega), htn, da.lf]
    omega
  rw [hN]
  refine mkI (by omega) fun so h5 o5 f5 own5 z5 n5 => ?_
  refine ⟨f5, ?_⟩
  have x5 := (x2.fr g24 fun _ _ _ h => h).fr f5 fun _ _ _ h => h
  refine x5.put (xs := List.replicate (ds[j].lf.toNat + ds[j].tys.length) 0) (IntsQ.of (own_ints o5) fun b hb hlt => ?_) (by simp; omega) fun h6 f6 z6 x6 => ?_
  · have := own5 b hb
    exact ⟨by omega, by omega, hlt⟩
  rw [wrap_succ hl (by omega)]
  have hone : zeroW (ds.take (j + 1)) = updL ds[j].nm (List.replicate (ds[j].lf.toNat + ds[j].tys.length) 0) (zeroW (ds.take j)) := by
    unfold zeroW
    rw [List.take_succ_eq_append_getElem hl, List.foldl_append]
    rfl
  refine ⟨⟨j + 1, rfl, hl, (g2.trans (g24.trans f5)).trans' f6 fun i hi e => by omega, by omega, ?_⟩, by simp; omega⟩
  rw [hone, ← da.nm]
  exact x6
end Go.Proofs.Yteaidgpiolakcaa

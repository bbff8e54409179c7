/-
  Once walked.
-/
import Derived.Test.YteaidgpiolakcaaV4
namespace Go.Proofs.Yteaidgpiolakcaa
open Go Go.Lf
set_option linter.unusedVariables false

theorem once_spec {Q : Nat → Prop} {h : Heap} {l : Sv} {ds : List Df} {w : Option Nat} {W : List (ByteArray × List Int)} (hQ : ∀ b, Q b → b < h.size) (hd : DsAt Q h l ds) (hsm : ∀ d ∈ ds, SmD d) (hn : ds.length ≤ 1000000) (hw : WAt Q h w W) :
    CallsH Try.prog 13 #[.slice l.a l.n l.c, .map w] h (fun x h' => Grow h h' ∧ ∃ m, x = .map (some m) ∧ WApart h.size h' m (onceW W ds)) := by
  apply F13
  unfold L13
  rintro m11 h1 rfl rfl
  have f1 : Grow h (h.push (.map #[] 0)) := Fr.push _ _ _
  have hm1 : (h.push (.map #[] 0))[h.size]? = some (.map #[] 0) := by simp
  have z1 : (h.push (.map #[] 0)).size = h.size + 1 := by simp
  generalize h.push (.map #[] 0) = h1 at *
  refine ⟨fun i h' => ∃ j : Nat, i = j ∧ j ≤ ds.length ∧ Grow h h' ∧ h1.size ≤ h'.size ∧ WApart h.size h' h.size (onceW W (ds.take j)), fun i _ => ds.length - i.toNat, ⟨0, rfl, Nat.zero_le _, f1, Nat.le_refl _, [], #[], 0, rfl, hm1, Nat.le_refl _, rfl, ⟨by simp, fun e he => by simp at he⟩, fun e he => by cases he⟩, ?_⟩
  rintro _ h2 ⟨j, rfl, hj, g2, sz2, x2⟩
  rw [hd.len]
  refine ifb_iff (q := j < ds.length) (by simp) (fun hl => ?_) (fun hl => ?_)
  rotate_left
  · have hje : j = ds.length := by omega
    subst hje
    rw [List.take_length] at x2
    exact ⟨g2, h.size, rfl, x2⟩
  obtain ⟨q, v, ea, eq_, c4, da⟩ := hd.at_ j hl
  have hsd := hsm _ (List.getElem_mem hl)
  obtain ⟨hl0, hl1, ht1, hfl, hsf⟩ := hsd
  have c42 := c4.fr g2 (fun h => h)
  refine ⟨q, ea, by omega, by rw [hd.len]; omega, v.nm, v.lf, v.ts, v.fs, by rw [Int.toNat_natCast]; exact c42.1, by rw [Int.toNat_natCast]; exact c42.2.1, by rw [Int.toNat_natCast]; exact c42.2.2.1, by rw [Int.toNat_natCast]; exact c42.2.2.2, ?_⟩
  rintro p7 h3 rfl rfl
  have b3 := blk.new h2 #[Value.string (⟨#[]⟩ : ByteArray), Value.int .i64 0, Value.slice (⟨none, 0, 0⟩ : Sv).a (⟨none, 0, 0⟩ : Sv).n (⟨none, 0, 0⟩ : Sv).c, Value.slice (⟨none, 0, 0⟩ : Sv).a (⟨none, 0, 0⟩ : Sv).n (⟨none, 0, 0⟩ : Sv).c] 41
  have f3 : Grow h2 (h2.push (.cells #[Value.string (⟨#[]⟩ : ByteArray), Value.int .i64 0, Value.slice (⟨none, 0, 0⟩ : Sv).a (⟨none, 0, 0⟩ : Sv).n (⟨none, 0, 0⟩ : Sv).c, Value.slice (⟨none, 0, 0⟩ : Sv).a (⟨none, 0, 0⟩ : Sv).n (⟨none, 0, 0⟩ : Sv).c] 41)) := Fr.push _ _ _
  have z3 : (h2.push (.cells #[Value.string (⟨#[]⟩ : ByteArray), Value.int .i64 0, Value.slice (⟨none, 0, 0⟩ : Sv).a (⟨none, 0, 0⟩ : Sv).n (⟨none, 0, 0⟩ : Sv).c, Value.slice (⟨none, 0, 0⟩ : Sv).a (⟨none, 0, 0⟩ : Sv).n (⟨none, 0, 0⟩ : Sv).c] 41)).size = h2.size + 1 := by simp
  generalize h2.push (.cells #[Value.string (⟨#[]⟩ : ByteArray), Value.int .i64 0, Value.slice (⟨none, 0, 0⟩ : Sv).a (⟨none, 0, 0⟩ : Sv).n (⟨none, 0, 0⟩ : Sv).c, Value.slice (⟨none, 0, 0⟩ : Sv).a (⟨none, 0, 0⟩ : Sv).n (⟨none, 0, 0⟩ : Sv).c] 41) = h3 at *
  refine stoA_i b3 rfl (vs := (dvs v).toList) (by intro u hu; simp only [List.mem_cons, List.not_mem_nil, or_false] at hu; rcases hu with rfl | rfl | rfl | rfl <;> rfl) fun h4 b4 f4 => ?_
  have g24 : Grow h2 h4 := f3.trans' f4 fun i hi e => by omega
  have s24 := g24.size
  have s34 := f4.size
  have D4 := Dv4.blk b4
  refine ⟨fun h' => Grow h4 h', Fr.refl _ _, ?_⟩
  have Dh : ∀ h', Grow h4 h' → Dv4 h' ⟨h2.size, 0, none⟩ v := fun h' hs => Dv4.blk (hs.blk b4 fun h => h)
  refine ⟨v.nm, v.lf, v.ts, v.fs, fun h' hs => (Dh h' hs).1, fun h' hs => (Dh h' hs).2.1, fun h' hs => (Dh h' hs).2.2.1, fun h' hs => (Dh h' hs).2.2.2, ?_⟩
  refine ⟨v.lf, fun h' hs => (Dh h' hs).2.1, ldS_i (s := v.ts) D4.2.2.1 ?_⟩
  have hvl : 0 ≤ v.lf ∧ v.lf ≤ 100 := by rw [da.lf]; exact ⟨hl0, hl1⟩
  have htn := da.tys.len
  have hN : IntKind.i64.wrap ((if (if 100 < v.lf then 100 else v.lf) > 0 then (if 100 < v.lf then 100 else v.lf) else 0) + ((v.ts.n : Nat) : Int)) = (((ds[j].lf.toNat + ds[j].tys.length : Nat)) : Int) := by
    rw [clamp_id hvl.1 hvl.2, wrap64_id (by omega) (by omega), htn, da.lf]
    omega
  rw [hN]
  refine mkI (by omega) fun so h5 o5 f5 own5 z5 n5 => ?_
  refine ⟨f5, ?_⟩
  rintro p30 h6 rfl rfl
  have b6 := blk.new h5 #[Value.string v.nm, Value.int .i64 v.lf, Value.slice v.ts.a v.ts.n v.ts.c, Value.slice v.fs.a v.fs.n v.fs.c, Value.map w, Value.slice so.a so.n so.c] 66
  have f6 : Grow h5 (h5.push (.cells #[Value.string v.nm, Value.int .i64 v.lf, Value.slice v.ts.a v.ts.n v.ts.c, Value.slice v.fs.a v.fs.n v.fs.c, Value.map w, Value.slice so.a so.n so.c] 66)) := Fr.push _ _ _
  have z6' : (h5.push (.cells #[Value.string v.nm, Value.int .i64 v.lf, Value.slice v.ts.a v.ts.n v.ts.c, Value.slice v.fs.a v.fs.n v.fs.c, Value.map w, Value.slice so.a so.n so.c] 66)).size = h5.size + 1 := by simp
  generalize h5.push (.cells #[Value.string v.nm, Value.int .i64 v.lf, Value.slice v.ts.a v.ts.n v.ts.c, Value.slice v.fs.a v.fs.n v.fs.c, Value.map w, Value.slice so.a so.n so.c] 66) = h6 at *
  have B6 := (f5.trans f6).blk b4 fun h => h
  refine ldI_i (Dv4.blk B6).2.1 ?_
  rw [add_plain]
  refine sto_i b6 (by simp) ?_
  rw [clamp_id hvl.1 hvl.2]
  have b7 : blk (sc h6 ⟨h5.size, 0 + 1, none⟩ (.int .i64 v.lf)) h5.size #[Value.string v.nm, Value.int .i64 v.lf, Value.slice v.ts.a v.ts.n v.ts.c, Value.slice v.fs.a v.fs.n v.fs.c, Value.map w, Value.slice so.a so.n so.c] := b6.sc 1 (.int .i64 v.lf)
  have f7 : Fr (fun b => b = h5.size) h6 (sc h6 ⟨h5.size, 0 + 1, none⟩ (.int .i64 v.lf)) := Fr.scb _ _ _ _
  have z7 : (sc h6 ⟨h5.size, 0 + 1, none⟩ (.int .i64 v.lf)).size = h6.size := sc_size _ _ _
  generalize sc h6 ⟨h5.size, 0 + 1, none⟩ (.int .i64 v.lf) = h7 at *
  have g57 : Grow h5 h7 := f6.trans' f7 fun i hi e => by omega
  have g47 : Grow h4 h7 := f5.trans g57
  have g7 : Grow h h7 := g2.trans (g24.trans g47)
  have s7 := g7.size
  have s2 := g2.size
  have B7 := g47.blk b4 fun h => h
  refine ldS_i (s := v.fs) (Dv4.blk B7).2.2.2 ?_
  have x7 : FAt Q h7 h5.size v.nm ds[j].lf.toNat v.ts v.fs w so h4.size ds[j].tys W (List.replicate (ds[j].lf.toNat + ds[j].tys.length) 0) := by
    refine ⟨?_, o5.frame g57 fun _ _ h => h, htn, fun i hi => ?_, hw.fr g7 fun _ _ h => h, by simp, by omega, fun b hb => ?_, fun e => ?_⟩
    · have : ((ds[j].lf.toNat : Nat) : Int) = v.lf := by rw [da.lf]; omega
      rw [this]; exact b7
    · obtain ⟨q, e, k, c⟩ := da.tys.at_ i hi
      exact ⟨q, e, k, g7.clk c fun h => h⟩
    · have := hQ b hb
      have := f5.size
      exact ⟨by omega, fun e => by have := own5 b e; omega⟩
    · have := own5 _ e; omega
  have hfl7 := da.flds.fr g7 fun _ _ h => h
  have hfn : v.fs.n = ds[j].flds.length := (tyAt_iff.1 da.flds).2.2.2.2.2.1
  have hnso : ∀ b, Q b → ¬ so.own b := fun b hb e => by have := hQ b hb; have := own5 b e; omega
  refine ⟨fun i h' => ∃ k : Nat, i = k ∧ k ≤ ds[j].flds.length ∧ Fr so.own h7 h' ∧ FAt Q h' h5.size v.nm ds[j].lf.toNat v.ts v.fs w so h4.size ds[j].tys W (argsW (seeW ds[j].lf.toNat ds[j].tys W) (fun _ => 1) 0 (ds[j].flds.take k) (List.replicate (ds[j].lf.toNat + ds[j].tys.length) 0)), fun i _ => ds[j].flds.length - i.toNat, ⟨0, rfl, Nat.zero_le _, Fr.refl _ _, x7⟩, ?_⟩
  rintro _ h8 ⟨k, rfl, hk, f8, x8⟩
  rw [hfn]
  refine ifb_iff (q := k < ds[j].flds.length) (by simp) (fun hkl => ?_) (fun hkl => ?_)
  · refine args_get (v := ⟨0, ⟨#[]⟩, false, 0, ⟨none, 0, 0⟩, v.fs⟩) (hfl7.fr f8 hnso) hkl fun u hu => ?_
    refine newz fun h9 b9 f9 z9 => sto6 (v := u) b9 rfl fun h10 b10 f10 => ?_
    have g810 : Grow h8 h10 := f9.trans' f10 fun i hi e => by omega
    refine rd6 (Tv6.blk b10) ?_
    refine cal_of (see_spec ds[j].flds[k] 100 (by omega) (hsf _ (List.getElem_mem hkl)) Q u 1 h10 _ hnso (hu.grow g810) (x8.fr g810)) ?_
    rintro _ h11 ⟨f11, x11⟩
    rw [wrap_succ hkl (by omega)]
    refine ⟨⟨k + 1, rfl, hkl, f8.trans ((g810.mono fun _ _ e => e.elim).trans f11), ?_⟩, by simp; omega⟩
    rw [List.take_succ_eq_append_getElem hkl, argsW_snoc]
    exact x11
  have hke : k = ds[j].flds.length := by omega
  subst hke
  rw [List.take_length] at x8
  have x8' : FAt Q h8 h5.size v.nm ds[j].lf.toNat v.ts v.fs w so h4.size ds[j].tys W (onceD W ds[j]) := x8
  have s8 := f8.size
  have s5 := f5.size
  have g78 : Fr (fun b => b = h4.size) h7 h8 := f8.mono fun i hi e => own5 i e
  have B8 := g78.blk B7 (by omega)
  refine ⟨_, (Dv4.blk B8).1, ldS_i (s := so) x8.cells.2.2.2 ?_⟩
  -- the map
  have g27 : Grow h2 h7 := g24.trans g47
  have s27 := g27.size
  have f28 : Fr (fun b => b = h4.size) h2 h8 := (g27.mono fun _ _ e => e.elim).trans g78
  have x28 := x2.fr f28 fun b hb hlt e => by omega
  have s28 := f28.size
  have g28 : Grow h h8 := g2.trans' f28 fun i hi e => by omega
  obtain ⟨es, Lm, c, e1, e2, e3, e4, e5, e6⟩ := x28
  refine ⟨h.size, Lm, c, _, rfl, e2, e4, ?_⟩
  rintro h12 L' c' rfl hL' hst
  have f12 : Fr (fun b => b = h.size) h8 (h8.setIfInBounds h.size (.map L' c')) := by
    refine ⟨by simp, fun b hb hne => ?_⟩
    rw [Array.getElem?_setIfInBounds, if_neg fun e => hne e.symm]
  have hm12 : (h8.setIfInBounds h.size (.map L' c'))[h.size]? = some (.map L' c') := by
    rw [Array.getElem?_setIfInBounds, if_pos rfl, if_pos (by omega)]
  have z12 : (h8.setIfInBounds h.size (.map L' c')).size = h8.size := by simp
  generalize h8.setIfInBounds h.size (.map L' c') = h12 at *
  rw [wrap_succ hl (by omega)]
  have hone : onceW W (ds.take (j + 1)) = updL ds[j].nm (onceD W ds[j]) (onceW W (ds.take j)) := by
    unfold onceW
    rw [List.take_succ_eq_append_getElem hl, List.foldl_append]
    rfl
  refine ⟨⟨j + 1, rfl, hl, g28.trans' f12 fun i hi e => by omega, by omega, updX v.nm so (onceD W ds[j]) es, L', c', ?_, hm12, Nat.le_refl _, ?_, hst e5, fun e he => ?_⟩, by simp; omega⟩
  · rw [hone, updX_W, ← e1, da.nm]
  · rw [updX_V]; exact hL'
  · rcases updX_mem he with he | rfl
    · obtain ⟨q1, q2⟩ := e6 e he
      exact ⟨(q1.fr f12 fun b hb e => hb.2.1 e).weak fun b hb _ => ⟨hb.1, hb.2.1, by omega⟩, q2⟩
    · refine ⟨IntsQ.of (own_ints (x8'.own_.frame f12 fun b hb e => by have := own5 b hb; omega)) fun b hb hlt => ?_, by rw [onceD_len]; omega⟩
      have := own5 b hb
      exact ⟨by omega, by omega, hlt⟩
end Go.Proofs.Yteaidgpiolakcaa

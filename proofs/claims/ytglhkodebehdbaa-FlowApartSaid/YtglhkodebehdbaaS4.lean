/-
  Sets of facts: new ones, and what is behind a node.
-/
import Derived.Test.YtglhkodebehdbaaS3
namespace Go.Proofs.Ytglhkodebehdbaa
open Go Go.Lf

theorem made_words (h : Heap) (nw : Nat) : WordsAt (h.push (.cells (madeCells (Value.int .u64 0).cells (nw * 1)) 36)) h.size nw (fun _ => false) := by
  refine ⟨_, blk.new _ _ _, by rw [size_madeCells, Nat.mul_one], fun k hk => ⟨0#64, ?_, fun b _ => by simp⟩⟩
  rw [made_get _ rfl, if_pos (by omega)]
  rfl

/-- one row's words into another one's -/
theorem copy_words {h : Heap} {g1 g2 nw c1 c2 : Nat} {f1 f2 : Nat → Bool} (W1 : WordsAt h g1 nw f1) (W2 : WordsAt h g2 nw f2) {K : Int → Heap → Prop}
    (k : ∀ i h', WordsAt h' g1 nw f2 → Fr (fun b => b = g1) h h' → K i h') : cpS 1 h ⟨some ⟨g1, 0, none⟩, nw, c1⟩ ⟨some ⟨g2, 0, none⟩, nw, c2⟩ K := by
  obtain ⟨cs1, k1, s1, -⟩ := W1
  obtain ⟨cs2, k2, s2, r2⟩ := W2
  refine ⟨cs2.toList, by simp [s2], fun j v hv => ?_, fun u hu => ?_, fun p hp j hj => ?_, ?_⟩
  · rw [add_plain, Nat.zero_add, k2.cl]
    simpa using hv
  · obtain ⟨i, hi, e⟩ := List.getElem_of_mem hu
    obtain ⟨w, c, _⟩ := r2 i (by simpa [s2] using hi)
    have : cs2[i]? = some u := by rw [← e]; simp
    rw [this] at c
    cases c
    rfl
  · cases hp
    rw [add_plain, Nat.zero_add, k1.cl, k1.fz]
    have : j < cs1.size := by simpa [s1, s2] using hj
    simp [this]
  · rintro h' rfl
    obtain ⟨kk, ff⟩ := scs_blk g1 cs2.toList h cs1 0 0 k1
    refine k _ _ ⟨_, kk, ?_, ?_⟩ ff
    · have := congrArg List.length (fold_set cs2.toList cs1 (0 + 0) (by simp [s1, s2]))
      simp [s1, s2] at this
      simpa using this
    · have e := fold_set cs2.toList cs1 (0 + 0) (by simp [s1, s2])
      have e' : ((cs2.toList.zipIdx (0 + 0)).foldl (fun c p => c.setIfInBounds p.2 p.1) cs1) = cs2 := by
        apply Array.ext'
        rw [e]
        simp [s1, s2]
      rw [e']
      exact r2

theorem through_spec {h0 h : Heap} {a0 : Sv} {a1 : Int} {a2 a3 a4 : Sv} {p : Pb} (x : PbAt h0 a0 a1 a2 a3 a4 p) (B : p.Bd) (g0 : Grow h0 h) {g nw c : Nat} {f : Nat → Bool} (W : WordsAt h g nw f)
    (hg : ∀ l ∈ p.g, ∀ y ∈ l, 0 ≤ y ∧ y < ((64 * nw : Nat) : Int)) (hk : ∀ l ∈ p.k, ∀ y ∈ l, 0 ≤ y ∧ y < ((64 * nw : Nat) : Int)) (hnw : nw ≤ 1000000) (i : Nat) :
    CallsH Try.prog 25 #[pbV a0 a1 a2 a3 a4, .int .i64 i, .slice (some ⟨g, 0, none⟩) nw c] h (fun v h' => ∃ g', v = .slice (some ⟨g', 0, none⟩) nw nw ∧ h.size ≤ g' ∧
      WordsAt h' g' nw (fun e => decide ((e : Int) ∈ at_ p.g i) || (f e && !decide ((e : Int) ∈ at_ p.k i))) ∧ Grow h h') := by
  have F := @F25 a0 a1 a2 a3 a4 i ⟨some ⟨g, 0, none⟩, nw, c⟩ h
  refine F ?_
  unfold L25
  rintro p3 h1 rfl rfl
  have f1 : Grow h (h.push (.cells (pbC a0 a1 a2 a3 a4) 25)) := Fr.push _ _ _
  have kb := blk.new h (pbC a0 a1 a2 a3 a4) 25
  have e1 : h.push (.cells #[.slice a0.a a0.n a0.c, .int .i64 a1, .slice a2.a a2.n a2.c, .slice a3.a a3.n a3.c, .slice a4.a a4.n a4.c] 25) = h.push (.cells (pbC a0 a1 a2 a3 a4) 25) := rfl
  rw [e1]
  have hs1 : (h.push (.cells (pbC a0 a1 a2 a3 a4) 25)).size = h.size + 1 := by simp
  generalize h.push (.cells (pbC a0 a1 a2 a3 a4) 25) = h1 at *
  have hin : ∀ {ls : List (List Int)}, (∀ l ∈ ls, ∀ y ∈ l, 0 ≤ y ∧ y < ((64 * nw : Nat) : Int)) → ∀ y ∈ at_ ls i, 0 ≤ y ∧ y < ((64 * nw : Nat) : Int) := by
    intro ls hls y hy
    rcases Nat.lt_or_ge i ls.length with hi | hi
    · rw [at_lt hi] at hy; exact hls _ (List.getElem_mem hi) y hy
    · rw [at_ge hi] at hy; cases hy
  have hlen : ∀ {ls : List (List Int)}, (∀ l ∈ ls, l.length ≤ 1000000) → (at_ ls i).length ≤ 1000000 := by
    intro ls hls
    rcases Nat.lt_or_ge i ls.length with hi | hi
    · rw [at_lt hi]; exact hls _ (List.getElem_mem hi)
    · rw [at_ge hi]; simp
  refine ⟨by omega, by omega, by show ((8 : Nat) : Int) * ((nw : Nat) : Int) ≤ _; omega, by show ((nw : Nat) : Int) ≤ _; omega, ?_⟩
  rintro s12 h2 rfl rfl
  simp only [Int.toNat_natCast]
  have f2 : Grow h1 (h1.push (.cells (madeCells (Value.int .u64 0).cells (nw * 1)) 36)) := Fr.push _ _ _
  have W2 := made_words h1 nw
  have hlt1 := kb.lt
  refine copy_words W2 ((W.frame f1 (fun h => h)).frame f2 (fun h => h)) fun m h3 W3 f3 => ?_
  generalize h1.push (.cells (madeCells (Value.int .u64 0).cells (nw * 1)) 36) = h2 at *
  have f12 : Grow h h3 := (f1.trans f2).trans' f3 fun j hj e => by omega
  have kb3 := f3.blk (f2.blk kb (fun h => h)) (fun e => by omega)
  have hsz := g0.size
  refine ldS_i (s := a3) (by rw [add_plain, kb3.cl]; rfl) ?_
  refine cal_of (list_spec x.k (g0.trans f12) i) ?_
  rintro _ _ ⟨rfl, t, rfl, yt⟩
  refine ⟨t, rfl, ?_⟩
  have htn := yt.len
  have hkin := hin hk
  have hkl := hlen B.k1
  generalize hks : at_ p.k i = ks at *
  refine ⟨fun y h5 => ∃ j : Nat, y = j ∧ j ≤ ks.length ∧ WordsAt h5 h1.size nw (fun e => f e && !decide ((e : Int) ∈ ks.take j)) ∧ Fr (fun b => b = h1.size) h3 h5, fun y _ => (ks.length - y).toNat,
    ⟨0, rfl, by omega, W3.congr (by simp), Fr.refl _ _⟩, ?_⟩
  rintro y h5 ⟨j, rfl, hj, W5, f5⟩
  refine ifb_dec (fun hlt => ?_) (fun hge => ?_)
  · have hjl : j < ks.length := by omega
    have hwj : IntKind.i64.wrap ((j : Int) + 1) = ((j + 1 : Nat) : Int) := by rw [wrap64_id (by omega) (by omega)]; omega
    have f15 : Grow h h5 := f12.trans' f5 fun j hj e => by omega
    refine (yt.keep (g0.trans f15) fun _ _ h => h).get hjl ?_
    obtain ⟨m', em⟩ := Int.eq_ofNat_of_zero_le (hkin _ (List.getElem_mem hjl)).1
    have hm := (hkin _ (List.getElem_mem hjl)).2
    rw [em] at hm ⊢
    have hb : m' % 64 < 64 := by omega
    rw [div_word (by omega), mod_word]
    obtain ⟨w, cw, hw⟩ := W5.cell (k := m' / 64) (by omega)
    refine ixS_i rfl (by omega) (by show ((m' / 64 : Nat) : Int) < (nw : Int); omega) (ldI_i (x := (w.toNat : Int)) (by simpa only [add_plain, Int.toNat_natCast, Nat.zero_add, Nat.mul_one] using cw) ⟨by omega, ?_⟩)
    refine ixS_i rfl (by omega) (by show ((m' / 64 : Nat) : Int) < (nw : Int); omega) ?_
    rw [Int.toNat_natCast, Int.toNat_natCast, one_word hb, bitsI_andNot, add_plain, Nat.zero_add, Nat.mul_one]
    refine W5.put (by omega) _ fun h6 W6 f6 => ⟨⟨j + 1, hwj, by omega, W6.congr fun e he => ?_, f5.trans f6⟩, by rw [hwj]; (try dsimp only); omega⟩
    rw [List.take_succ_eq_append_getElem hjl, em]
    by_cases e1 : e / 64 = m' / 64
    · have h3 := hw (e % 64) (by omega)
      have e2 : 64 * (m' / 64) + e % 64 = e := by omega
      have e3 : e % 64 < 64 := by omega
      rw [e2] at h3
      rw [if_pos e1, BitVec.getLsbD_and, BitVec.getLsbD_not, h3, one_bit hb, Bool.eq_iff_iff]
      have : e % 64 = m' % 64 ↔ (e : Int) = m' := by omega
      simp [this, e3, and_assoc]
    · rw [if_neg e1, Bool.eq_iff_iff]
      have : ¬ (e : Int) = m' := fun h => e1 (by have : e = m' := by omega
                                                 rw [this])
      simp [this]
  · have : j = ks.length := by omega
    subst this
    rw [List.take_length] at W5
    have f15 : Grow h h5 := f12.trans' f5 fun j hj e => by omega
    have kb5 := f5.blk kb3 (fun e => by omega)
    refine ldS_i (s := a2) (by rw [add_plain, kb5.cl]; rfl) ?_
    refine cal_of (list_spec x.g (g0.trans f15) i) ?_
    rintro _ _ ⟨rfl, t', rfl, yt'⟩
    refine ⟨t', rfl, ?_⟩
    refine cal_of (put_spec yt' (g0.trans f15) (by omega) W5 (hin hg) hnw (hlen B.g1)) ?_
    rintro _ h8 ⟨W8, f8⟩
    refine ⟨h1.size, rfl, by omega, W8.congr fun e _ => ?_, f15.trans' f8 fun j hj e => by omega⟩
    rw [Bool.or_comm]
end Go.Proofs.Ytglhkodebehdbaa

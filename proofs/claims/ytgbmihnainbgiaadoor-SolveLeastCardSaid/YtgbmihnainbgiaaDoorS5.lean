/-
  New, walked.
-/
import Derived.Test.YtgbmihnainbgiaaDoorS4
namespace Go.Proofs.YtgbmihnainbgiaaDoor
open Go Go.Lf

def newOk (n W : Int) : Prop := 0 ≤ n ∧ n ≤ 1501 ∧ 0 ≤ W ∧ W ≤ 2700
instance (n W : Int) : Decidable (newOk n W) := by unfold newOk; exact inferInstance
/-- a box that is being filled -/
structure NewOk (bs ob ib n W : Nat) (h0 h : Heap) (k : Nat) (tb : Sv) (rb w : Nat → Nat) : Prop where
  box : blk h bs #[.int .i64 n, .int .i64 W, .slice tb.a tb.n tb.c, .slice (some ⟨ob, 0, none⟩) n n, .slice none 0 0, .slice (some ⟨ib, 0, none⟩) n n]
  tbl : Own h 0 1 tb ((List.range k).map fun i => .slice (some ⟨rb i, 0, none⟩) ((W + 63) / 64) ((W + 63) / 64))
  row : ∀ i, i < k → WordsAt h (rb i) ((W + 63) / 64) (fun _ => false)
  obk : ∃ cs, blk h ob cs ∧ cs.size = n ∧ ∀ i, i < n → cs[i]? = some (.slice none 0 0)
  inn : BoolsAt h ib n (fun _ => false)
  w0 : ∀ b, h.size ≤ b → w b = 0
  w1 : w bs = 1
  w2 : ∀ b, tb.own b → w b = 2
  w3 : w ob = 3
  w4 : w ib = 4
  w6 : ∀ i, i < k → w (rb i) = 6 + 2 * i
  wl : ∀ b, b < h0.size → w b = 0
  gr : Grow h0 h

theorem new_spec (h : Heap) (n W : Int) : CallsH Tryd.prog 12 #[.int .i64 n, .int .i64 W] h (fun v h' => (¬ newOk n W → v = .tuple #[.pointer none, .int .i64 14] ∧ h = h') ∧
    (newOk n W → ∃ (x : Sh) (d : Sd), v = .tuple #[.pointer (some ⟨x.bs, 0, none⟩), .int .i64 0] ∧ (x.n : Int) = n ∧ (x.W : Int) = W ∧ SolOk x d h' ∧ Tol x (fun _ _ => False) (fun _ _ => False) 0 d ∧ Grow h h' ∧ ∀ b, b < h.size → d.w b = 0)) := by
  apply F12
  unfold L12
  refine ifb_iff (q := ¬ newOk n W) (by simp [newOk]; omega) (fun hq => ⟨fun _ => ⟨rfl, rfl⟩, fun h => absurd h hq⟩) (fun hq => ?_)
  have hq : newOk n W := Classical.not_not.1 hq
  obtain ⟨n, rfl⟩ := Int.eq_ofNat_of_zero_le hq.1
  obtain ⟨W, rfl⟩ := Int.eq_ofNat_of_zero_le hq.2.2.1
  have hn : n ≤ 1501 := by have := hq.2.1; omega
  have hW : W ≤ 2700 := by have := hq.2.2.2; omega
  refine ⟨fun p h7 => ∃ bs ob ib, p = some ⟨bs, 0, none⟩ ∧ blk h7 bs #[.int .i64 n, .int .i64 W, .slice none 0 0, .slice (some ⟨ob, 0, none⟩) n n, .slice none 0 0, .slice (some ⟨ib, 0, none⟩) n n] ∧
      (∃ cs, blk h7 ob cs ∧ cs.size = n ∧ ∀ i, i < n → cs[i]? = some (.slice none 0 0)) ∧ BoolsAt h7 ib n (fun _ => false) ∧ h.size ≤ ob ∧ h.size ≤ ib ∧ ob < bs ∧ ib < bs ∧ ob ≠ ib ∧ Grow h h7, ⟨?_, ?_⟩, ?_⟩
  · refine ⟨by omega, by omega, by show ((24 : Nat) : Int) * ((n : Nat) : Int) ≤ _; omega, by omega, ?_⟩
    rintro s24 h1 rfl rfl
    simp only [Int.toNat_natCast]
    have f1 : Grow h (h.push (.cells (madeCells (Value.slice none 0 0).cells (n * 1)) 29)) := Fr.push _ _ _
    have k1 := blk.new h (madeCells (Value.slice none 0 0).cells (n * 1)) 29
    have z1 : (h.push (.cells (madeCells (Value.slice none 0 0).cells (n * 1)) 29)).size = h.size + 1 := by simp
    generalize h.push (.cells (madeCells (Value.slice none 0 0).cells (n * 1)) 29) = h1 at *
    refine ⟨by omega, by omega, by show ((1 : Nat) : Int) * ((n : Nat) : Int) ≤ _; omega, by omega, ?_⟩
    rintro s26 h2 rfl rfl
    simp only [Int.toNat_natCast]
    have f2 : Grow h1 (h1.push (.cells (madeCells (Value.bool false).cells (n * 1)) 4)) := Fr.push _ _ _
    have B2 := made_bools (E := 4) h1 n
    have z2 : (h1.push (.cells (madeCells (Value.bool false).cells (n * 1)) 4)).size = h1.size + 1 := by simp
    generalize h1.push (.cells (madeCells (Value.bool false).cells (n * 1)) 4) = h2 at *
    rintro p28 h3 rfl rfl
    have f3 : Grow h2 (h2.push (.cells #[.int .i64 n, .int .i64 W, .slice none 0 0, .slice (some ⟨h.size, 0, none⟩) n n, .slice none 0 0, .slice (some ⟨h1.size, 0, none⟩) n n] 50)) := Fr.push _ _ _
    refine ⟨h2.size, h.size, h1.size, rfl, blk.new _ _ _, ⟨_, f3.blk (f2.blk k1 fun h => h) fun h => h, by rw [size_madeCells, Nat.mul_one], fun i hi => ?_⟩, B2.frame f3 fun h => h, by omega, by omega, by omega, by omega, by omega, (f1.trans f2).trans f3⟩
    rw [made_get _ rfl, if_pos (by omega)]
  · refine ⟨by omega, by omega, by show ((1 : Nat) : Int) * ((n : Nat) : Int) ≤ _; omega, by omega, ?_⟩
    rintro s26 h1 rfl rfl
    simp only [Int.toNat_natCast]
    have f1 : Grow h (h.push (.cells (madeCells (Value.bool false).cells (n * 1)) 4)) := Fr.push _ _ _
    have B1 := made_bools (E := 4) h n
    have z1 : (h.push (.cells (madeCells (Value.bool false).cells (n * 1)) 4)).size = h.size + 1 := by simp
    generalize h.push (.cells (madeCells (Value.bool false).cells (n * 1)) 4) = h1 at *
    refine ⟨by omega, by omega, by show ((24 : Nat) : Int) * ((n : Nat) : Int) ≤ _; omega, by omega, ?_⟩
    rintro s24 h2 rfl rfl
    simp only [Int.toNat_natCast]
    have f2 : Grow h1 (h1.push (.cells (madeCells (Value.slice none 0 0).cells (n * 1)) 29)) := Fr.push _ _ _
    have k2 := blk.new h1 (madeCells (Value.slice none 0 0).cells (n * 1)) 29
    have z2 : (h1.push (.cells (madeCells (Value.slice none 0 0).cells (n * 1)) 29)).size = h1.size + 1 := by simp
    generalize h1.push (.cells (madeCells (Value.slice none 0 0).cells (n * 1)) 29) = h2 at *
    rintro p28 h3 rfl rfl
    have f3 : Grow h2 (h2.push (.cells #[.int .i64 n, .int .i64 W, .slice none 0 0, .slice (some ⟨h1.size, 0, none⟩) n n, .slice none 0 0, .slice (some ⟨h.size, 0, none⟩) n n] 50)) := Fr.push _ _ _
    refine ⟨h2.size, h1.size, h.size, rfl, blk.new _ _ _, ⟨_, f3.blk k2 fun h => h, by rw [size_madeCells, Nat.mul_one], fun i hi => ?_⟩, (B1.frame f2 fun h => h).frame f3 fun h => h, by omega, by omega, by omega, by omega, by omega, (f1.trans f2).trans f3⟩
    rw [made_get _ rfl, if_pos (by omega)]
  rintro _ h7 ⟨bs, ob, ib, rfl, kb, ko, kB, l1, l2, l3, l4, l5, f7⟩
  refine ⟨fun y h8 => ∃ k tb rb w, y = ((k : Nat) : Int) ∧ k ≤ n ∧ NewOk bs ob ib n W h h8 k tb rb w, fun y _ => (n - y).toNat,
    ⟨0, ⟨none, 0, 0⟩, fun _ => 0, fun b => if b = bs then 1 else if b = ob then 3 else if b = ib then 4 else 0, rfl, by omega, kb, Own.nil _ _ _, fun i hi => (by omega), ko, kB, fun b hb => ?_, by simp, fun b hb => ?_, ?_, ?_, fun i hi => (by omega), fun b hb => ?_, f7⟩, ?_⟩
  · have := kb.lt
    rw [if_neg (by omega), if_neg (by omega), if_neg (by omega)]
  · obtain ⟨a, ea, _⟩ := hb; cases ea
  · rw [if_neg (by omega), if_pos rfl]
  · rw [if_neg (by omega), if_neg (by omega), if_pos rfl]
  · rw [if_neg (by omega), if_neg (by omega), if_neg (by omega)]
  rintro y h8 ⟨k, tb, rb, w, rfl, hk, A⟩
  have htl : tb.n = k := by have := A.tbl.len; simp at this; omega
  refine ifb_dec (fun hlt => ?_) (fun hge => ?_)
  · have hkn : k < n := by omega
    have hwk : IntKind.i64.wrap ((k : Int) + 1) = ((k + 1 : Nat) : Int) := by rw [wrap64_id (by omega) (by omega)]; omega
    have ct : cl h8 ⟨bs, 2, none⟩ = some (.slice tb.a tb.n tb.c) := by rw [A.box.cl]; rfl
    refine ⟨Grow h8, Fr.refl _ _, nn_i ⟨tb, fun h' g => by rw [add_plain]; exact g.clk ct (fun h => h), ?_⟩⟩
    have hnw : IntKind.i64.wrap ((IntKind.i64.wrap ((W : Int) + 63)).tdiv 64) = (((W + 63) / 64 : Nat) : Int) := by
      rw [wrap64_id (x := (W : Int) + 63) (by omega) (by omega), Int.tdiv_eq_ediv_of_nonneg (by omega), wrap64_id (by omega) (by omega)]
      omega
    rw [hnw]
    obtain ⟨bx, tl, rw8, ob8, in8, w0, w1, w2, w3, w4, w6, wl, gr⟩ := A
    have hnw2 : (W + 63) / 64 ≤ 1000 := by omega
    generalize hnwe : (W + 63) / 64 = nw at *
    refine ⟨by omega, by omega, by show ((8 : Nat) : Int) * ((nw : Nat) : Int) ≤ _; omega, by omega, ?_⟩
    rintro s40 h9 rfl rfl
    simp only [Int.toNat_natCast]
    have f9 : Grow h8 (h8.push (.cells (madeCells (Value.int .u64 0).cells (nw * 1)) 51)) := Fr.push _ _ _
    have W9 := made_words (E := 51) h8 nw
    have z9 : (h8.push (.cells (madeCells (Value.int .u64 0).cells (nw * 1)) 51)).size = h8.size + 1 := by simp
    refine ⟨f9, ?_⟩
    generalize h8.push (.cells (madeCells (Value.int .u64 0).cells (nw * 1)) 51) = h9 at *
    rintro s41 h10 rfl rfl
    have f10 : Grow h9 (h9.push (.cells #[.slice (some ⟨h8.size, 0, none⟩) nw nw] 45)) := Fr.push _ _ _
    refine ⟨f9.trans f10, ?_⟩
    refine app1 (E := 45) (vs := #[.slice (some ⟨h8.size, 0, none⟩) nw nw]) (h := h9) (B := 0) (sz := 1) rfl (tl.frame f9 fun _ _ h => h) rfl (by simp [Value.oneCell']) (by omega) (by omega) (by omega) ?_ _ _ rfl rfl
    intro s' h11 _ o11 f11 hown
    have no : ∀ b, w b ≠ 2 → ¬ tb.own b := fun b hb ho => hb (w2 b ho)
    have b11 := f11.blk (f9.blk bx fun h => h) (no _ (by rw [w1]; omega))
    refine nn_i ?_
    rw [add_plain]
    refine sto_i b11 (by show 2 < 6; omega) ?_
    have f12 : Fr (fun b => b = bs) h11 (sc h11 ⟨bs, 0 + 2, none⟩ (.slice s'.a s'.n s'.c)) := Fr.scb _ _ _ _
    have b12 := b11.sc 2 (.slice s'.a s'.n s'.c)
    have z12 : (sc h11 ⟨bs, 0 + 2, none⟩ (.slice s'.a s'.n s'.c)).size = h11.size := by rw [sc_size]
    rw [Nat.zero_add] at *
    generalize sc h11 ⟨bs, 2, none⟩ (.slice s'.a s'.n s'.c) = h12 at *
    have ne : ∀ b, w b ≠ 1 → b ≠ bs := fun b hb e => hb (by rw [e]; exact w1)
    have hbs := bx.lt
    have hs11 := f11.size
    have lt8 : ∀ b, w b ≠ 0 → b < h8.size := fun b hb => by
      rcases Nat.lt_or_ge b h8.size with e | e
      · exact e
      · exact absurd (w0 b e) hb
    have keepW : ∀ {g : Nat} {f : Nat → Bool}, WordsAt h9 g nw f → w g ≠ 2 → w g ≠ 1 → WordsAt h12 g nw f := fun x h2 h1 => (x.frame f11 (no _ h2)).frame f12 (ne _ h1)
    let w' : Nat → Nat := fun b => if b = h8.size then 6 + 2 * k else if h9.size ≤ b ∧ b < h12.size then 2 else w b
    have old : ∀ b, b < h8.size → w' b = w b := fun b hb => by
      show (if b = h8.size then 6 + 2 * k else if h9.size ≤ b ∧ b < h12.size then 2 else w b) = w b
      rw [if_neg (by omega), if_neg (by omega)]
    refine ⟨⟨k + 1, s', fun i => if i < k then rb i else h8.size, w', hwk, by omega, ?_⟩, by rw [hwk]; (try dsimp only); omega⟩
    obtain ⟨cs, c1, c2, c3⟩ := ob8
    refine ⟨b12, ?_, fun i hi => ?_, ⟨cs, f12.blk (f11.blk (f9.blk c1 fun h => h) (no _ (by rw [w3]; omega))) (ne _ (by rw [w3]; omega)), c2, c3⟩, ((in8.frame f9 fun h => h).frame f11 (no _ (by rw [w4]; omega))).frame f12 (ne _ (by rw [w4]; omega)),
      fun b hb => ?_, ?_, fun b hb => ?_, ?_, ?_, fun i hi => ?_, fun b hb => ?_, ?_⟩
    · rw [hnwe]
      have := o11.frame f12 (fun b hb e => by
        rcases hown b hb with h1 | h1
        · have := w2 b h1; rw [e, w1] at this; omega
        · omega)
      rw [List.range_succ, List.map_append]
      have e2 : (List.range k).map (fun i => Value.slice (some ⟨if i < k then rb i else h8.size, 0, none⟩) nw nw) = (List.range k).map (fun i => Value.slice (some ⟨rb i, 0, none⟩) nw nw) :=
        List.map_congr_left fun i hi => by rw [if_pos (List.mem_range.1 hi)]
      rw [e2]
      simpa using this
    · rw [hnwe]
      by_cases e : i < k
      · rw [if_pos e]
        exact keepW ((rw8 i e).frame f9 fun h => h) (by rw [w6 i e]; omega) (by rw [w6 i e]; omega)
      · rw [if_neg e]
        exact keepW W9 (by rw [w0 _ (Nat.le_refl _)]; omega) (by rw [w0 _ (Nat.le_refl _)]; omega)
    · show (if b = h8.size then 6 + 2 * k else if h9.size ≤ b ∧ b < h12.size then 2 else w b) = 0
      rw [if_neg (by omega), if_neg (by omega)]
      exact w0 b (by omega)
    · rw [old _ hbs]; exact w1
    · rcases hown b hb with h1 | h1
      · rw [old _ (lt8 b (by rw [w2 b h1]; omega))]; exact w2 b h1
      · show (if b = h8.size then 6 + 2 * k else if h9.size ≤ b ∧ b < h12.size then 2 else w b) = 2
        have := (o11.ge hb).2
        rw [if_neg (by omega), if_pos ⟨h1, by omega⟩]
    · rw [old _ (lt8 _ (by rw [w3]; omega))]; exact w3
    · rw [old _ (lt8 _ (by rw [w4]; omega))]; exact w4
    · by_cases e : i < k
      · rw [if_pos e, old _ (lt8 _ (by rw [w6 i e]; omega))]; exact w6 i e
      · rw [if_neg e]
        have : i = k := by omega
        subst this
        show (if h8.size = h8.size then 6 + 2 * i else _) = _
        rw [if_pos rfl]
    · have := gr.size
      rw [old _ (by omega)]; exact wl b hb
    · refine (((gr.trans f9).trans' f11 fun i hi ho => ?_)).trans' f12 fun i hi e => ?_
      · have h1 := w2 i ho
        rw [wl i hi] at h1; omega
      · rw [e] at hi
        have := wl bs hi
        rw [w1] at this; omega
  · have hkn : k = n := by omega
    subst hkn
    obtain ⟨bx, tl, rw8, ob8, in8, w0, w1, w2, w3, w4, w6, wl, gr⟩ := A
    refine ⟨fun h => absurd hq h, fun _ => ⟨⟨bs, tb, rb, ob, ib, k, W⟩, ⟨fun _ => ⟨none, 0, 0⟩, ⟨none, 0, 0⟩, w, fun _ _ => false, fun _ => [], [], fun _ => false⟩, rfl, rfl, rfl, ?_, ?_, gr, wl⟩⟩
    · refine ⟨bx, tl, rw8, ob8, fun i _ => Own.nil _ _ _, Own.nil _ _ _, in8, w0, w1, w2, w3, w4, fun b hb => ?_, w6, fun i _ b hb => ?_⟩
      · obtain ⟨a, ea, _⟩ := hb; cases ea
      · obtain ⟨a, ea, _⟩ := hb; cases ea
    · exact ⟨rfl, fun _ _ => rfl, fun b _ a => by simp, fun _ _ => by simp, fun e he => ⟨fun _ _ h => h.elim, fun _ _ _ _ h => h.elim⟩, fun _ _ _ _ _ _ h => by cases h⟩
end Go.Proofs.YtgbmihnainbgiaaDoor

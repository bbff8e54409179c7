/-
  What lies in memory as lists of ints and as words of bits; a count of a set.
-/
import Derived.Test.YtggacajnmgligaaLiftU
namespace Go.Lf
open Go

theorem add_block (p : Addr) (k : Nat) : (p.add k).block = p.block := by unfold Addr.add; split <;> rfl

/-! ### Lists -/
/-- a slice that reads as ints -/
structure IntsAt (h : Heap) (s : Sv) (xs : List Int) : Prop where
  len : s.n = xs.length
  at_ : ∀ i (hi : i < xs.length), ∃ p, s.a = some p ∧ cl h (p.add (i * 1)) = some (.int .i64 xs[i])
theorem IntsAt.frame {h h' : Heap} {s : Sv} {xs : List Int} {T : Nat → Prop} (x : IntsAt h s xs) (f : Fr T h h') (hT : ∀ b, s.own b → ¬ T b) : IntsAt h' s xs := by
  refine ⟨x.len, fun i hi => ?_⟩
  obtain ⟨p, e, c⟩ := x.at_ i hi
  exact ⟨p, e, f.clk c (by rw [add_block]; exact hT _ ⟨p, e, rfl⟩)⟩
theorem IntsAt.keep {h h' : Heap} {s : Sv} {xs : List Int} {T : Nat → Prop} (x : IntsAt h s xs) (f : Fr T h h') (hT : ∀ b, b < h.size → ¬ T b) : IntsAt h' s xs := by
  refine ⟨x.len, fun i hi => ?_⟩
  obtain ⟨p, e, c⟩ := x.at_ i hi
  refine ⟨p, e, f.clk c (hT _ ?_)⟩
  unfold cl at c
  split at c
  · rename_i hb
    exact (Array.getElem?_eq_some_iff.1 hb).1
  · cases c
theorem IntsAt.nil (h : Heap) (c : Nat) (a : Option Addr) : IntsAt h ⟨a, 0, c⟩ [] := ⟨rfl, fun i hi => by simp at hi⟩
theorem IntsAt.ld {h : Heap} {s : Sv} {xs : List Int} (x : IntsAt h s xs) {i : Nat} (hi : i < xs.length) {K : Addr → Prop} (k : ∀ q, cl h (q.add (i * 1)) = some (.int .i64 xs[i]) → K q) : ixS s i K := by
  obtain ⟨p, e, c⟩ := x.at_ i hi
  exact ⟨p, e, by omega, by rw [x.len]; omega, k p c⟩
theorem IntsAt.get {h : Heap} {s : Sv} {xs : List Int} (x : IntsAt h s xs) {i : Nat} (hi : i < xs.length) {K : Int → Prop} (k : K xs[i]) : ixS s i fun q => ldI .i64 h (q.add ((i : Int).toNat * 1)) K :=
  x.ld hi fun _ c => ⟨_, by rw [Int.toNat_natCast]; exact c, k⟩
def ints (xs : List Int) : List Value := xs.map (.int .i64)
theorem own_ints {h : Heap} {B : Nat} {s : Sv} {xs : List Int} (o : Own h B 1 s (ints xs)) : IntsAt h s xs := by
  have hl : s.n = xs.length := by have := o.len; simp [ints] at this; omega
  refine ⟨hl, fun i hi => ?_⟩
  rcases o.mem with ⟨_, e, _⟩ | ⟨g, cur, e, _⟩
  · omega
  · have hr := o.row
    rw [e] at hr
    exact ⟨_, e, by have := hr i (.int .i64 xs[i]) (by simp [ints, hi]); rwa [Nat.mul_one]⟩
theorem own_grown {h h2 h4 : Heap} {sz : Nat} {l : Sv} {xs : List Value} (o : Own h2 h.size sz l xs) (f : Grow h h2) (g : Fr l.own h2 h4) : Grow h h4 :=
  f.trans' g fun i hi ho => by have := (o.ge ho).1; omega

/-- a slice that reads as lists of ints -/
structure ListsAt (h : Heap) (s : Sv) (ls : List (List Int)) : Prop where
  len : s.n = ls.length
  at_ : ∀ i (hi : i < ls.length), ∃ p, s.a = some p ∧ ∃ t : Sv, cl h (p.add (i * 1)) = some t.v ∧ IntsAt h t ls[i]
theorem ListsAt.keep {h h' : Heap} {s : Sv} {ls : List (List Int)} {T : Nat → Prop} (x : ListsAt h s ls) (f : Fr T h h') (hT : ∀ b, b < h.size → ¬ T b) : ListsAt h' s ls := by
  refine ⟨x.len, fun i hi => ?_⟩
  obtain ⟨p, e, t, c, y⟩ := x.at_ i hi
  refine ⟨p, e, t, f.clk c (hT _ ?_), y.keep f hT⟩
  unfold cl at c
  split at c
  · rename_i hb
    exact (Array.getElem?_eq_some_iff.1 hb).1
  · cases c
theorem ListsAt.get {h : Heap} {s : Sv} {ls : List (List Int)} (x : ListsAt h s ls) {i : Nat} (hi : i < ls.length) {K : Sv → Prop} (k : ∀ t, IntsAt h t ls[i] → K t) : ixS s i fun q => ldS h (q.add ((i : Int).toNat * 1)) K := by
  obtain ⟨p, e, t, c, y⟩ := x.at_ i hi
  exact ⟨p, e, by omega, by rw [x.len]; omega, t, by rw [Int.toNat_natCast]; exact c, k t y⟩

/-! ### Words -/
/-- block `g` holds `nw` words, their bits `f` -/
def WordsAt (h : Heap) (g nw : Nat) (f : Nat → Bool) : Prop := ∃ cs : Array Value, blk h g cs ∧ cs.size = nw ∧ ∀ k, k < nw → ∃ w : BitVec 64, cs[k]? = some (.int .u64 (w.toNat : Int)) ∧ ∀ b, b < 64 → w.getLsbD b = f (64 * k + b)
theorem WordsAt.frame {h h' : Heap} {g nw : Nat} {f : Nat → Bool} {T : Nat → Prop} (x : WordsAt h g nw f) (fr : Fr T h h') (hT : ¬ T g) : WordsAt h' g nw f := by
  obtain ⟨cs, k, r⟩ := x
  exact ⟨cs, fr.blk k hT, r⟩
theorem WordsAt.lt {h : Heap} {g nw : Nat} {f : Nat → Bool} (x : WordsAt h g nw f) : g < h.size := by obtain ⟨cs, k, _⟩ := x; exact k.lt
theorem WordsAt.congr {h : Heap} {g nw : Nat} {f f' : Nat → Bool} (x : WordsAt h g nw f) (e : ∀ b, b < 64 * nw → f b = f' b) : WordsAt h g nw f' := by
  obtain ⟨cs, k, s, r⟩ := x
  refine ⟨cs, k, s, fun i hi => ?_⟩
  obtain ⟨w, c, hb⟩ := r i hi
  exact ⟨w, c, fun b hb' => by rw [hb b hb', e _ (by omega)]⟩
theorem WordsAt.cell {h : Heap} {g nw : Nat} {f : Nat → Bool} (x : WordsAt h g nw f) {k : Nat} (hk : k < nw) : ∃ w : BitVec 64, cl h ⟨g, k, none⟩ = some (.int .u64 (w.toNat : Int)) ∧ ∀ b, b < 64 → w.getLsbD b = f (64 * k + b) := by
  obtain ⟨cs, kk, s, r⟩ := x
  obtain ⟨w, c, hb⟩ := r k hk
  exact ⟨w, by rw [kk.cl]; exact c, hb⟩
theorem WordsAt.put {h : Heap} {g nw : Nat} {f : Nat → Bool} (x : WordsAt h g nw f) {k : Nat} (hk : k < nw) (w : BitVec 64) {K : Heap → Prop}
    (kk : ∀ h', WordsAt h' g nw (fun e => if e / 64 = k then w.getLsbD (e % 64) else f e) → Fr (fun b => b = g) h h' → K h') : sto h ⟨g, k, none⟩ (.int .u64 (w.toNat : Int)) K := by
  obtain ⟨cs, kb, s, r⟩ := x
  refine sto_i kb (by omega) (kk _ ⟨_, kb.sc k _, by simp [s], fun i hi => ?_⟩ (Fr.scb _ _ _ _))
  by_cases e : k = i
  · subst e
    refine ⟨w, by simp [s, hk], fun b hb => ?_⟩
    have e1 : (64 * k + b) / 64 = k := by omega
    have e2 : (64 * k + b) % 64 = b := by omega
    simp [e1, e2]
  · obtain ⟨w', c, hb⟩ := r i hi
    refine ⟨w', by rw [Array.getElem?_setIfInBounds, if_neg e]; exact c, fun b hb' => ?_⟩
    have e1 : (64 * i + b) / 64 = i := by omega
    have e2 : ¬ i = k := fun h => e h.symm
    rw [hb b hb']
    dsimp only
    rw [e1, if_neg e2]

theorem ofInt_toNat (w : BitVec 64) : BitVec.ofInt 64 (w.toNat : Int) = w := by
  rw [BitVec.ofInt_natCast, BitVec.ofNat_toNat, BitVec.setWidth_eq]
theorem wrap_word (w : BitVec 64) : IntKind.u64.wrap (w.toNat : Int) = (w.toNat : Int) := by
  have := w.isLt
  rw [IntKind.wrap_u64]; omega
theorem bitsI_or (v w : BitVec 64) : bitsI .or .u64 (v.toNat : Int) (w.toNat : Int) = ((v ||| w).toNat : Int) := by
  show IntKind.u64.wrap (((BitVec.ofInt 64 (v.toNat : Int)) ||| (BitVec.ofInt 64 (w.toNat : Int))).toNat : Int) = _
  rw [ofInt_toNat, ofInt_toNat, wrap_word]
theorem bitsI_and (v w : BitVec 64) : bitsI .and .u64 (v.toNat : Int) (w.toNat : Int) = ((v &&& w).toNat : Int) := by
  show IntKind.u64.wrap (((BitVec.ofInt 64 (v.toNat : Int)) &&& (BitVec.ofInt 64 (w.toNat : Int))).toNat : Int) = _
  rw [ofInt_toNat, ofInt_toNat, wrap_word]
theorem bitsI_andNot (v w : BitVec 64) : bitsI .andNot .u64 (v.toNat : Int) (w.toNat : Int) = ((v &&& ~~~w).toNat : Int) := by
  show IntKind.u64.wrap (((BitVec.ofInt 64 (v.toNat : Int)) &&& ~~~(BitVec.ofInt 64 (w.toNat : Int))).toNat : Int) = _
  rw [ofInt_toNat, ofInt_toNat, wrap_word]
/-- the word with bit `b` alone -/
theorem one_word {b : Nat} (hb : b < 64) : IntKind.u64.wrap (1 * 2 ^ (min b IntKind.u64.bits)) = (((1#64) <<< b).toNat : Int) := by
  have e : min b IntKind.u64.bits = b := by show min b 64 = b; omega
  have h2 : 2 ^ b < 2 ^ 64 := Nat.pow_lt_pow_right (by omega) hb
  rw [e, BitVec.toNat_shiftLeft, Nat.shiftLeft_eq]
  have e1 : (1#64).toNat = 1 := rfl
  rw [e1, Nat.one_mul, Nat.mod_eq_of_lt h2, Int.one_mul]
  have e3 : (2 : Int) ^ b = ((2 ^ b : Nat) : Int) := by rw [Int.natCast_pow]; rfl
  rw [e3]
  clear e3 e
  generalize (2 : Nat) ^ b = x at h2 ⊢
  rw [IntKind.wrap_u64]
  omega
theorem one_bit {b c : Nat} (hb : b < 64) : ((1#64) <<< b).getLsbD c = decide (c = b) := by
  rw [BitVec.getLsbD_shiftLeft, BitVec.getLsbD_one, Bool.eq_iff_iff]
  simp
  omega
theorem bit_of (w : BitVec 64) {b : Nat} (hb : b < 64) : (bitsI .and .u64 ((w.toNat : Int).fdiv (2 ^ (min b IntKind.u64.bits))) 1 == 1) = w.getLsbD b := by
  have e : min b IntKind.u64.bits = b := by show min b 64 = b; omega
  rw [e]
  have e2 : ((w.toNat : Int).fdiv (2 ^ b)) = ((w >>> b).toNat : Int) := by
    have e3 : (2 : Int) ^ b = ((2 ^ b : Nat) : Int) := by rw [Int.natCast_pow]; rfl
    rw [e3, Int.fdiv_eq_ediv_of_nonneg _ (Int.natCast_nonneg _), BitVec.toNat_ushiftRight, Nat.shiftRight_eq_div_pow]
    exact (Int.natCast_ediv _ _).symm
  rw [e2]
  have e4 : (1 : Int) = ((1#64).toNat : Int) := rfl
  have e5 := bitsI_and (w >>> b) (1#64)
  rw [← e4] at e5
  rw [e5]
  have e6 : w.getLsbD b = ((w >>> b) &&& 1#64).getLsbD 0 := by simp
  rw [e6]
  generalize hv : (w >>> b) &&& 1#64 = v
  have h1 : v.toNat ≤ 1 := by
    rw [← hv, BitVec.toNat_and]
    exact Nat.and_le_right
  cases h : v.getLsbD 0 with
  | true =>
    have : v.toNat ≠ 0 := fun h0 => by rw [BitVec.getLsbD, h0] at h; simp at h
    have : v.toNat = 1 := by omega
    simp [this]
  | false =>
    have : v.toNat ≠ 1 := fun h0 => by rw [BitVec.getLsbD, h0] at h; simp at h
    have : v.toNat = 0 := by omega
    simp [this]

/-! ### A count -/
def cnt (C : Nat → Bool) : Nat → Nat
  | 0 => 0
  | n + 1 => cnt C n + (if C n then 1 else 0)
theorem cnt_le (C : Nat → Bool) : ∀ n, cnt C n ≤ n
  | 0 => Nat.le_refl _
  | n + 1 => by have := cnt_le C n; simp only [cnt]; split <;> omega
theorem cnt_mono {C D : Nat → Bool} : ∀ n, (∀ k, k < n → C k = true → D k = true) → cnt C n ≤ cnt D n
  | 0, _ => Nat.le_refl _
  | n + 1, h => by
    have := cnt_mono n fun k hk => h k (by omega)
    simp only [cnt]
    cases hc : C n with
    | true => simp [h n (by omega) hc]; exact this
    | false => simp; split <;> omega
theorem cnt_lt {C D : Nat → Bool} {k : Nat} (h1 : C k = false) (h2 : D k = true) : ∀ n, (∀ k, k < n → C k = true → D k = true) → k < n → cnt C n < cnt D n
  | 0, _, hk => by omega
  | n + 1, h, hk => by
    simp only [cnt]
    by_cases e : k = n
    · subst e
      have := cnt_mono (C := C) (D := D) k fun j hj => h j (by omega)
      simp [h1, h2]; omega
    · have := cnt_lt h1 h2 n (fun j hj => h j (by omega)) (by omega)
      cases hc : C n with
      | true => simp [h n (by omega) hc]; exact this
      | false => simp; split <;> omega
theorem cnt_congr {C D : Nat → Bool} : ∀ n, (∀ k, k < n → C k = D k) → cnt C n = cnt D n
  | 0, _ => rfl
  | n + 1, h => by simp only [cnt]; rw [cnt_congr n fun k hk => h k (by omega), h n (by omega)]
end Go.Lf

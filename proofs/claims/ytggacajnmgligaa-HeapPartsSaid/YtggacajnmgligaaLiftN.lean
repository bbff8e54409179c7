/-
  Rows of marks, bits read off the heap, counts of tables, heads of slices.
-/
import Derived.Test.YtggacajnmgligaaLiftM
import Derived.Test.YtggacajnmgligaaLiftG
namespace Go.Lf
open Go

theorem div_word {m : Nat} (hm : m ≤ 100000000) : IntKind.i64.wrap ((m : Int).tdiv 64) = ((m / 64 : Nat) : Int) := by
  have e : (m : Int).tdiv 64 = ((m / 64 : Nat) : Int) := by rw [Int.tdiv_eq_ediv_of_nonneg (by omega)]; omega
  rw [e, wrap64_id (by omega) (by omega)]
theorem mod_word (m : Nat) : (m : Int).tmod 64 = ((m % 64 : Nat) : Int) := by
  rw [Int.tmod_eq_emod_of_nonneg (by omega)]; omega
theorem made_words {E : TypeId} (h : Heap) (nw : Nat) : WordsAt (h.push (.cells (madeCells (Value.int .u64 0).cells (nw * 1)) E)) h.size nw (fun _ => false) := by
  refine ⟨_, blk.new _ _ _, by rw [size_madeCells, Nat.mul_one], fun k hk => ⟨0#64, ?_, fun b _ => by simp⟩⟩
  rw [made_get _ rfl, if_pos (by omega)]
  rfl
/-- one bit set -/
theorem WordsAt.bit {h : Heap} {g nw : Nat} {f : Nat → Bool} (x : WordsAt h g nw f) {m : Nat} (hm : m < 64 * nw) {w : BitVec 64} (hw : ∀ b, b < 64 → w.getLsbD b = f (64 * (m / 64) + b)) {K : Heap → Prop}
    (k : ∀ h', WordsAt h' g nw (fun e => f e || decide (e = m)) → Fr (fun b => b = g) h h' → K h') : sto h ⟨g, m / 64, none⟩ (.int .u64 ((w ||| ((1#64) <<< (m % 64))).toNat : Int)) K := by
  refine x.put (by omega) _ fun h' W f' => k h' (W.congr fun e he => ?_) f'
  have hb : m % 64 < 64 := by omega
  by_cases e1 : e / 64 = m / 64
  · have h3 := hw (e % 64) (by omega)
    have e2 : 64 * (m / 64) + e % 64 = e := by omega
    rw [e2] at h3
    rw [if_pos e1, BitVec.getLsbD_or, h3, one_bit hb, Bool.eq_iff_iff]
    have : e % 64 = m % 64 ↔ e = m := by omega
    simp [this]
  · rw [if_neg e1, Bool.eq_iff_iff]
    have : ¬ e = m := fun h => e1 (by rw [h])
    simp [this]

/-! ### rows of marks -/
def BoolsAt (h : Heap) (g n : Nat) (C : Nat → Bool) : Prop := ∃ cs : Array Value, blk h g cs ∧ cs.size = n ∧ ∀ k, k < n → cs[k]? = some (.bool (C k))
theorem BoolsAt.frame {h h' : Heap} {g n : Nat} {C : Nat → Bool} {T : Nat → Prop} (x : BoolsAt h g n C) (fr : Fr T h h') (hT : ¬ T g) : BoolsAt h' g n C := by
  obtain ⟨cs, k, r⟩ := x
  exact ⟨cs, fr.blk k hT, r⟩
theorem BoolsAt.lt {h : Heap} {g n : Nat} {C : Nat → Bool} (x : BoolsAt h g n C) : g < h.size := by obtain ⟨cs, k, _⟩ := x; exact k.lt
theorem BoolsAt.cell {h : Heap} {g n : Nat} {C : Nat → Bool} (x : BoolsAt h g n C) {k : Nat} (hk : k < n) : cl h ⟨g, k, none⟩ = some (.bool (C k)) := by
  obtain ⟨cs, kb, s, r⟩ := x
  rw [kb.cl, r k hk]
theorem BoolsAt.congr {h : Heap} {g n : Nat} {C D : Nat → Bool} (x : BoolsAt h g n C) (e : ∀ k, k < n → C k = D k) : BoolsAt h g n D := by
  obtain ⟨cs, kb, s, r⟩ := x
  exact ⟨cs, kb, s, fun k hk => by rw [r k hk, e k hk]⟩
theorem BoolsAt.put {h : Heap} {g n : Nat} {C : Nat → Bool} (x : BoolsAt h g n C) {k : Nat} (hk : k < n) (b : Bool) {K : Heap → Prop}
    (kk : ∀ h', BoolsAt h' g n (fun j => if j = k then b else C j) → Fr (fun i => i = g) h h' → K h') : sto h ⟨g, k, none⟩ (.bool b) K := by
  obtain ⟨cs, kb, s, r⟩ := x
  refine sto_i kb (by omega) (kk _ ⟨_, kb.sc k _, by simp [s], fun j hj => ?_⟩ (Fr.scb _ _ _ _))
  rw [Array.getElem?_setIfInBounds]
  by_cases e : k = j
  · subst e; simp [s, hk]
  · have e' : ¬ j = k := fun h => e h.symm
    simp [e, e', r j hj]
theorem made_bools {E : TypeId} (h : Heap) (n : Nat) : BoolsAt (h.push (.cells (madeCells (Value.bool false).cells (n * 1)) E)) h.size n (fun _ => false) := by
  refine ⟨_, blk.new _ _ _, by rw [size_madeCells, Nat.mul_one], fun k hk => ?_⟩
  rw [made_get _ rfl, if_pos (by omega)]

/-! ### counts of tables -/
def cntS (n m : Nat) (S : Nat → Nat → Bool) : Nat := cnt (fun k => S (k / m) (k % m)) (n * m)
theorem div_rng {n m k : Nat} (hk : k < n * m) : k / m < n ∧ k % m < m := by
  have hm : 0 < m := by rcases Nat.eq_zero_or_pos m with e | e
                        · subst e; omega
                        · exact e
  exact ⟨(Nat.div_lt_iff_lt_mul hm).2 hk, Nat.mod_lt _ hm⟩
theorem cntS_le (n m : Nat) (S : Nat → Nat → Bool) : cntS n m S ≤ n * m := cnt_le _ _
theorem cntS_congr {n m : Nat} {S S' : Nat → Nat → Bool} (h : ∀ i e, i < n → e < m → S i e = S' i e) : cntS n m S = cntS n m S' :=
  cnt_congr _ fun _ hk => h _ _ (div_rng hk).1 (div_rng hk).2
theorem cntS_lt {n m : Nat} {S S' : Nat → Nat → Bool} (h : ∀ i e, i < n → e < m → S i e = true → S' i e = true) {i e : Nat} (hi : i < n) (he : e < m) (h1 : S i e = false) (h2 : S' i e = true) : cntS n m S < cntS n m S' := by
  have hm : 0 < m := by omega
  have e1 : (i * m + e) / m = i := by
    rw [Nat.add_comm, Nat.add_mul_div_right _ _ hm, Nat.div_eq_of_lt he, Nat.zero_add]
  have e2 : (i * m + e) % m = e := by
    rw [Nat.add_comm, Nat.add_mul_mod_self_right, Nat.mod_eq_of_lt he]
  refine cnt_lt (k := i * m + e) (by rw [e1, e2]; exact h1) (by rw [e1, e2]; exact h2) _ (fun k hk => h _ _ (div_rng hk).1 (div_rng hk).2) ?_
  have : (i + 1) * m ≤ n * m := Nat.mul_le_mul_right m hi
  rw [Nat.add_mul] at this
  omega
/-- a bit, off the heap -/
def bitH (h : Heap) (g e : Nat) : Bool := match cl h ⟨g, e / 64, none⟩ with
  | some (.int _ z) => z.toNat.testBit (e % 64)
  | _ => false
theorem WordsAt.bitH {h : Heap} {g nw : Nat} {f : Nat → Bool} (x : WordsAt h g nw f) {e : Nat} (he : e < 64 * nw) : bitH h g e = f e := by
  obtain ⟨w, c, hw⟩ := x.cell (k := e / 64) (by omega)
  unfold Go.Lf.bitH
  rw [c]
  have := hw (e % 64) (by omega)
  have e2 : 64 * (e / 64) + e % 64 = e := by omega
  rw [e2] at this
  rw [← this]
  rfl

/-! ### the head of a slice -/
theorem slS_head {s : Sv} {sz m : Nat} {K : Sv → Prop} (hm : m ≤ s.c) (k : K ⟨s.a, m, s.c⟩) : slS s sz 0 (m : Int) K := by
  refine ⟨by omega, by omega, by omega, ?_⟩
  rintro ⟨a, n, c⟩ h1 h2 h3
  obtain ⟨sa, sn, sc⟩ := s
  dsimp only at h1 h2 h3
  have e1 : a = sa := by
    rw [h1]
    cases sa with
    | none => simp
    | some p => simp [add_zero]
  have e2 : n = m := by rw [h2]; simp
  have e3 : c = sc := by rw [h3]; simp
  rw [e1, e2, e3]
  exact k
theorem Own.head {h : Heap} {B sz : Nat} {s : Sv} {xs : List Value} (o : Own h B sz s xs) {m : Nat} (hm : m ≤ s.n) : Own h B sz ⟨s.a, m, s.c⟩ (xs.take (m * sz)) := by
  have hl := o.len
  have hle : m * sz ≤ s.n * sz := Nat.mul_le_mul_right _ hm
  refine ⟨by rw [List.length_take]; dsimp only; omega, o.mem.imp (fun ⟨e1, e2, e3⟩ => ⟨e1, by dsimp only; omega, e3⟩) ?_⟩
  rintro ⟨g, cur, e, hB, k, hn, hc, ht⟩
  refine ⟨g, cur, e, hB, k, by dsimp only; omega, hc, ?_⟩
  rw [← ht, List.take_take]
  congr 1
  dsimp only
  omega
theorem rd_cap {P : Program} {h : Heap} {fuel : Nat} {t e : TypeId} {s : Sv} (hu : P.underlying t = some (.slice e)) (hr : rd P h fuel t [s.v]) : s.n ≤ s.c := by
  cases fuel with
  | zero => exact hr.elim
  | succ fuel =>
    unfold rd at hr
    rw [hu] at hr
    obtain ⟨sa, sn, sc⟩ := s
    rcases hr with hr | ⟨a, n, c, hr, h1, _⟩
    · simp [Sv.v] at hr
      obtain ⟨rfl, rfl, rfl⟩ := hr
      exact Nat.le_refl _
    · simp [Sv.v] at hr
      obtain ⟨rfl, rfl, rfl⟩ := hr
      exact h1
theorem own_head {s : Sv} {m b : Nat} : (⟨s.a, m, s.c⟩ : Sv).own b ↔ s.own b := Iff.rfl
end Go.Lf

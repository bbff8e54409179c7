/-
  The plain law: least closed sets of nodes, one fact at a time; counts.
-/
import Derived.Test.YtglhkodebehdbaaS6
namespace Go.Proofs.Ytglhkodebehdbaa
open Go Go.Lf

def gen (p : Pb) (e i : Nat) : Bool := decide ((e : Int) ∈ at_ p.g i)
def kil (p : Pb) (e i : Nat) : Bool := decide ((e : Int) ∈ at_ p.k i)
/-- is a fact behind a node? -/
def lv (p : Pb) (e i : Nat) (b : Bool) : Bool := gen p e i || (b && !kil p e i)
theorem lv_mono {p : Pb} {e i : Nat} {b c : Bool} (h : b = true → c = true) (hb : lv p e i b = true) : lv p e i c = true := by
  cases b <;> cases c <;> simp_all [lv]
/-- is a set at one of those that come next? -/
def anyS (p : Pb) (C : Nat → Bool) (i : Nat) : Bool := (at_ p.s i).any fun y => C y.toNat
theorem anyS_mono {p : Pb} {C D : Nat → Bool} {i : Nat} (h : ∀ y ∈ at_ p.s i, C y.toNat = true → D y.toNat = true) (hb : anyS p C i = true) : anyS p D i = true := by
  obtain ⟨y, h1, h2⟩ := List.any_eq_true.1 hb
  exact List.any_eq_true.2 ⟨y, h1, h y h1 h2⟩
/-- who comes next is there -/
def Pb.In (p : Pb) : Prop := ∀ i, ∀ y ∈ at_ p.s i, 0 ≤ y ∧ y < p.s.length

structure ClF (p : Pb) (e : Nat) (C : Nat → Bool) : Prop where
  ent : 0 < p.s.length → (e : Int) ∈ p.e → C 0 = true
  go : ∀ i, i < p.s.length → lv p e i (C i) = true → ∀ y ∈ at_ p.s i, C y.toNat = true
structure LsF (p : Pb) (e : Nat) (C : Nat → Bool) : Prop where
  cl : ClF p e C
  least : ∀ D, ClF p e D → ∀ i, i < p.s.length → C i = true → D i = true
theorem LsF.eq {p : Pb} {e : Nat} {C D : Nat → Bool} (x : LsF p e C) (y : LsF p e D) {i : Nat} (hi : i < p.s.length) : C i = D i :=
  Bool.eq_iff_iff.2 ⟨x.least D y.cl i hi, y.least C x.cl i hi⟩

structure ClB (p : Pb) (e : Nat) (C : Nat → Bool) : Prop where
  go : ∀ i, i < p.s.length → lv p e i (anyS p C i) = true → C i = true
structure LsB (p : Pb) (e : Nat) (C : Nat → Bool) : Prop where
  cl : ClB p e C
  least : ∀ D, ClB p e D → ∀ i, i < p.s.length → C i = true → D i = true
theorem LsB.eq {p : Pb} {e : Nat} {C D : Nat → Bool} (x : LsB p e C) (y : LsB p e D) {i : Nat} (hi : i < p.s.length) : C i = D i :=
  Bool.eq_iff_iff.2 ⟨x.least D y.cl i hi, y.least C x.cl i hi⟩

/-- how many marks a table has -/
def cntS (n m : Nat) (S : Nat → Nat → Bool) : Nat := cnt (fun k => S (k / m) (k % m)) (n * m)
theorem div_rng {n m k : Nat} (hk : k < n * m) : k / m < n ∧ k % m < m := by
  have hm : 0 < m := by rcases Nat.eq_zero_or_pos m with e | e
                        · subst e; omega
                        · exact e
  exact ⟨(Nat.div_lt_iff_lt_mul hm).2 hk, Nat.mod_lt _ hm⟩
theorem cntS_le (n m : Nat) (S : Nat → Nat → Bool) : cntS n m S ≤ n * m := cnt_le _ _
theorem cntS_congr {n m : Nat} {S S' : Nat → Nat → Bool} (h : ∀ i e, i < n → e < m → S i e = S' i e) : cntS n m S = cntS n m S' :=
  cnt_congr _ fun _ hk => h _ _ (div_rng hk).1 (div_rng hk).2
theorem cntS_lt {n m : Nat} {S S' : Nat → Nat → Bool} (h : ∀ i e, i < n → e < m → S i e = true → S' i e = true) {i e : Nat} (hi : i < n) (he : e < m) (h1 : S i e = false) (h2 : S' i e = true) : cntS n m S < cntS n m S' := by
  have hm : 0 < m := by omega
  have e1 : (i * m + e) / m = i := by
    rw [Nat.add_comm, Nat.add_mul_div_right _ _ hm, Nat.div_eq_of_lt he, Nat.zero_add]
  have e2 : (i * m + e) % m = e := by
    rw [Nat.add_comm, Nat.add_mul_mod_self_right, Nat.mod_eq_of_lt he]
  refine cnt_lt (k := i * m + e) (by rw [e1, e2]; exact h1) (by rw [e1, e2]; exact h2) _ (fun k hk => h _ _ (div_rng hk).1 (div_rng hk).2) ?_
  have : (i + 1) * m ≤ n * m := Nat.mul_le_mul_right m hi
  rw [Nat.add_mul] at this
  omega

/-- a bit, off the heap -/
def bitH (h : Heap) (g e : Nat) : Bool := match cl h ⟨g, e / 64, none⟩ with
  | some (.int _ z) => z.toNat.testBit (e % 64)
  | _ => false
theorem WordsAt.bitH {h : Heap} {g nw : Nat} {f : Nat → Bool} (x : WordsAt h g nw f) {e : Nat} (he : e < 64 * nw) : bitH h g e = f e := by
  obtain ⟨w, c, hw⟩ := x.cell (k := e / 64) (by omega)
  unfold Go.Proofs.Ytglhkodebehdbaa.bitH
  rw [c]
  have := hw (e % 64) (by omega)
  have e2 : 64 * (e / 64) + e % 64 = e := by omega
  rw [e2] at this
  rw [← this]
  rfl
/-- what is not marked yet -/
def left (n nw : Nat) (rb : Nat → Nat) (h : Heap) : Nat := n * (64 * nw) - cntS n (64 * nw) fun i e => bitH h (rb i) e
theorem AnsOk.left {ba : Nat} {tb : Sv} {rb : Nat → Nat} {n nw : Nat} {W : Int} {S : Nat → Nat → Bool} {h : Heap} (x : AnsOk ba tb rb n nw W S h) : left n nw rb h = n * (64 * nw) - cntS n (64 * nw) S := by
  unfold Go.Proofs.Ytglhkodebehdbaa.left
  rw [cntS_congr fun i e hi he => WordsAt.bitH (x.row i hi).2.2 he]

/-- the document's rounds: at last it is closed -/
theorem round_end {n r : Nat} {P : (Nat → Bool) → Prop} {C0 C : Nat → Bool} (h0 : P C0 ∨ r ≤ cnt C0 n) (hle : ∀ k, k < n → C0 k = true → C k = true)
    (hs : P C0 → ∀ k, k < n → C k = true → C0 k = true) (hc : (∀ k, k < n → C k = C0 k) → P C) : P C ∨ r + 1 ≤ cnt C n := by
  by_cases e : ∀ k, k < n → C k = C0 k
  · exact .inl (hc e)
  · refine .inr ?_
    obtain ⟨k, e⟩ := Classical.not_forall.1 e
    obtain ⟨hk, e⟩ := Classical.not_imp.1 e
    have h1 : C0 k = false := by
      cases h : C0 k with
      | false => rfl
      | true => exact absurd ((hle k hk h).trans h.symm) e
    have h2 : C k = true := by
      cases h : C k with
      | true => rfl
      | false => exact absurd (h.trans h1.symm) e
    have := cnt_lt h1 h2 n hle hk
    rcases h0 with h0 | h0
    · rw [hs h0 k hk h2] at h1; cases h1
    · omega
end Go.Proofs.Ytglhkodebehdbaa

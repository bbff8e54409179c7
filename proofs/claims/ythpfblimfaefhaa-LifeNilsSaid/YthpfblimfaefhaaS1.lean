/-
  What the functions of layer 6 do, over a relation that lies in memory as a table of rows of bools.
-/
import Derived.Test.YthpfblimfaefhaaLiftU
import Derived.Test.YthpfblimfaefhaaG
namespace Go.Proofs.Ythpfblimfaefhaa
open Go Go.Lf

/-- a relation of `n` lifetimes: struct `br`, table `bo`, rows `rb i`; `m i j`: i outlives j -/
structure RelOk (br bo c : Nat) (rb : Nat → Nat) (n : Nat) (m : Nat → Nat → Bool) (h : Heap) : Prop where
  st : blk h br #[.int .i64 n, .slice (some ⟨bo, 0, none⟩) (n + 1) c]
  out : ∃ cs : Array Value, blk h bo cs ∧ ∀ i, i ≤ n → ∃ cr, cs[i]? = some (.slice (some ⟨rb i, 0, none⟩) (n + 1) cr)
  row : ∀ i, i ≤ n → ∃ cs : Array Value, blk h (rb i) cs ∧ ∀ j, j ≤ n → cs[j]? = some (.bool (m i j))
  ne : br ≠ bo
  ner : ∀ i, i ≤ n → rb i ≠ br ∧ rb i ≠ bo
  inj : ∀ i j, i ≤ n → j ≤ n → rb i = rb j → i = j

/-- the blocks of a relation -/
def RelB (br bo : Nat) (rb : Nat → Nat) (n : Nat) (b : Nat) : Prop := b = br ∨ b = bo ∨ ∃ i, i ≤ n ∧ b = rb i

theorem RelOk.frame {br bo c rb n m h h'} {T : Nat → Prop} (x : RelOk br bo c rb n m h) (f : Fr T h h') (hT : ∀ b, RelB br bo rb n b → ¬ T b) : RelOk br bo c rb n m h' := by
  refine ⟨f.blk x.st (hT _ (.inl rfl)), ?_, fun i hi => ?_, x.ne, x.ner, x.inj⟩
  · obtain ⟨cs, k, r⟩ := x.out
    exact ⟨cs, f.blk k (hT _ (.inr (.inl rfl))), r⟩
  · obtain ⟨cs, k, r⟩ := x.row i hi
    exact ⟨cs, f.blk k (hT _ (.inr (.inr ⟨i, hi, rfl⟩))), r⟩
theorem RelOk.cn {br bo c rb n m h} (x : RelOk br bo c rb n m h) : cl h ⟨br, 0, none⟩ = some (.int .i64 n) := by rw [x.st.cl]; rfl
theorem RelOk.co {br bo c rb n m h} (x : RelOk br bo c rb n m h) : cl h ⟨br, 1, none⟩ = some (.slice (some ⟨bo, 0, none⟩) (n + 1) c) := by rw [x.st.cl]; rfl
theorem RelOk.cr {br bo c rb n m h} (x : RelOk br bo c rb n m h) (i : Nat) (hi : i ≤ n) : ∃ cr, cl h ⟨bo, i, none⟩ = some (.slice (some ⟨rb i, 0, none⟩) (n + 1) cr) := by
  obtain ⟨cs, k, r⟩ := x.out
  obtain ⟨cr, e⟩ := r i hi
  exact ⟨cr, by rw [k.cl]; exact e⟩
theorem RelOk.cb {br bo c rb n m h} (x : RelOk br bo c rb n m h) (i j : Nat) (hi : i ≤ n) (hj : j ≤ n) : cl h ⟨rb i, j, none⟩ = some (.bool (m i j)) := by
  obtain ⟨cs, k, r⟩ := x.row i hi
  rw [k.cl, r j hj]
theorem RelOk.lt {br bo c rb n m h} (x : RelOk br bo c rb n m h) {b : Nat} (hb : RelB br bo rb n b) : b < h.size := by
  rcases hb with rfl | rfl | ⟨i, hi, rfl⟩
  · exact x.st.lt
  · obtain ⟨cs, k, _⟩ := x.out; exact k.lt
  · obtain ⟨cs, k, _⟩ := x.row i hi; exact k.lt

/-- one cell of a row turned -/
theorem RelOk.set {br bo c rb n m h} (x : RelOk br bo c rb n m h) (i j : Nat) (hi : i ≤ n) (hj : j ≤ n) (v : Bool) :
    RelOk br bo c rb n (fun a b => if a = i ∧ b = j then v else m a b) (sc h ⟨rb i, j, none⟩ (.bool v)) := by
  have hne := x.ner i hi
  refine ⟨x.st.scne (by exact hne.1) _, ?_, fun k hk => ?_, x.ne, x.ner, x.inj⟩
  · obtain ⟨cs, k, r⟩ := x.out
    exact ⟨cs, k.scne (by exact hne.2) _, r⟩
  · obtain ⟨cs, kk, r⟩ := x.row k hk
    by_cases e : k = i
    · subst e
      refine ⟨_, kk.sc j _, fun b hb => ?_⟩
      rw [Array.getElem?_setIfInBounds]
      by_cases e : j = b
      · subst e
        have hlt : j < cs.size := (Array.getElem?_eq_some_iff.1 (r j hj)).1
        simp [hlt]
      · have e' : ¬ b = j := fun h => e h.symm
        simp [e, e', r b hb]
    · refine ⟨cs, kk.scne (fun h => e (x.inj _ _ hk hi h.symm)) _, fun b hb => ?_⟩
      simp [e, r b hb]

section
variable {br bo c : Nat} {rb : Nat → Nat} {n : Nat} {m : Nat → Nat → Bool} {h : Heap}

theorem known_spec {r : Addr} {n : Int} (hc : cl h r = some (.int .i64 n)) (a : Int) : CallsH Try.prog 23 #[.pointer (some r), .int .i64 a] h (fun v h' => h = h' ∧ v = .bool (decide (0 ≤ a ∧ a ≤ n))) := by
  apply F23
  unfold L23
  refine ⟨fun b => b = decide (0 ≤ a ∧ a ≤ n), ⟨fun hb => ?_, fun hb => ?_⟩, ?_⟩
  · refine nn_i (ldI_i hc ?_)
    have h0 : 0 ≤ a := by simpa using hb
    simp [h0]
  · have h0 : ¬ 0 ≤ a := by simpa using hb
    simp [h0]
  · rintro b rfl
    exact ⟨rfl, rfl⟩
theorem known_nil (a : Int) : CallsH Try.prog 23 #[.pointer none, .int .i64 a] h (fun v h' => h = h' ∧ v = .bool false) := by
  apply F23
  unfold L23
  exact ⟨fun b => b = false, ⟨fun hb => by simp at hb, fun _ => rfl⟩, by rintro b rfl; exact ⟨rfl, rfl⟩⟩

def inR (n : Nat) (a : Int) : Bool := decide (0 ≤ a ∧ a ≤ (n : Int))
/-- what Has answers -/
def hasM (n : Nat) (m : Nat → Nat → Bool) (a b : Int) : Bool := inR n a && inR n b && m a.toNat b.toNat

theorem has_spec (x : RelOk br bo c rb n m h) (a b : Int) : CallsH Try.prog 11 #[.pointer (some ⟨br, 0, none⟩), .int .i64 a, .int .i64 b] h (fun v h' => h = h' ∧ v = .bool (hasM n m a b)) := by
  apply F11
  unfold L11
  refine cal_of (known_spec x.cn a) ?_
  rintro _ _ ⟨rfl, rfl⟩
  refine ⟨_, rfl, fun b' h' => h = h' ∧ b' = (inR n a && inR n b), ⟨fun ha => ?_, fun ha => ⟨rfl, ?_⟩⟩, ?_⟩
  · refine cal_of (known_spec x.cn b) ?_
    rintro _ _ ⟨rfl, rfl⟩
    exact ⟨_, rfl, rfl, by simp [inR] at ha ⊢; omega⟩
  · simp [inR] at ha ⊢; omega
  · rintro _ _ ⟨rfl, rfl⟩
    refine ⟨fun b' => b' = hasM n m a b, ⟨fun hb => ?_, fun hb => ?_⟩, ?_⟩
    · simp only [inR, Bool.and_eq_true, decide_eq_true_eq] at hb
      obtain ⟨i, rfl⟩ := Int.eq_ofNat_of_zero_le hb.1.1
      obtain ⟨j, rfl⟩ := Int.eq_ofNat_of_zero_le hb.2.1
      have hi : i ≤ n := by omega
      have hj : j ≤ n := by omega
      obtain ⟨cr, hr⟩ := x.cr i hi
      refine nn_i ?_
      simp only [add_plain, Nat.zero_add, Int.toNat_natCast, Nat.mul_one]
      refine ldS_i (s := ⟨_, _, _⟩) x.co (ixS_i rfl (by omega) (by show (i : Int) < ((n + 1 : Nat) : Int); omega) ?_)
      simp only [add_plain, Nat.zero_add]
      refine ldS_i (s := ⟨_, _, _⟩) hr (ixS_i rfl (by omega) (by show (j : Int) < ((n + 1 : Nat) : Int); omega) ?_)
      simp only [add_plain, Nat.zero_add]
      refine ldB_i (x.cb i j hi hj) ?_
      simp [hasM, inR, hi, hj]
    · simp only [hasM, hb, Bool.false_and]
    · rintro _ rfl
      exact ⟨rfl, rfl⟩
theorem has_nil (a b : Int) : CallsH Try.prog 11 #[.pointer none, .int .i64 a, .int .i64 b] h (fun v h' => h = h' ∧ v = .bool false) := by
  apply F11
  unfold L11
  refine cal_of (known_nil a) ?_
  rintro _ _ ⟨rfl, rfl⟩
  refine ⟨_, rfl, fun b' h' => h = h' ∧ b' = false, ⟨fun ha => (by cases ha), fun ha => ⟨rfl, rfl⟩⟩, ?_⟩
  rintro _ _ ⟨rfl, rfl⟩
  exact ⟨fun b' => b' = false, ⟨fun hb => (by cases hb), fun _ => rfl⟩, by rintro _ rfl; exact ⟨rfl, rfl⟩⟩
theorem len_spec (x : RelOk br bo c rb n m h) : CallsH Try.prog 16 #[.pointer (some ⟨br, 0, none⟩)] h (fun v h' => h = h' ∧ v = .int .i64 n) := by
  apply F16
  unfold L16
  exact ⟨fun e => (by cases e), fun _ => nn_i (ldI_i x.cn ⟨rfl, rfl⟩)⟩
theorem len_nil : CallsH Try.prog 16 #[.pointer none] h (fun v h' => h = h' ∧ v = .int .i64 0) := by
  apply F16
  unfold L16
  exact ⟨fun _ => ⟨rfl, rfl⟩, fun e => (by cases e)⟩
end
end Go.Proofs.Ythpfblimfaefhaa

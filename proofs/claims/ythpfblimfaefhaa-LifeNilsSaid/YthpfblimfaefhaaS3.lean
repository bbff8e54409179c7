/-
  Add: one outlives another, and all that follows.
-/
import Derived.Test.YthpfblimfaefhaaS2
namespace Go.Proofs.Ythpfblimfaefhaa
open Go Go.Lf

section
variable {br bo c : Nat} {rb : Nat → Nat} {n : Nat} {m : Nat → Nat → Bool} {h : Heap}

theorem RelOk.rdRow (x : RelOk br bo c rb n m h) (i : Nat) (hi : i ≤ n) {K : Sv → Prop} (k : ∀ cr, K ⟨some ⟨rb i, 0, none⟩, n + 1, cr⟩) :
    nn (some ⟨br, 0, none⟩) fun p => ldS h (p.add 1) fun s => ixS s (i : Int) fun q => ldS h (q.add ((i : Int).toNat * 1)) fun t => K t := by
  obtain ⟨cr, hr⟩ := x.cr i hi
  refine nn_i ?_
  simp only [add_plain, Nat.zero_add, Int.toNat_natCast, Nat.mul_one]
  refine ldS_i (s := ⟨_, _, _⟩) x.co (ixS_i rfl (by omega) (by show (i : Int) < ((n + 1 : Nat) : Int); omega) ?_)
  simp only [add_plain, Nat.zero_add]
  exact ldS_i (s := ⟨_, _, _⟩) hr (k cr)
theorem RelOk.rdTab (x : RelOk br bo c rb n m h) {K : Sv → Prop} (k : K ⟨some ⟨bo, 0, none⟩, n + 1, c⟩) :
    nn (some ⟨br, 0, none⟩) fun p => ldS h (p.add 1) fun s => K s :=
  nn_i (by simp only [add_plain, Nat.zero_add]; exact ldS_i (s := ⟨_, _, _⟩) x.co k)
theorem RelOk.rdCell (x : RelOk br bo c rb n m h) (i j : Nat) (hi : i ≤ n) (hj : j ≤ n) {cr : Nat} {K : Bool → Prop} (k : K (m i j)) :
    ixS ⟨some ⟨rb i, 0, none⟩, n + 1, cr⟩ (j : Int) fun q => ldB h (q.add ((j : Int).toNat * 1)) fun v => K v := by
  refine ixS_i rfl (by omega) (by show (j : Int) < ((n + 1 : Nat) : Int); omega) ?_
  simp only [add_plain, Nat.zero_add, Int.toNat_natCast, Nat.mul_one]
  exact ldB_i (x.cb i j hi hj) k
theorem RelOk.wrCell (x : RelOk br bo c rb n m h) (i j : Nat) (hi : i ≤ n) (hj : j ≤ n) {cr : Nat} {v : Bool} {K : Heap → Prop} (k : K (sc h ⟨rb i, j, none⟩ (.bool v))) :
    ixS ⟨some ⟨rb i, 0, none⟩, n + 1, cr⟩ (j : Int) fun q => sto h (q.add ((j : Int).toNat * 1)) (.bool v) fun h' => K h' := by
  refine ixS_i rfl (by omega) (by show (j : Int) < ((n + 1 : Nat) : Int); omega) ?_
  simp only [add_plain, Nat.zero_add, Int.toNat_natCast, Nat.mul_one]
  obtain ⟨cs, kc, r⟩ := x.row i hi
  exact sto_i kc (Array.getElem?_eq_some_iff.1 (r j hj)).1 k
theorem RelOk.congr (x : RelOk br bo c rb n m h) {m' : Nat → Nat → Bool} (e : ∀ i j, i ≤ n → j ≤ n → m i j = m' i j) : RelOk br bo c rb n m' h :=
  ⟨x.st, x.out, fun i hi => by obtain ⟨cs, k, r⟩ := x.row i hi; exact ⟨cs, k, fun j hj => by rw [r j hj, e i j hi hj]⟩, x.ne, x.ner, x.inj⟩
end

/-- with one pair more -/
def addM (m : Nat → Nat → Bool) (a b : Nat) : Nat → Nat → Bool := fun i j => m i j || (m i a && m b j)
/-- closed: each outlives itself, 0 outlives all, and so on -/
structure Clo (n : Nat) (m : Nat → Nat → Bool) : Prop where
  refl : ∀ i, i ≤ n → m i i = true
  zero : ∀ j, j ≤ n → m 0 j = true
  trans : ∀ i j k, i ≤ n → j ≤ n → k ≤ n → m i j = true → m j k = true → m i k = true
def m0 : Nat → Nat → Bool := fun i j => decide (i = j) || decide (i = 0)
theorem Clo.m0 (n : Nat) : Clo n m0 := by
  refine ⟨fun i _ => by simp [Proofs.Ythpfblimfaefhaa.m0], fun j _ => by simp [Proofs.Ythpfblimfaefhaa.m0], fun i j k _ _ _ h1 h2 => ?_⟩
  simp [Proofs.Ythpfblimfaefhaa.m0] at *
  omega
theorem Clo.add {n : Nat} {m : Nat → Nat → Bool} (C : Clo n m) {a b : Nat} (ha : a ≤ n) (hb : b ≤ n) : Clo n (addM m a b) := by
  refine ⟨fun i hi => by simp [addM, C.refl i hi], fun j hj => by simp [addM, C.zero j hj], fun i j k hi hj hk h1 h2 => ?_⟩
  simp only [addM, Bool.or_eq_true, Bool.and_eq_true] at *
  rcases h1 with h1 | ⟨h1, h1'⟩ <;> rcases h2 with h2 | ⟨h2, h2'⟩
  · exact .inl (C.trans i j k hi hj hk h1 h2)
  · exact .inr ⟨C.trans i j a hi hj ha h1 h2, h2'⟩
  · exact .inr ⟨h1, C.trans b j k hb hj hk h1' h2⟩
  · exact .inr ⟨h1, h2'⟩

theorem add_nil (a b : Int) (h : Heap) : CallsH Try.prog 14 #[.pointer none, .int .i64 a, .int .i64 b] h (fun v h' => h = h' ∧ v = .int .i64 14) := by
  apply F14
  unfold L14
  refine cal_of (known_nil a) ?_
  rintro _ _ ⟨rfl, rfl⟩
  refine ⟨_, rfl, fun b' h' => h = h' ∧ b' = true, ⟨fun _ => ⟨rfl, rfl⟩, fun e => (by cases e)⟩, ?_⟩
  rintro _ _ ⟨rfl, rfl⟩
  exact ⟨fun _ => ⟨rfl, rfl⟩, fun e => (by cases e)⟩

section
variable {br bo c : Nat} {rb : Nat → Nat} {n : Nat} {m : Nat → Nat → Bool} {h : Heap}

theorem add_bad (x : RelOk br bo c rb n m h) (a b : Int) (hab : (inR n a && inR n b) = false) : CallsH Try.prog 14 #[.pointer (some ⟨br, 0, none⟩), .int .i64 a, .int .i64 b] h (fun v h' => h = h' ∧ v = .int .i64 14) := by
  apply F14
  unfold L14
  refine cal_of (known_spec x.cn a) ?_
  rintro _ _ ⟨rfl, rfl⟩
  refine ⟨_, rfl, fun b' h' => h = h' ∧ b' = !(inR n a && inR n b), ⟨fun e => ⟨rfl, ?_⟩, fun e => ?_⟩, ?_⟩
  · rw [hab]; rfl
  · refine cal_of (known_spec x.cn b) ?_
    rintro _ _ ⟨rfl, rfl⟩
    exact ⟨_, rfl, rfl, by simp only [inR] at *; simp at e; simp [e]⟩
  · rintro _ _ ⟨rfl, rfl⟩
    rw [hab]
    exact ⟨fun _ => ⟨rfl, rfl⟩, fun e => (by cases e)⟩

/-- the table while Add has done `k` rows and `q` cells of the next one -/
def stepM (m : Nat → Nat → Bool) (a b k q : Nat) : Nat → Nat → Bool := fun i j => if i < k ∨ (i = k ∧ j < q) then addM m a b i j else m i j

theorem add_spec (x : RelOk br bo c rb n m h) (C : Clo n m) (a b : Nat) (ha : a ≤ n) (hb : b ≤ n) (hn : n ≤ 300) :
    CallsH Try.prog 14 #[.pointer (some ⟨br, 0, none⟩), .int .i64 a, .int .i64 b] h (fun v h' => v = .int .i64 0 ∧ RelOk br bo c rb n (addM m a b) h' ∧ Fr (RelB br bo rb n) h h') := by
  apply F14
  unfold L14
  refine cal_of (known_spec x.cn a) ?_
  rintro _ _ ⟨rfl, rfl⟩
  refine ⟨_, rfl, fun b' h' => h = h' ∧ b' = false, ⟨fun e => ?_, fun e => ?_⟩, ?_⟩
  · simp at e; omega
  · refine cal_of (known_spec x.cn b) ?_
    rintro _ _ ⟨rfl, rfl⟩
    exact ⟨_, rfl, rfl, by simp; omega⟩
  rintro _ _ ⟨rfl, rfl⟩
  refine ⟨fun e => (by cases e), fun _ => ?_⟩
  refine x.rdRow a ha fun cr => x.rdCell a b ha hb ?_
  refine ⟨fun hm => ?_, fun hm => ?_⟩
  · refine ⟨rfl, x.congr fun i j hi hj => ?_, Fr.refl _ _⟩
    simp only [addM]
    cases h1 : m i j with
    | true => rfl
    | false =>
      cases h2 : m i a with
      | false => rfl
      | true =>
        cases h3 : m b j with
        | false => rfl
        | true => rw [C.trans i b j hi hb hj (C.trans i a b hi ha hb h2 hm) h3] at h1; cases h1
  refine x.rdTab ?_
  refine ⟨fun y h4 => ∃ k : Nat, y = k ∧ k ≤ n + 1 ∧ RelOk br bo c rb n (stepM m a b k 0) h4 ∧ Fr (RelB br bo rb n) h h4, fun y _ => (n + 1 - y).toNat, ?_, ?_⟩
  · exact ⟨0, rfl, by omega, x.congr fun i j _ _ => by simp [stepM], Fr.refl _ _⟩
  rintro y h4 ⟨k, rfl, hk, x4, f4⟩
  refine ifb_dec (fun hlt => ?_) (fun hge => ?_)
  · have hkn : k ≤ n := by have : (k : Int) < ((n + 1 : Nat) : Int) := hlt; omega
    have hwk : IntKind.i64.wrap ((k : Int) + 1) = ((k + 1 : Nat) : Int) := by rw [wrap64_id (by omega) (by omega)]; omega
    refine ⟨fun h9 => RelOk br bo c rb n (stepM m a b (k + 1) 0) h9 ∧ Fr (RelB br bo rb n) h h9, ?_, fun h9 h => ⟨⟨k + 1, hwk, by omega, h.1, h.2⟩, by rw [hwk]; dsimp only; omega⟩⟩
    refine x4.rdRow k hkn fun cr => x4.rdCell k a hkn ha ?_
    have hka : stepM m a b k 0 k a = m k a := by simp [stepM]
    rw [hka]
    refine ⟨fun hf => ?_, fun hf => ?_⟩
    · have hf : m k a = false := by simpa using hf
      refine ⟨x4.congr fun i j hi hj => ?_, f4⟩
      by_cases e : i = k
      · subst e; simp [stepM, addM, hf]
      · have e1 : (i < k + 1) = (i < k) := by apply propext; omega
        simp [stepM, e, e1]
    have hf : m k a = true := by simpa using hf
    refine x4.rdRow k hkn fun cr' => ?_
    refine ⟨fun z h5 => ∃ q : Nat, z = q ∧ q ≤ n + 1 ∧ RelOk br bo c rb n (stepM m a b k q) h5 ∧ Fr (RelB br bo rb n) h h5, fun z _ => (n + 1 - z).toNat, ⟨0, rfl, by omega, x4, f4⟩, ?_⟩
    rintro z h5 ⟨q, rfl, hq, x5, f5⟩
    refine ifb_dec (fun hql => ?_) (fun hqg => ?_)
    · have hqn : q ≤ n := by have : (q : Int) < ((n + 1 : Nat) : Int) := hql; omega
      have hwq : IntKind.i64.wrap ((q : Int) + 1) = ((q + 1 : Nat) : Int) := by rw [wrap64_id (by omega) (by omega)]; omega
      refine ⟨fun h9 => RelOk br bo c rb n (stepM m a b k (q + 1)) h9 ∧ Fr (RelB br bo rb n) h h9, ?_, fun h9 h => ⟨⟨q + 1, hwq, by omega, h.1, h.2⟩, by rw [hwq]; dsimp only; omega⟩⟩
      have hkq : stepM m a b k q k q = m k q := by simp [stepM]
      have hbq : stepM m a b k q b q = m b q := by
        simp only [stepM]
        split
        · simp only [addM]
          cases h1 : m b q <;> simp
        · rfl
      have fin : ∀ v : Bool, v = addM m a b k q → RelOk br bo c rb n (stepM m a b k (q + 1)) (sc h5 ⟨rb k, q, none⟩ (.bool v)) ∧ Fr (RelB br bo rb n) h (sc h5 ⟨rb k, q, none⟩ (.bool v)) := by
        rintro v rfl
        refine ⟨(x5.set k q hkn hqn (addM m a b k q)).congr fun i j hi hj => ?_, f5.trans (Fr.sc _ (p := ⟨rb k, q, none⟩) (.inr (.inr ⟨k, hkn, rfl⟩)) _)⟩
        by_cases e : i = k ∧ j = q
        · obtain ⟨rfl, rfl⟩ := e
          simp [stepM]
        · simp only [if_neg e, stepM]
          have : (i < k ∨ i = k ∧ j < q) ↔ (i < k ∨ i = k ∧ j < q + 1) := by omega
          by_cases e1 : i < k ∨ i = k ∧ j < q
          · rw [if_pos e1, if_pos (this.1 e1)]
          · rw [if_neg e1, if_neg (fun h => e1 (this.2 h))]
      refine x5.rdRow k hkn fun c1 => x5.rdRow k hkn fun c2 => x5.rdCell k q hkn hqn ?_
      rw [hkq]
      refine ⟨fun h1 => x5.wrCell k q hkn hqn (fin _ (by simp [addM, h1])), fun h1 => ?_⟩
      refine x5.rdRow b hb fun c3 => x5.rdCell b q hb hqn ?_
      rw [hbq]
      exact x5.wrCell k q hkn hqn (fin _ (by simp [addM, h1, hf]))
    · have hqe : q = n + 1 := by have : ¬ (q : Int) < ((n + 1 : Nat) : Int) := hqg; omega
      subst hqe
      refine ⟨x5.congr fun i j hi hj => ?_, f5⟩
      have : (i < k ∨ i = k ∧ j < n + 1) ↔ (i < k + 1 ∨ i = k + 1 ∧ j < 0) := by omega
      by_cases e1 : i < k ∨ i = k ∧ j < n + 1
      · simp only [stepM]; rw [if_pos e1, if_pos (this.1 e1)]
      · simp only [stepM]; rw [if_neg e1, if_neg (fun h => e1 (this.2 h))]
  · have hke : k = n + 1 := by have : ¬ (k : Int) < ((n + 1 : Nat) : Int) := hge; omega
    subst hke
    exact ⟨rfl, x4.congr fun i j hi hj => by simp only [stepM]; rw [if_pos (.inl (by omega))], f4⟩
end

theorem outlived_spec (h : Heap) : CallsH Try.prog 9 #[] h (fun v h' => v = .bool true ∧ Grow h h') := by
  apply F9
  unfold L9
  refine cal_of (new_spec 3 h (by omega)) ?_
  rintro _ h1 ⟨br, bo, c, rb, rfl, x1, f1, hB⟩
  refine ⟨_, rfl, _, rfl, _, rfl, _, rfl, _, rfl, ?_⟩
  refine ⟨fun e => (by simp at e), fun _ => ?_⟩
  refine cal_of (add_spec x1 (Clo.m0 3) 1 2 (by omega) (by omega) (by omega)) ?_
  rintro _ h2 ⟨rfl, x2, f2⟩
  have C2 := (Clo.m0 3).add (a := 1) (b := 2) (by omega) (by omega)
  have fix : ∀ {h'}, Fr (RelB br bo rb 3) h1 h' → Grow h h' := fun f => f1.trans' f fun i hi hb => by have := hB i hb; omega
  refine ⟨_, rfl, fun b h3 => b = true ∧ RelOk br bo c rb 3 (addM (addM m0 1 2) 2 3) h3 ∧ Fr (RelB br bo rb 3) h1 h3, ⟨fun _ => ?_, fun e => (by simp at e)⟩, ?_⟩
  · refine cal_of (add_spec x2 C2 2 3 (by omega) (by omega) (by omega)) ?_
    rintro _ h3 ⟨rfl, x3, f3⟩
    exact ⟨_, rfl, rfl, x3, f2.trans f3⟩
  rintro _ h3 ⟨rfl, x3, f3⟩
  refine ⟨fun b h5 => b = true ∧ h3 = h5, ⟨fun _ => ?_, fun e => (by cases e)⟩, ?_⟩
  · refine cal_of (has_spec x3 1 3) ?_
    rintro _ _ ⟨rfl, rfl⟩
    exact ⟨_, rfl, rfl, rfl⟩
  rintro _ _ ⟨rfl, rfl⟩
  refine ⟨fun b h5 => b = true ∧ h3 = h5, ⟨fun _ => ?_, fun e => (by cases e)⟩, ?_⟩
  · refine cal_of (has_spec x3 3 1) ?_
    rintro _ _ ⟨rfl, rfl⟩
    exact ⟨_, rfl, rfl, rfl⟩
  rintro _ _ ⟨rfl, rfl⟩
  refine ⟨fun b h5 => b = true ∧ h3 = h5, ⟨fun _ => ?_, fun e => (by cases e)⟩, ?_⟩
  · refine cal_of (has_spec x3 0 3) ?_
    rintro _ _ ⟨rfl, rfl⟩
    exact ⟨_, rfl, rfl, rfl⟩
  rintro _ _ ⟨rfl, rfl⟩
  refine ⟨fun b h5 => b = true ∧ h3 = h5, ⟨fun _ => ?_, fun e => (by cases e)⟩, ?_⟩
  · refine cal_of (len_spec x3) ?_
    rintro _ _ ⟨rfl, rfl⟩
    exact ⟨_, rfl, rfl, rfl⟩
  rintro _ _ ⟨rfl, rfl⟩
  exact ⟨rfl, fix f3⟩
end Go.Proofs.Ythpfblimfaefhaa

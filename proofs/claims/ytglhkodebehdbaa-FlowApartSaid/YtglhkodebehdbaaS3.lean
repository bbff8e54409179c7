/-
  Sets of facts, as words of bits: put, join, through.
-/
import Derived.Test.YtglhkodebehdbaaS2
namespace Go.Proofs.Ytglhkodebehdbaa
open Go Go.Lf

theorem div_word {m : Nat} (hm : m ≤ 100000000) : IntKind.i64.wrap ((m : Int).tdiv 64) = ((m / 64 : Nat) : Int) := by
  have e : (m : Int).tdiv 64 = ((m / 64 : Nat) : Int) := by rw [Int.tdiv_eq_ediv_of_nonneg (by omega)]; omega
  rw [e, wrap64_id (by omega) (by omega)]
theorem mod_word (m : Nat) : (m : Int).tmod 64 = ((m % 64 : Nat) : Int) := by
  rw [Int.tmod_eq_emod_of_nonneg (by omega)]; omega
theorem bit_at {m e : Nat} : (e / 64 = m / 64 ∧ e % 64 = m % 64) ↔ e = m := by omega

theorem put_spec {h0 h : Heap} {g nw c : Nat} {f : Nat → Bool} {l : Sv} {xs : List Int} (x : IntsAt h0 l xs) (g0 : Grow h0 h) (hg : h0.size ≤ g) (W : WordsAt h g nw f)
    (hx : ∀ y ∈ xs, 0 ≤ y ∧ y < ((64 * nw : Nat) : Int)) (hnw : nw ≤ 1000000) (hl : xs.length ≤ 1000000) :
    CallsH Try.prog 24 #[.slice (some ⟨g, 0, none⟩) nw c, .slice l.a l.n l.c] h (fun _ h' => WordsAt h' g nw (fun e => f e || decide ((e : Int) ∈ xs)) ∧ Fr (fun b => b = g) h h') := by
  have F := @F24 ⟨some ⟨g, 0, none⟩, nw, c⟩ l h
  refine F ?_
  unfold L24
  have hln := x.len
  refine ⟨fun y h1 => ∃ k : Nat, y = k ∧ k ≤ xs.length ∧ WordsAt h1 g nw (fun e => f e || decide ((e : Int) ∈ xs.take k)) ∧ Fr (fun b => b = g) h h1, fun y _ => (xs.length - y).toNat, ⟨0, rfl, by omega, W.congr (by simp), Fr.refl _ _⟩, ?_⟩
  rintro y h1 ⟨k, rfl, hk, W1, f1⟩
  refine ifb_dec (fun hlt => ?_) (fun hge => ?_)
  · have hkl : k < xs.length := by omega
    have hwk : IntKind.i64.wrap ((k : Int) + 1) = ((k + 1 : Nat) : Int) := by rw [wrap64_id (by omega) (by omega)]; omega
    have g1 : Grow h0 h1 := g0.trans' f1 fun i hi e => by omega
    refine (x.keep g1 fun _ _ h => h).get hkl ?_
    obtain ⟨m, em⟩ := Int.eq_ofNat_of_zero_le (hx _ (List.getElem_mem hkl)).1
    have hm := (hx _ (List.getElem_mem hkl)).2
    rw [em] at hm ⊢
    have hm' : m < 64 * nw := by omega
    have hb : m % 64 < 64 := by omega
    rw [div_word (by omega), mod_word]
    obtain ⟨w, cw, hw⟩ := W1.cell (k := m / 64) (by omega)
    refine ixS_i rfl (by omega) (by show ((m / 64 : Nat) : Int) < (nw : Int); omega) (ldI_i (x := (w.toNat : Int)) (by simpa only [add_plain, Int.toNat_natCast, Nat.zero_add, Nat.mul_one] using cw) ⟨by omega, ?_⟩)
    refine ixS_i rfl (by omega) (by show ((m / 64 : Nat) : Int) < (nw : Int); omega) ?_
    rw [Int.toNat_natCast, Int.toNat_natCast, one_word hb, bitsI_or, add_plain, Nat.zero_add, Nat.mul_one]
    refine W1.put (by omega) _ fun h2 W2 f2 => ⟨⟨k + 1, hwk, by omega, W2.congr fun e he => ?_, f1.trans f2⟩, by rw [hwk]; (try dsimp only); omega⟩
    rw [List.take_succ_eq_append_getElem hkl, em]
    by_cases e1 : e / 64 = m / 64
    · have h3 := hw (e % 64) (by omega)
      have e2 : 64 * (m / 64) + e % 64 = e := by omega
      rw [e2] at h3
      rw [if_pos e1, BitVec.getLsbD_or, h3, one_bit hb, Bool.eq_iff_iff]
      have : e % 64 = m % 64 ↔ (e : Int) = m := by omega
      simp [this, or_assoc]
    · rw [if_neg e1, Bool.eq_iff_iff]
      have : ¬ (e : Int) = m := fun h => e1 (by have : e = m := by omega
                                                rw [this])
      simp [this]
  · have : k = xs.length := by omega
    subst this
    rw [List.take_length] at W1
    exact ⟨W1, f1⟩

theorem join_spec {h : Heap} {g1 g2 nw c1 c2 : Nat} {f1 f2 : Nat → Bool} (W1 : WordsAt h g1 nw f1) (W2 : WordsAt h g2 nw f2) (hne : g2 ≠ g1) (hnw : nw ≤ 1000000) :
    CallsH Try.prog 26 #[.slice (some ⟨g1, 0, none⟩) nw c1, .slice (some ⟨g2, 0, none⟩) nw c2] h (fun v h' => ∃ b, v = .bool b ∧ WordsAt h' g1 nw (fun e => f1 e || f2 e) ∧ Fr (fun b => b = g1) h h' ∧
      (b = true → ∃ e, e < 64 * nw ∧ f2 e = true ∧ f1 e = false) ∧ (b = false → ∀ e, e < 64 * nw → f2 e = true → f1 e = true)) := by
  have F := @F26 ⟨some ⟨g1, 0, none⟩, nw, c1⟩ ⟨some ⟨g2, 0, none⟩, nw, c2⟩ h
  refine F ?_
  unfold L26
  refine ⟨fun b y h1 => ∃ k : Nat, y = k ∧ k ≤ nw ∧ WordsAt h1 g1 nw (fun e => f1 e || (decide (e < 64 * k) && f2 e)) ∧ Fr (fun b => b = g1) h h1 ∧
      (b = true → ∃ e, e < 64 * nw ∧ f2 e = true ∧ f1 e = false) ∧ (b = false → ∀ e, e < 64 * k → f2 e = true → f1 e = true), fun _ y _ => (nw - y).toNat,
    ⟨0, rfl, by omega, W1.congr (by simp), Fr.refl _ _, (by intro e; cases e), fun _ e he => (by omega)⟩, ?_⟩
  rintro b y h1 ⟨k, rfl, hk, V1, fr, hb1, hb2⟩
  refine ifb_dec (fun hlt => ?_) (fun hge => ?_)
  · have hkl : k < nw := by have : (k : Int) < (nw : Int) := hlt; omega
    have hwk : IntKind.i64.wrap ((k : Int) + 1) = ((k + 1 : Nat) : Int) := by rw [wrap64_id (by omega) (by omega)]; omega
    have V2 := W2.frame fr hne
    obtain ⟨w, cw, hw⟩ := V2.cell hkl
    obtain ⟨u, cu, hu⟩ := V1.cell hkl
    refine ⟨fun b' h3 => WordsAt h3 g1 nw (fun e => f1 e || (decide (e < 64 * (k + 1)) && f2 e)) ∧ Fr (fun b => b = g1) h h3 ∧
      (b' = true → ∃ e, e < 64 * nw ∧ f2 e = true ∧ f1 e = false) ∧ (b' = false → ∀ e, e < 64 * (k + 1) → f2 e = true → f1 e = true), ?_,
      fun b' h3 ⟨q1, q2, q3, q4⟩ => ⟨⟨k + 1, hwk, by omega, q1, q2, q3, q4⟩, by rw [hwk]; (try dsimp only); omega⟩⟩
    have ix : ∀ {a c : Nat} {K : Addr → Prop}, K ⟨a, 0, none⟩ → ixS ⟨some ⟨a, 0, none⟩, nw, c⟩ (k : Int) K := fun kk => ixS_i rfl (by omega) (by show (k : Int) < (nw : Int); omega) kk
    have cw' : cl h1 ((⟨g2, 0, none⟩ : Addr).add ((k : Int).toNat * 1)) = some (.int .u64 (w.toNat : Int)) := by simpa only [add_plain, Int.toNat_natCast, Nat.zero_add, Nat.mul_one] using cw
    have cu' : cl h1 ((⟨g1, 0, none⟩ : Addr).add ((k : Int).toNat * 1)) = some (.int .u64 (u.toNat : Int)) := by simpa only [add_plain, Int.toNat_natCast, Nat.zero_add, Nat.mul_one] using cu
    refine ix (ldI_i cw' (ix (ldI_i cu' ?_)))
    rw [bitsI_andNot]
    have old : ∀ e, 64 * k ≤ e → e < 64 * (k + 1) → u.getLsbD (e % 64) = f1 e ∧ w.getLsbD (e % 64) = f2 e := by
      intro e h1 h2
      have e2 : 64 * k + e % 64 = e := by omega
      have a1 := hu (e % 64) (by omega)
      have a2 := hw (e % 64) (by omega)
      rw [e2] at a1 a2
      have : ¬ e < 64 * k := by omega
      exact ⟨by simpa [this] using a1, a2⟩
    refine ⟨fun hz => ?_, fun hz => ?_⟩
    · refine ix (ldI_i cu' (ix ?_))
      rw [bitsI_or, Int.toNat_natCast, add_plain, Nat.zero_add, Nat.mul_one]
      refine V1.put hkl _ fun h2 V3 fr2 => ⟨V3.congr fun e he => ?_, fr.trans fr2, fun _ => ?_, fun e => (by cases e)⟩
      · by_cases e1 : e / 64 = k
        · obtain ⟨o1, o2⟩ := old e (by omega) (by omega)
          have l1 : e < 64 * (k + 1) := by omega
          rw [if_pos e1, BitVec.getLsbD_or, o1, o2]
          simp [l1]
        · rw [if_neg e1]
          have : e < 64 * (k + 1) ↔ e < 64 * k := by omega
          simp [this]
      · have hnz : (w &&& ~~~u) ≠ 0#64 := fun h0 => by rw [h0] at hz; simp at hz
        obtain ⟨b0, hb0⟩ : ∃ b0, b0 < 64 ∧ (w &&& ~~~u).getLsbD b0 = true := by
          refine Classical.byContradiction fun hno => hnz (BitVec.eq_of_getLsbD_eq fun i hi => ?_)
          rw [BitVec.getLsbD_zero]
          cases hc : (w &&& ~~~u).getLsbD i with
          | false => rfl
          | true => exact absurd ⟨i, hi, hc⟩ hno
        obtain ⟨o1, o2⟩ := old (64 * k + b0) (by omega) (by omega)
        have e2 : (64 * k + b0) % 64 = b0 := by omega
        rw [e2] at o1 o2
        have h3 := hb0.2
        rw [BitVec.getLsbD_and, BitVec.getLsbD_not, o1, o2] at h3
        simp at h3
        exact ⟨64 * k + b0, by omega, h3.1, h3.2.2⟩
    · have hz' : (w &&& ~~~u) = 0#64 := by
        have : ((w &&& ~~~u).toNat : Int) = 0 := by simpa using hz
        apply BitVec.eq_of_toNat_eq
        simp only [BitVec.toNat_zero]
        exact Int.ofNat.inj this
      have sub : ∀ e, 64 * k ≤ e → e < 64 * (k + 1) → f2 e = true → f1 e = true := by
        intro e h1 h2 h3
        obtain ⟨o1, o2⟩ := old e h1 h2
        have h4 : (w &&& ~~~u).getLsbD (e % 64) = false := by rw [hz']; simp
        rw [BitVec.getLsbD_and, BitVec.getLsbD_not, o1, o2, h3] at h4
        have : e % 64 < 64 := by omega
        simpa [this] using h4
      refine ⟨V1.congr fun e he => ?_, fr, hb1, fun hb e he h3 => ?_⟩
      · by_cases h2 : e < 64 * (k + 1)
        · by_cases h3 : e < 64 * k
          · simp [h2, h3]
          · cases hf : f2 e with
            | false => simp
            | true => simp [sub e (by omega) h2 hf]
        · have : ¬ e < 64 * k := by omega
          simp [h2, this]
      · by_cases h4 : e < 64 * k
        · exact hb2 hb e h4 h3
        · exact sub e (by omega) he h3
  · have hkn : k = nw := by have : ¬ (k : Int) < (nw : Int) := hge; omega
    subst hkn
    exact ⟨b, rfl, V1.congr fun e he => by simp [he], fr, hb1, hb2⟩
end Go.Proofs.Ytglhkodebehdbaa

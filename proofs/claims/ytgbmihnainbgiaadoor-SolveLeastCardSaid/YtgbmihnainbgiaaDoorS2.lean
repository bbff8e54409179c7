/-
  region, element, Has, join, push: walked.
-/
import Derived.Test.YtgbmihnainbgiaaDoorS1
namespace Go.Proofs.YtgbmihnainbgiaaDoor
open Go Go.Lf

theorem region_nil (h : Heap) (r : Int) : CallsH Tryd.prog 15 #[.pointer none, .int .i64 r] h (fun v h' => h = h' ∧ v = .bool false) := by
  apply F15
  unfold L15
  refine ⟨fun b => b = false, ⟨fun e => by simp at e, fun _ => rfl⟩, ?_⟩
  rintro _ rfl
  exact ⟨rfl, rfl⟩
def reg (n : Nat) (r : Int) : Bool := decide (0 ≤ r ∧ r < n)
theorem reg_nat {n r : Nat} : reg n r = decide (r < n) := by simp [reg]
theorem reg_iff {n : Nat} {r : Int} : reg n r = true ↔ ∃ i : Nat, r = i ∧ i < n := by
  simp only [reg, decide_eq_true_eq]
  constructor
  · intro h
    obtain ⟨i, rfl⟩ := Int.eq_ofNat_of_zero_le h.1
    exact ⟨i, rfl, by omega⟩
  · rintro ⟨i, rfl, h⟩
    omega

/-- what Has tells -/
def hasD (x : Sh) (d : Sd) (r e : Int) : Bool := reg x.n r && reg x.W e && d.S r.toNat e.toNat
theorem has_nil (h : Heap) (r e : Int) : CallsH Tryd.prog 10 #[.pointer none, .int .i64 r, .int .i64 e] h (fun v h' => h = h' ∧ v = .bool false) := by
  apply F10
  unfold L10
  refine cal_of (region_nil h r) ?_
  rintro _ _ ⟨rfl, rfl⟩
  refine ⟨_, rfl, fun b h' => b = false ∧ h = h', ⟨fun e => (by cases e), fun _ => ⟨rfl, rfl⟩⟩, ?_⟩
  rintro _ _ ⟨rfl, rfl⟩
  refine ⟨fun b => b = false, ⟨fun e => (by cases e), fun _ => rfl⟩, ?_⟩
  rintro _ rfl
  exact ⟨rfl, rfl⟩

section
variable {x : Sh} {d : Sd} {h : Heap}
theorem region_spec (k : SolOk x d h) (r : Int) : CallsH Tryd.prog 15 #[.pointer (some ⟨x.bs, 0, none⟩), .int .i64 r] h (fun v h' => h = h' ∧ v = .bool (reg x.n r)) := by
  apply F15
  unfold L15
  refine ⟨fun b => b = reg x.n r, ⟨fun e => nn_i (ldI_i k.cn ?_), fun e => ?_⟩, ?_⟩
  · have : 0 ≤ r := by simpa using e
    simp [reg, this]
  · have : ¬ 0 ≤ r := by simpa using e
    simp [reg, this]
  rintro _ rfl
  exact ⟨rfl, rfl⟩
theorem element_spec (k : SolOk x d h) (r : Int) : CallsH Tryd.prog 17 #[.pointer (some ⟨x.bs, 0, none⟩), .int .i64 r] h (fun v h' => h = h' ∧ v = .bool (reg x.W r)) := by
  apply F17
  unfold L17
  refine ⟨fun b => b = reg x.W r, ⟨fun e => nn_i (ldI_i (by rw [add_plain]; exact k.cw) ?_), fun e => ?_⟩, ?_⟩
  · have : 0 ≤ r := by simpa using e
    simp [reg, this]
  · have : ¬ 0 ≤ r := by simpa using e
    simp [reg, this]
  rintro _ rfl
  exact ⟨rfl, rfl⟩
theorem has_spec (k : SolOk x d h) (hW : x.W ≤ 2700) (r e : Int) : CallsH Tryd.prog 10 #[.pointer (some ⟨x.bs, 0, none⟩), .int .i64 r, .int .i64 e] h (fun v h' => h = h' ∧ v = .bool (hasD x d r e)) := by
  apply F10
  unfold L10
  refine cal_of (region_spec k r) ?_
  rintro _ _ ⟨rfl, rfl⟩
  refine ⟨_, rfl, fun b h' => b = (reg x.n r && reg x.W e) ∧ h = h', ⟨fun er => ?_, fun er => ⟨by rw [er]; rfl, rfl⟩⟩, ?_⟩
  · refine cal_of (element_spec k e) ?_
    rintro _ _ ⟨rfl, rfl⟩
    exact ⟨_, rfl, by rw [er]; rfl, rfl⟩
  rintro _ _ ⟨rfl, rfl⟩
  refine ⟨fun b => b = hasD x d r e, ⟨fun er => ?_, fun er => by simp only [hasD, er, Bool.false_and]⟩, ?_⟩
  · obtain ⟨h1, h2⟩ := Bool.and_eq_true_iff.1 er
    obtain ⟨r, rfl, hr⟩ := reg_iff.1 h1
    obtain ⟨e, rfl, he⟩ := reg_iff.1 h2
    refine nn_i (ldS_i (s := x.tb) (by rw [add_plain]; exact k.ct) (k.get hr ?_))
    rw [div_word (by omega), mod_word]
    have hnw : e / 64 < x.nw := by unfold Sh.nw; omega
    obtain ⟨w, cw, hw⟩ := (k.row r hr).cell hnw
    refine ixS_i rfl (by omega) (by show ((e / 64 : Nat) : Int) < (x.nw : Int); omega) (ldI_i (x := (w.toNat : Int)) (by simpa only [add_plain, Int.toNat_natCast, Nat.zero_add, Nat.mul_one] using cw) ⟨by omega, ?_⟩)
    have hb : e % 64 < 64 := by omega
    rw [Int.toNat_natCast, bit_of w hb, hw _ hb]
    have e2 : 64 * (e / 64) + e % 64 = e := by omega
    rw [e2]
    simp only [hasD, er, Bool.true_and, Int.toNat_natCast]
  rintro _ rfl
  exact ⟨rfl, rfl⟩

/-- one region's set into another one's -/
theorem join_spec (k : SolOk x d h) (hW : x.W ≤ 2700) {a b : Nat} (ha : a < x.n) (hb : b < x.n) :
    CallsH Tryd.prog 21 #[.pointer (some ⟨x.bs, 0, none⟩), .int .i64 a, .int .i64 b] h (fun v h' => ∃ nb, v = .bool nb ∧ SolOk x { d with S := fun j => if j = a then fun e => d.S a e || d.S b e else d.S j } h' ∧ Fr (fun i => i = x.rb a) h h' ∧
      (nb = true → ∃ e, e < 64 * x.nw ∧ d.S b e = true ∧ d.S a e = false) ∧ (nb = false → ∀ e, e < 64 * x.nw → d.S b e = true → d.S a e = true)) := by
  apply F21
  unfold L21
  refine nn_i (ldS_i (s := x.tb) (by rw [add_plain]; exact k.ct) (k.get hb ?_))
  have hnw : x.nw ≤ 1000 := by unfold Sh.nw; omega
  have W1 := k.row a ha
  have W2 := k.row b hb
  refine ⟨fun nb y h1 => ∃ i : Nat, y = i ∧ i ≤ x.nw ∧ WordsAt h1 (x.rb a) x.nw (fun e => d.S a e || (decide (e < 64 * i) && d.S b e)) ∧ Fr (fun i => i = x.rb a) h h1 ∧
      (nb = true → ∃ e, e < 64 * x.nw ∧ d.S b e = true ∧ d.S a e = false) ∧ (nb = false → ∀ e, e < 64 * i → d.S b e = true → d.S a e = true), fun _ y _ => (x.nw - y).toNat,
    ⟨0, rfl, by omega, W1.congr (by simp), Fr.refl _ _, (by intro e; cases e), fun _ e he => (by omega)⟩, ?_⟩
  rintro nb y h1 ⟨i, rfl, hi, V1, fr, hb1, hb2⟩
  have wa := k.w6 a ha
  have k1 : SolOk x { d with S := fun j => if j = a then fun e => d.S a e || (decide (e < 64 * i) && d.S b e) else d.S j } h1 := k.setRow ha fr V1
  refine ifb_dec (fun hlt => ?_) (fun hge => ?_)
  · have hil : i < x.nw := by have : (i : Int) < (x.nw : Int) := hlt; omega
    have hwi : IntKind.i64.wrap ((i : Int) + 1) = ((i + 1 : Nat) : Int) := by rw [wrap64_id (by omega) (by omega)]; omega
    refine ⟨fun b' h3 => WordsAt h3 (x.rb a) x.nw (fun e => d.S a e || (decide (e < 64 * (i + 1)) && d.S b e)) ∧ Fr (fun i => i = x.rb a) h h3 ∧
      (b' = true → ∃ e, e < 64 * x.nw ∧ d.S b e = true ∧ d.S a e = false) ∧ (b' = false → ∀ e, e < 64 * (i + 1) → d.S b e = true → d.S a e = true), ?_,
      fun b' h3 ⟨q1, q2, q3, q4⟩ => ⟨⟨i + 1, hwi, by omega, q1, q2, q3, q4⟩, by rw [hwi]; (try dsimp only); omega⟩⟩
    have V2 := k1.row b hb
    obtain ⟨w, cw, hw⟩ := V2.cell hil
    obtain ⟨u, cu, hu⟩ := V1.cell hil
    have old : ∀ e, 64 * i ≤ e → e < 64 * (i + 1) → u.getLsbD (e % 64) = d.S a e ∧ w.getLsbD (e % 64) = d.S b e := by
      intro e h1 h2
      have e2 : 64 * i + e % 64 = e := by omega
      have a1 := hu (e % 64) (by omega)
      have a2 := hw (e % 64) (by omega)
      rw [e2] at a1 a2
      have : ¬ e < 64 * i := by omega
      refine ⟨by simpa [this] using a1, ?_⟩
      by_cases hab : b = a
      · subst hab; simpa [this] using a2
      · simpa [hab] using a2
    have ix : ∀ {g c : Nat} {K : Addr → Prop}, K ⟨g, 0, none⟩ → ixS ⟨some ⟨g, 0, none⟩, x.nw, c⟩ (i : Int) K := fun kk => ixS_i rfl (by omega) (by show (i : Int) < (x.nw : Int); omega) kk
    have cw' : cl h1 ((⟨x.rb b, 0, none⟩ : Addr).add ((i : Int).toNat * 1)) = some (.int .u64 (w.toNat : Int)) := by simpa only [add_plain, Int.toNat_natCast, Nat.zero_add, Nat.mul_one] using cw
    have cu' : cl h1 ((⟨x.rb a, 0, none⟩ : Addr).add ((i : Int).toNat * 1)) = some (.int .u64 (u.toNat : Int)) := by simpa only [add_plain, Int.toNat_natCast, Nat.zero_add, Nat.mul_one] using cu
    refine ix (ldI_i cw' (nn_i (ldS_i (s := x.tb) (by rw [add_plain]; exact k1.ct) (k1.get ha (ix (ldI_i cu' ?_))))))
    rw [bitsI_andNot]
    refine ⟨fun hz => ?_, fun hz => ?_⟩
    · refine nn_i (ldS_i (s := x.tb) (by rw [add_plain]; exact k1.ct) (k1.get ha (ix (ldI_i cu' (ix ?_)))))
      rw [bitsI_or, Int.toNat_natCast, add_plain, Nat.zero_add, Nat.mul_one]
      refine V1.put hil _ fun h2 V3 fr2 => ⟨V3.congr fun e he => ?_, fr.trans fr2, fun _ => ?_, fun e => (by cases e)⟩
      · by_cases e1 : e / 64 = i
        · obtain ⟨o1, o2⟩ := old e (by omega) (by omega)
          have l1 : e < 64 * (i + 1) := by omega
          rw [if_pos e1, BitVec.getLsbD_or, o1, o2]
          simp [l1]
        · rw [if_neg e1]
          have : e < 64 * (i + 1) ↔ e < 64 * i := by omega
          simp [this]
      · have hnz : (w &&& ~~~u) ≠ 0#64 := fun h0 => by rw [h0] at hz; simp at hz
        obtain ⟨b0, hb0⟩ : ∃ b0, b0 < 64 ∧ (w &&& ~~~u).getLsbD b0 = true := by
          refine Classical.byContradiction fun hno => hnz (BitVec.eq_of_getLsbD_eq fun i hi => ?_)
          rw [BitVec.getLsbD_zero]
          cases hc : (w &&& ~~~u).getLsbD i with
          | false => rfl
          | true => exact absurd ⟨i, hi, hc⟩ hno
        obtain ⟨o1, o2⟩ := old (64 * i + b0) (by omega) (by omega)
        have e2 : (64 * i + b0) % 64 = b0 := by omega
        rw [e2] at o1 o2
        have h3 := hb0.2
        rw [BitVec.getLsbD_and, BitVec.getLsbD_not, o1, o2] at h3
        simp at h3
        exact ⟨64 * i + b0, by omega, h3.1, h3.2.2⟩
    · have hz' : (w &&& ~~~u) = 0#64 := by
        have : ((w &&& ~~~u).toNat : Int) = 0 := by simpa using hz
        apply BitVec.eq_of_toNat_eq
        simp only [BitVec.toNat_zero]
        exact Int.ofNat.inj this
      have sub : ∀ e, 64 * i ≤ e → e < 64 * (i + 1) → d.S b e = true → d.S a e = true := by
        intro e h1 h2 h3
        obtain ⟨o1, o2⟩ := old e h1 h2
        have h4 : (w &&& ~~~u).getLsbD (e % 64) = false := by rw [hz']; simp
        rw [BitVec.getLsbD_and, BitVec.getLsbD_not, o1, o2, h3] at h4
        have : e % 64 < 64 := by omega
        simpa [this] using h4
      refine ⟨V1.congr fun e he => ?_, fr, hb1, fun hb e he h3 => ?_⟩
      · by_cases h2 : e < 64 * (i + 1)
        · by_cases h3 : e < 64 * i
          · simp [h2, h3]
          · cases hf : d.S b e with
            | false => simp
            | true => simp [sub e (by omega) h2 hf]
        · have : ¬ e < 64 * i := by omega
          simp [h2, this]
      · by_cases h4 : e < 64 * i
        · exact hb2 hb e h4 h3
        · exact sub e (by omega) he h3
  · have hin : i = x.nw := by have : ¬ (i : Int) < (x.nw : Int) := hge; omega
    subst hin
    refine ⟨nb, rfl, ?_, fr, hb1, hb2⟩
    refine k.setRow ha fr (V1.congr fun e he => by simp [he])

theorem push_spec (k : SolOk x d h) {r : Nat} (hr : r < x.n) (hl : d.tl.length ≤ 100000000) :
    CallsH Tryd.prog 19 #[.pointer (some ⟨x.bs, 0, none⟩), .int .i64 r] h (fun _ h' => ∃ d' : Sd, SolOk x d' h' ∧ d'.S = d.S ∧ d'.ol = d.ol ∧ d'.os = d.os ∧ d'.F = (fun j => if j = r then true else d.F j) ∧ (d'.tl = d.tl ++ [r] ∨ (d'.tl = d.tl ∧ d.F r = true)) ∧
      Fr (fun b => d.w b ≠ 0) h h' ∧ (∀ b, b < h.size → d'.w b = d.w b)) := by
  apply F19
  unfold L19
  have cf := k.inn.cell hr
  refine nn_i (ldS_i (s := ⟨some ⟨x.ib, 0, none⟩, x.n, x.n⟩) (by rw [add_plain]; exact k.ci) (ixS_i rfl (by omega) (by show (r : Int) < (x.n : Int); omega) (ldB_i (x := d.F r) (by rw [Int.toNat_natCast, Nat.mul_one, add_plain, Nat.zero_add]; exact cf) ?_)))
  refine ⟨fun hf => ?_, fun hf => ?_⟩
  · refine nn_i (ldS_i (s := ⟨some ⟨x.ib, 0, none⟩, x.n, x.n⟩) (by rw [add_plain]; exact k.ci) (ixS_i rfl (by omega) (by show (r : Int) < (x.n : Int); omega) ?_))
    rw [Int.toNat_natCast, Nat.mul_one, add_plain, Nat.zero_add]
    refine k.inn.put hr true fun h1 B1 f1 => ?_
    have k1 := k.setIn f1 B1
    refine nn_i (ldS_i (s := d.td) (by rw [add_plain]; exact k1.cd) ?_)
    have hdl := k.dlen
    refine app1 (E := 3) (vs := #[.int .i64 r]) (h := h1) (B := 0) (sz := 1) rfl k1.tod rfl (by simp [Value.oneCell']) (by omega) (by omega) (by omega) ?_
    intro s' h3 _ o3 f3 hown
    refine nn_i ?_
    rw [add_plain]
    refine k1.setTod (tl := d.tl ++ [r]) (by rw [natI_snoc]; exact o3) f3 hown fun h4 k4 f4 z4 => ?_
    refine ⟨_, k4, rfl, rfl, rfl, rfl, .inl rfl, (f1.mono fun i _ e => by rw [e, k.w4]; omega).trans' f4 fun i _ hi => hi, fun b hb => ?_⟩
    · have := f1.size
      exact wNew_old (by omega)
  · have hf : d.F r = true := by simpa using hf
    refine ⟨d, k, rfl, rfl, rfl, ?_, .inr ⟨rfl, hf⟩, Fr.refl _ _, fun _ _ => rfl⟩
    funext j
    by_cases e : j = r
    · subst e; simp [hf]
    · simp [e]
end
end Go.Proofs.YtgbmihnainbgiaaDoor

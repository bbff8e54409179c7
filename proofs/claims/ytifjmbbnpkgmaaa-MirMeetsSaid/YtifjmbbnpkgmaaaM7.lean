/-
  A small body is one: the guard.
-/
import Derived.Test.YtifjmbbnpkgmaaaM6
import Derived.Laws.Strings
namespace Go.Proofs.Ytifjmbbnpkgmaaa
open Go Go.Lf
set_option linter.unusedVariables false

section
variable {h : Heap}
theorem access_one {b : Nat} {nm : ByteArray} {pa : Int} {lo co : Sv} {l : List Iv} (B : blk h b (bvs nm pa lo co)) (x : CodeAt h co l) (h0 : l[0]? = some ivA) :
    CallsH Try.prog 14 #[.pointer (some ⟨b, 0, none⟩), .int .i64 0] h (fun v h' => Grow h h' ∧ ∃ s : Sv, v = .slice s.a s.n s.c ∧ s.n = 1) := by
  apply F14
  unfold L14
  have hn := x.len
  have hlt : 0 < l.length := by
    rcases Nat.lt_or_ge 0 l.length with h | h
    · exact h
    · rw [List.getElem?_eq_none h] at h0; cases h0
  have hl0 : l[0] = ivA := by rw [List.getElem?_eq_getElem hlt] at h0; simpa using h0
  have hco : cl h ((⟨b, 0, none⟩ : Addr).add 3) = some (.slice co.a co.n co.c) := by rw [add_plain, B.cl]; rfl
  refine ⟨fun c => c = false, ⟨fun e => by simp at e, fun _ => ⟨_, rfl, ldS_i (s := co) hco ?_⟩⟩, ?_⟩
  · show decide _ = false
    rw [decide_eq_false_iff_not]; omega
  rintro _ rfl
  refine ⟨fun e => (by cases e), fun _ => ⟨_, rfl, ldS_i (s := co) hco ?_⟩⟩
  obtain ⟨p, ea, T⟩ := x.at_ 0 hlt
  rw [hl0] at T
  refine ⟨p, ea, by omega, by rw [hn]; omega, ?_⟩
  refine rdI T ?_
  refine mineI (v := ivA) fun h2 b2 f2 => ?_
  have T2 := Iv21.blk b2
  have c0 := T2 0 _ rfl
  rw [add_zero] at c0
  refine ⟨fun s h' => Grow h h' ∧ s.n = 1, ldI_i (x := 3) c0 ?_, ?_⟩
  rotate_left
  · rintro s h' ⟨g, hs⟩
    exact ⟨g, s, rfl, hs⟩
  refine ⟨fun e => by simp at e, fun _ => ⟨fun e => by simp at e, fun _ => ⟨fun e => by simp at e, fun _ => ⟨fun e => by simp at e, fun _ => ⟨fun _ => ?_, fun e => by simp at e⟩⟩⟩⟩⟩
  refine ldS_i (s := ⟨none, 0, 0⟩) (T2.nest 4 1 rfl) ?_
  refine ⟨fun s i h' => s = ⟨none, 0, 0⟩ ∧ i = 0 ∧ h2 = h', fun _ _ _ => 0, ⟨rfl, rfl, rfl⟩, ?_⟩
  rintro _ _ _ ⟨rfl, rfl, rfl⟩
  refine ⟨fun e => by simp at e, fun _ => ?_⟩
  refine ⟨fun s h' => s = ⟨none, 0, 0⟩ ∧ h2 = h', ldI_i (x := 10) (T2 4 _ rfl) ⟨fun e => by simp at e, fun _ => ⟨rfl, rfl⟩⟩, ?_⟩
  rintro _ _ ⟨rfl, rfl⟩
  refine ⟨0, ⟨none, 0, 0⟩, T2 2 _ rfl, T2.nest 2 1 rfl, ?_⟩
  refine app1 rfl (Own.nil h2 h2.size 3) rfl (by simp [Value.oneCell']) (Nat.le_refl _) (by decide) (by decide) fun s' h' e1 _ f' _ => ?_
  exact ⟨f2.trans' f' fun i hi ⟨a, e, _⟩ => (by cases e), e1⟩
abbrev code2 : Array Value := #[.int .i64 3, .int .i64 0, .int .i64 0, .slice none 0 0, .int .i64 10, .slice none 0 0, .int .i64 0, .slice none 0 0, .bool false, .string (⟨#[]⟩ : ByteArray), .int .i64 0, .slice none 0 0, .int .i64 0, .int .i64 0, .slice none 0 0, .int .i64 0, .int .u64 0, .int .i64 0, .int .i64 0, .int .i64 0, .int .i64 0, .int .i64 6, .int .i64 0, .int .i64 0, .slice none 0 0, .int .i64 0, .slice none 0 0, .int .i64 0, .slice none 0 0, .bool false, .string (⟨#[]⟩ : ByteArray), .int .i64 0, .slice none 0 0, .int .i64 0, .int .i64 0, .slice none 0 0, .int .i64 0, .int .u64 0, .int .i64 0, .int .i64 0, .int .i64 0, .int .i64 0]
theorem code2_a : ∀ j, j < 21 → code2[j]? = (ivs ivA)[j]?
  | 0, _ => rfl
  | 1, _ => rfl
  | 2, _ => rfl
  | 3, _ => rfl
  | 4, _ => rfl
  | 5, _ => rfl
  | 6, _ => rfl
  | 7, _ => rfl
  | 8, _ => rfl
  | 9, _ => rfl
  | 10, _ => rfl
  | 11, _ => rfl
  | 12, _ => rfl
  | 13, _ => rfl
  | 14, _ => rfl
  | 15, _ => rfl
  | 16, _ => rfl
  | 17, _ => rfl
  | 18, _ => rfl
  | 19, _ => rfl
  | 20, _ => rfl
  | n + 21, h => absurd h (by omega)
theorem code2_b : ∀ j, j < 21 → code2[21 + j]? = (ivs ivR)[j]?
  | 0, _ => rfl
  | 1, _ => rfl
  | 2, _ => rfl
  | 3, _ => rfl
  | 4, _ => rfl
  | 5, _ => rfl
  | 6, _ => rfl
  | 7, _ => rfl
  | 8, _ => rfl
  | 9, _ => rfl
  | 10, _ => rfl
  | 11, _ => rfl
  | 12, _ => rfl
  | 13, _ => rfl
  | 14, _ => rfl
  | 15, _ => rfl
  | 16, _ => rfl
  | 17, _ => rfl
  | 18, _ => rfl
  | 19, _ => rfl
  | 20, _ => rfl
  | n + 21, h => absurd h (by omega)
theorem ivs_lt {v : Iv} {j : Nat} {u : Value} (hu : (ivs v)[j]? = some u) : j < 21 := (Array.getElem?_eq_some_iff.1 hu).1
theorem newC2 {K : Sv → Heap → Prop} (k : ∀ s h', CodeAt h' s [ivA, ivR] → Grow h h' → K s h') : newS 61 code2 2 h K := by
  rintro s h' rfl rfl
  have kb := blk.new h code2 61
  refine k _ _ ⟨rfl, by simp, fun i hi => ⟨_, rfl, fun j u hu => ?_⟩⟩ (Fr.push _ _ _)
  have hj := ivs_lt hu
  rw [add_plain, add_plain, kb.cl]
  match i, hi with
  | 0, _ =>
    have := code2_a j hj
    simp only [Nat.zero_mul, Nat.zero_add]
    rw [this]; exact hu
  | 1, _ =>
    have := code2_b j hj
    simp only [Nat.one_mul, Nat.zero_add]
    rw [this]; exact hu
theorem newC1 {K : Sv → Heap → Prop} (k : ∀ s h', CodeAt h' s [ivJ] → Grow h h' → K s h') : newS 61 (ivs ivJ) 1 h K := by
  rintro s h' rfl rfl
  have kb := blk.new h (ivs ivJ) 61
  refine k _ _ ⟨rfl, by simp, fun i hi => ⟨_, rfl, fun j u hu => ?_⟩⟩ (Fr.push _ _ _)
  obtain rfl : i = 0 := by simp at hi; omega
  rw [add_plain, add_plain, kb.cl, Nat.zero_mul, Nat.zero_add]
  exact hu
theorem newL {K : Sv → Heap → Prop} (k : ∀ h', blk h' h.size lvs → Grow h h' → K ⟨some ⟨h.size, 0, none⟩, 1, 1⟩ h') : newS 53 lvs 1 h K := by
  rintro s h' rfl rfl
  exact k _ (blk.new _ _ _) (Fr.push _ _ _)
theorem newB {lo co : Sv} {K : Addr → Heap → Prop} (k : ∀ h', blk h' h.size (bvs ⟨#[]⟩ 0 lo co) → Grow h h' → K ⟨h.size, 0, none⟩ h') : new 33 (bvs ⟨#[]⟩ 0 lo co) h K := by
  rintro p h' rfl rfl
  exact k _ (blk.new _ _ _) (Fr.push _ _ _)
/-- numbers compared by the document -/
theorem refInts_spec {a b : Sv} {xs ys : List Int} (hx : IntsAt h a xs) (hy : IntsAt h b ys) (hb : xs.length ≤ 1000000) : CallsH Try.prog 21 #[.slice a.a a.n a.c, .slice b.a b.n b.c] h (fun v h' => h = h' ∧ v = .bool (xs == ys)) := by
  apply F21
  unfold L21
  have hna := hx.len
  have hnb := hy.len
  refine ifb_iff (q := xs.length ≠ ys.length) (by rw [hna, hnb]; simp; omega) (fun hne => ⟨rfl, ?_⟩) (fun heq => ?_)
  · have : (xs == ys) = false := by
      rw [beq_eq_false_iff_ne]
      exact fun e => hne (by rw [e])
    rw [this]
  have heq : xs.length = ys.length := by omega
  refine ⟨fun i => ∃ j : Nat, i = j ∧ j ≤ xs.length ∧ xs.take j = ys.take j, fun i => xs.length - i.toNat, ⟨0, rfl, Nat.zero_le _, rfl⟩, ?_⟩
  rintro _ ⟨j, rfl, hj, hh⟩
  refine ifb_iff (q := j < xs.length) (by rw [hna]; simp) (fun hlt => ?_) (fun hge => ?_)
  · have hlt' : j < ys.length := by omega
    obtain ⟨p, e1, c1⟩ := hx.at_ j hlt
    obtain ⟨q, e2, c2⟩ := hy.at_ j hlt'
    refine ⟨p, e1, by omega, by rw [hna]; omega, _, by rw [Int.toNat_natCast]; exact c1, q, e2, by omega, by rw [hnb]; omega, _, by rw [Int.toNat_natCast]; exact c2, fun e => ⟨rfl, ?_⟩, fun e => ?_⟩
    · have : (xs == ys) = false := by
        rw [beq_eq_false_iff_ne]
        intro he
        subst he
        simp at e
      rw [this]
    · have e' : xs[j] = ys[j] := by simpa using e
      rw [wrap_succ hlt (by omega)]
      refine ⟨⟨j + 1, rfl, hlt, ?_⟩, by simp; omega⟩
      rw [List.take_succ_eq_append_getElem hlt, List.take_succ_eq_append_getElem hlt', hh, e']
  · have : j = xs.length := by omega
    subst this
    rw [List.take_length, heq, List.take_length] at hh
    exact ⟨rfl, by rw [hh]; simp⟩
theorem succ2 : succL [ivA, ivR] 0 = [1] ∧ succL [ivA, ivR] 1 = [] ∧ succL [ivJ] 0 = [1] := by
  refine ⟨rfl, rfl, rfl⟩
theorem coded_spec : CallsH Try.prog 7 #[] h (fun v h' => Grow h h' ∧ v = .bool true) := by
  apply F7
  unfold L7
  obtain ⟨su1, su2, su3⟩ := succ2
  refine newL fun h1 k1 f1 => newC2 fun s8 h2 c2 f2 => newB (lo := ⟨some ⟨h.size, 0, none⟩, 1, 1⟩) fun h3 k3 f3 => newL fun h4 k4 f4 => newC1 fun s14 h5 c5 f5 => newB (lo := ⟨some ⟨h3.size, 0, none⟩, 1, 1⟩) fun h6 k6 f6 => ?_
  have g6 : Grow h h6 := f1.trans (f2.trans (f3.trans (f4.trans (f5.trans f6))))
  have f36 := f4.trans (f5.trans f6)
  have KB : ∀ {h'}, Grow h6 h' → blk h' h2.size (bvs ⟨#[]⟩ 0 ⟨some ⟨h.size, 0, none⟩, 1, 1⟩ s8) := fun g => (f36.trans g).blk k3 fun h => h
  have KC : ∀ {h'}, Grow h6 h' → CodeAt h' s8 [ivA, ivR] := fun g => c2.grow (f3.trans (f36.trans g))
  have KD : ∀ {h'}, Grow h6 h' → blk h' h5.size (bvs ⟨#[]⟩ 0 ⟨some ⟨h3.size, 0, none⟩, 1, 1⟩ s14) := fun g => g.blk k6 fun h => h
  have KE : ∀ {h'}, Grow h6 h' → CodeAt h' s14 [ivJ] := fun g => c5.grow (f6.trans g)
  have KL : ∀ {h'}, Grow h6 h' → blk h' h.size lvs := fun g => (f2.trans (f3.trans (f36.trans g))).blk k1 fun h => h
  have KM : ∀ {h'}, Grow h6 h' → blk h' h3.size lvs := fun g => (f5.trans (f6.trans g)).blk k4 fun h => h
  have hv2 : ∀ v ∈ [ivA, ivR], v = ivA ∨ v = ivR ∨ v = ivJ := fun v hv => by
    simp only [List.mem_cons, List.not_mem_nil, or_false] at hv
    rcases hv with e | e
    · exact .inl e
    · exact .inr (.inl e)
  have hv1 : ∀ v ∈ [ivJ], v = ivA ∨ v = ivR ∨ v = ivJ := fun v hv => by
    simp only [List.mem_cons, List.not_mem_nil, or_false] at hv
    exact .inr (.inr hv)
  refine cal_of (check_spec (KB (Fr.refl _ _)) (KC (Fr.refl _ _)) Nat.zero_lt_one (by decide) (by decide) hv2) ?_
  rintro _ h7 ⟨f7, i, rfl, hi⟩
  have hi1 : i = -1 := by
    rcases hi with ⟨e, _⟩ | ⟨j, rfl, hj, ha⟩
    · exact e
    · exfalso
      match j, hj with
      | 0, _ => rw [su1] at ha; simp at ha
      | 1, _ => rw [su2] at ha; simp at ha
  subst hi1
  refine ⟨_, rfl, fun c h' => c = true ∧ Grow h6 h', ⟨fun _ => ?_, fun e => (by cases e)⟩, ?_⟩
  · refine cal_of (check_spec (KD f7) (KE f7) Nat.zero_lt_one (by decide) (by decide) hv1) ?_
    rintro _ h9 ⟨f9, i, rfl, hi⟩
    have hi0 : i = 0 := by
      rcases hi with ⟨rfl, ha⟩ | ⟨j, rfl, hj, _⟩
      · exfalso
        have := ha 0 (by decide)
        rw [su3] at this
        simp at this
      · simp at hj; omega
    subst hi0
    exact ⟨_, rfl, rfl, f7.trans f9⟩
  rintro _ h8 ⟨rfl, g8⟩
  refine ⟨fun c h' => c = true ∧ Grow h6 h', ⟨fun _ => ?_, fun e => (by cases e)⟩, ?_⟩
  · refine cal_of (succ_spec (i := 0) (KB g8) (KC g8) (by decide)) ?_
    rintro _ h11 ⟨s27, rfl, f11, x11, _⟩
    rw [su1] at x11
    refine ⟨s27, rfl, ?_⟩
    refine new1 (Fr.refl _ h11) 1 fun s h12 k12 => ?_
    refine cal_of (refInts_spec (x11.keep k12.1 fun _ _ h => h) k12.2.1 (by simp)) ?_
    rintro _ _ ⟨rfl, rfl⟩
    exact ⟨_, rfl, rfl, g8.trans (f11.trans k12.1)⟩
  rintro _ h10 ⟨rfl, g10⟩
  refine ⟨fun c h' => c = true ∧ Grow h6 h', ⟨fun _ => ?_, fun e => (by cases e)⟩, ?_⟩
  · refine cal_of (access_one (KB g10) (KC g10) rfl) ?_
    rintro _ h15 ⟨f15, s33, rfl, hs33⟩
    refine ⟨s33, rfl, ?_, g10.trans f15⟩
    rw [hs33]; rfl
  rintro _ h14 ⟨rfl, g14⟩
  refine ⟨fun c h' => c = true ∧ Grow h6 h', ⟨fun _ => ?_, fun e => (by cases e)⟩, ?_⟩
  · refine cal_of (text_size (KB g14) (KC g14) rfl (KL g14) (by decide) hv2) ?_
    rintro _ h17 ⟨f17, t, rfl, ht⟩
    refine ⟨_, rfl, ?_⟩
    refine cal_of (text_size (KD (g14.trans f17)) (KE (g14.trans f17)) rfl (KM (g14.trans f17)) (by decide) hv1) ?_
    rintro _ h18 ⟨f18, t2, rfl, ht2⟩
    refine ⟨_, rfl, ?_, g14.trans (f17.trans f18)⟩
    rw [bne_iff_ne]
    intro e
    have e2 : t = t2 := by
      rw [ByteArray.toList_eq, ByteArray.toList_eq] at e
      exact ByteArray.ext (Array.ext' e)
    rw [e2] at ht
    have s1 : sumT [ivA, ivR] = 26 := rfl
    have s2 : sumT [ivJ] = 11 := rfl
    omega
  rintro _ h16 ⟨rfl, g16⟩
  refine ⟨fun c h' => c = true ∧ Grow h6 h', ⟨fun _ => ?_, fun e => (by cases e)⟩, ?_⟩
  · refine cap_new (new1 (Fr.refl _ h16) 0 fun s45 h20 k20 cap45 => ?_)
    refine cap_new (new2 (Fr.refl _ h20) 0 (-1) fun s47 h21 k21 cap47 => ?_)
    have p45 : PAt h21 s45 [0] := ⟨k20.2.1.keep k21.1 fun _ _ h => h, cap45, by simp⟩
    have p47 : PAt h21 s47 [0, -1] := ⟨k21.2.1, cap47, by simp⟩
    refine cal_of (meet_spec 1 1 p45 p47) ?_
    rintro _ h22 ⟨f22, rfl⟩
    exact ⟨_, rfl, by decide, g16.trans (k20.1.trans (k21.1.trans f22))⟩
  rintro _ h19 ⟨rfl, g19⟩
  exact ⟨g6.trans g19, rfl⟩
end
end Go.Proofs.Ytifjmbbnpkgmaaa

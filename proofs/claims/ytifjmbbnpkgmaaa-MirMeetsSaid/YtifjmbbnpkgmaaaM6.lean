/-
  A small body is one.
-/
import Derived.Test.YtifjmbbnpkgmaaaM5
namespace Go.Proofs.Ytifjmbbnpkgmaaa
open Go Go.Lf
set_option linter.unusedVariables false

section
variable {h : Heap}
theorem dec_size (n : Int) (k : Nat) (hk : (decB n).length = k) (hn : inI n) : CallsH Try.prog 27 #[.int .i64 n] h (fun v h' => Grow h h' ∧ ∃ t : ByteArray, v = .string t ∧ t.size = k) := by
  apply F27
  unfold L27
  refine cal_of (Dec_spec n hn) ?_
  rintro _ h1 ⟨rfl, f1⟩
  exact ⟨_, rfl, f1, _, rfl, by rw [bytes_size]; exact hk⟩
theorem in0 : inI 0 := by unfold inI; decide
theorem in1 : inI 1 := by unfold inI; decide
theorem in10 : inI 10 := by unfold inI; decide
theorem len0 : (decB 0).length = 1 := by unfold decB; rw [if_neg (by decide)]; rw [digB_lt (by decide)]; rfl
theorem len1 : (decB 1).length = 1 := by unfold decB; rw [if_neg (by decide)]; rw [digB_lt (by decide)]; rfl
theorem len10 : (decB 10).length = 2 := by
  unfold decB
  rw [if_neg (by decide), digB_ge (by decide)]
  rw [show Int.natAbs 10 / 10 = 1 from rfl, digB_lt (by decide)]; rfl
theorem placeText_size : CallsH Try.prog 39 #[.agg (plc 0 ⟨none, 0, 0⟩)] h (fun v h' => Grow h h' ∧ ∃ t : ByteArray, v = .string t ∧ t.size = 2) := by
  apply F39
  unfold L39
  refine newP fun h1 b1 f1 z1 => ?_
  refine ldI_i (x := 0) (by rw [b1.cl]; rfl) ?_
  refine cal_of (dec_size 0 1 len0 in0) ?_
  rintro _ h2 ⟨f2, t, rfl, ht⟩
  have e1 : (⟨#[95]⟩ : ByteArray).size = 1 := rfl
  refine ⟨_, rfl, by omega, ldS_i (s := ⟨none, 0, 0⟩) (by rw [add_plain, (f2.blk b1 fun h => h).cl]; rfl) ?_⟩
  refine ⟨fun s i h' => s = (⟨#[95]⟩ : ByteArray) ++ t ∧ i = 0 ∧ h2 = h', fun _ _ _ => 0, ⟨rfl, rfl, rfl⟩, ?_⟩
  rintro _ _ _ ⟨rfl, rfl, rfl⟩
  refine ⟨fun e => by simp at e, fun _ => ⟨f1.trans f2, _, rfl, ?_⟩⟩
  rw [ByteArray.size_append, e1, ht]
theorem rightText_size : CallsH Try.prog 40 #[.agg rvs] h (fun v h' => Grow h h' ∧ ∃ t : ByteArray, v = .string t ∧ t.size = 5) := by
  apply F40 (r0_1 := ⟨none, 0, 0⟩) (r0_3 := ⟨none, 0, 0⟩) (r0_7 := ⟨none, 0, 0⟩)
  unfold L40
  rintro p1 h1 rfl rfl
  have k1 := blk.new h rvs 56
  have f1 : Grow h (h.push (.cells rvs 56)) := Fr.push _ _ _
  generalize h.push (.cells rvs 56) = h1 at *
  have e32 : (⟨#[32]⟩ : ByteArray).size = 1 := rfl
  have e00 : (⟨#[]⟩ : ByteArray).size = 0 := rfl
  have K : ∀ {h'}, Grow h1 h' → blk h' h.size rvs := fun g => g.blk k1 fun h => h
  refine ⟨fun h' => Grow h1 h', Fr.refl _ _, ldI_i (x := 10) (by rw [k1.cl]; rfl) ⟨⟨#[]⟩, fun h' hs => by rw [add_plain, (K hs).cl]; rfl, 0, fun h' hs => by rw [add_plain, (K hs).cl]; rfl, ?_⟩⟩
  refine cal_of (dec_size 10 2 len10 in10) ?_
  rintro _ h2 ⟨f2, t, rfl, ht⟩
  refine ⟨_, rfl, f2, by omega, by rw [ByteArray.size_append]; omega, by rw [ByteArray.size_append, ByteArray.size_append]; omega, ?_⟩
  refine cal_of (dec_size 0 1 len0 in0) ?_
  rintro _ h3 ⟨f3, t2, rfl, ht2⟩
  have g3 := f2.trans f3
  refine ⟨_, rfl, g3, by rw [ByteArray.size_append, ByteArray.size_append, ByteArray.size_append]; omega, ldS_i (s := ⟨none, 0, 0⟩) (by rw [add_plain, (K g3).cl]; rfl) ?_⟩
  refine ⟨fun s i h' => s.size = 5 ∧ i = 0 ∧ h3 = h', fun _ _ _ => 0, ⟨by rw [ByteArray.size_append, ByteArray.size_append, ByteArray.size_append, ByteArray.size_append]; omega, rfl, rfl⟩, ?_⟩
  rintro s4 _ _ ⟨hs4, rfl, rfl⟩
  refine ⟨fun e => by simp at e, fun _ => ?_⟩
  refine ⟨fun s h' => s = s4 ∧ h3 = h', ldI_i (x := 10) (by rw [(K g3).cl]; rfl) ⟨fun e => by simp at e, fun _ => ⟨rfl, rfl⟩⟩, ?_⟩
  rintro _ _ ⟨rfl, rfl⟩
  refine ldS_i (s := ⟨none, 0, 0⟩) (by rw [add_plain, (K g3).cl]; rfl) ?_
  refine ⟨fun s i h' => s.size = 5 ∧ i = 0 ∧ h3 = h', fun _ _ _ => 0, ⟨hs4, rfl, rfl⟩, ?_⟩
  rintro s5 _ _ ⟨hs5, rfl, rfl⟩
  exact ⟨fun e => by simp at e, fun _ => ⟨f1.trans g3, _, rfl, hs5⟩⟩
def txtN (v : Iv) : Nat := if v.k = 3 then 10 else if v.k = 4 then 6 else 6
theorem instrText_size {v : Iv} (hv : v = ivA ∨ v = ivR ∨ v = ivJ) : CallsH Try.prog 29 #[.agg (ivs v)] h (fun u h' => Grow h h' ∧ ∃ t : ByteArray, u = .string t ∧ t.size = txtN v) := by
  apply F29
  unfold L29
  refine newI (v := v) fun h1 b1 f1 z1 => ?_
  have T := Iv21.blk b1
  have c0 := T 0 _ rfl
  rw [add_zero] at c0
  refine ldI_i c0 ?_
  have hk : v.k = 3 ∨ v.k = 6 ∨ v.k = 4 := by rcases hv with rfl | rfl | rfl <;> simp [ivA, ivR, ivJ]
  refine ⟨fun e => by simp at e; omega, fun _ => ⟨fun e => by simp at e; omega, fun _ => ?_⟩⟩
  refine ifb_iff (q := v.k = 3) (by simp) (fun h3 => ?_) (fun h3 => ?_)
  · have hvA : v = ivA := by
      rcases hv with e | rfl | rfl
      · exact e
      · simp [ivR] at h3
      · simp [ivJ] at h3
    subst hvA
    have K : ∀ {h'}, Grow h1 h' → Iv21 h' ⟨h.size, 0, none⟩ ivA := fun g => Iv21.blk (g.blk b1 fun h => h)
    refine ⟨fun h' => Grow h1 h', Fr.refl _ _, 0, ⟨none, 0, 0⟩, T 2 _ rfl, T.nest 2 1 rfl, 10, ⟨none, 0, 0⟩, 0, ⟨none, 0, 0⟩, false, ⟨#[]⟩, 0, ⟨none, 0, 0⟩, fun h' hs => K hs 4 _ rfl, fun h' hs => (K hs).nest 4 1 rfl, fun h' hs => (K hs).nest 4 2 rfl, fun h' hs => (K hs).nest 4 3 rfl, fun h' hs => (K hs).nest 4 4 rfl, fun h' hs => (K hs).nest 4 5 rfl, fun h' hs => (K hs).nest 4 6 rfl, fun h' hs => (K hs).nest 4 7 rfl, ?_⟩
    refine cal_of placeText_size ?_
    rintro _ h4 ⟨f4, t, rfl, ht⟩
    have e3 : (⟨#[32, 61, 32]⟩ : ByteArray).size = 3 := rfl
    refine ⟨_, rfl, f4, by omega, ?_⟩
    refine cal_of rightText_size ?_
    rintro _ h5 ⟨f5, t2, rfl, ht2⟩
    refine ⟨_, rfl, by rw [ByteArray.size_append]; omega, f1.trans (f4.trans f5), _, rfl, ?_⟩
    rw [ByteArray.size_append, ByteArray.size_append, e3, ht, ht2]; rfl
  refine ifb_iff (q := v.k = 4) (by simp) (fun h4 => ?_) (fun h4 => ?_)
  · have hvJ : v = ivJ := by
      rcases hv with rfl | rfl | e
      · simp [ivA] at h4
      · simp [ivR] at h4
      · exact e
    subst hvJ
    refine ldI_i (x := 1) (T 17 _ rfl) ?_
    refine cal_of (dec_size 1 1 len1 in1) ?_
    rintro _ h6 ⟨f6, t, rfl, ht⟩
    have e5 : (⟨#[106, 117, 109, 112, 32]⟩ : ByteArray).size = 5 := rfl
    refine ⟨_, rfl, by omega, f1.trans f6, _, rfl, ?_⟩
    rw [ByteArray.size_append, e5, ht]; rfl
  refine ⟨fun e => by simp at e; omega, fun _ => ⟨fun _ => ⟨f1, _, rfl, ?_⟩, fun e => by simp at e; omega⟩⟩
  unfold txtN
  rw [if_neg h3, if_neg h4]; rfl
abbrev lvs : Array Value := #[.string (⟨#[]⟩ : ByteArray), .int .i64 0, .string (⟨#[]⟩ : ByteArray), .bool false, .int .i64 0, .slice none 0 0, .slice none 0 0, .int .i64 0, .int .i64 0]
theorem typeText_size : CallsH Try.prog 28 #[.agg #[.int .i64 0, .string (⟨#[]⟩ : ByteArray), .bool false, .int .i64 0, .slice none 0 0, .slice none 0 0]] h (fun v h' => Grow h h' ∧ ∃ t : ByteArray, v = .string t ∧ t.size = 0) := by
  apply F28 (x0_4 := ⟨none, 0, 0⟩) (x0_5 := ⟨none, 0, 0⟩)
  unfold L28
  refine new6 (v := ⟨0, ⟨#[]⟩, false, 0, ⟨none, 0, 0⟩, ⟨none, 0, 0⟩⟩) fun h1 b1 f1 z1 => ?_
  have T := Tv6.blk b1
  refine ⟨fun t h' => t.size = 0 ∧ h1 = h', ⟨0, T.1, ?_⟩, ?_⟩
  · exact ⟨fun e => by simp at e, fun _ => ⟨fun e => by simp at e, fun _ => ⟨fun e => by simp at e, fun _ => ⟨fun e => by simp at e, fun _ => ⟨fun e => by simp at e, fun _ => ⟨fun e => by simp at e, fun _ => ⟨fun e => by simp at e, fun _ => ⟨fun e => by simp at e, fun _ => ⟨fun e => by simp at e, fun _ => ⟨rfl, rfl⟩⟩⟩⟩⟩⟩⟩⟩⟩⟩
  rintro t _ ⟨ht, rfl⟩
  refine ldS_i (s := ⟨none, 0, 0⟩) T.2.2.2.2.2 ?_
  refine ⟨fun s i h' => s = t ∧ i = 0 ∧ h1 = h', fun _ _ _ => 0, ⟨rfl, rfl, rfl⟩, ?_⟩
  rintro _ _ _ ⟨rfl, rfl, rfl⟩
  exact ⟨fun e => by simp at e, fun _ => ⟨f1, _, rfl, ht⟩⟩
def sumT (l : List Iv) : Nat := (l.map fun v => txtN v + 5).sum
theorem text_size {b g : Nat} {lo co : Sv} {l : List Iv} (B : blk h b (bvs ⟨#[]⟩ 0 lo co)) (x : CodeAt h co l) (hlo : lo = ⟨some ⟨g, 0, none⟩, 1, 1⟩) (kl : blk h g lvs) (hl : l.length ≤ 10) (hv : ∀ v ∈ l, v = ivA ∨ v = ivR ∨ v = ivJ) :
    CallsH Try.prog 15 #[.pointer (some ⟨b, 0, none⟩)] h (fun v h' => Grow h h' ∧ ∃ t : ByteArray, v = .string t ∧ t.size = 12 + sumT l) := by
  apply F15
  unfold L15
  have hn := x.len
  have K : ∀ {h'}, Grow h h' → blk h' b (bvs ⟨#[]⟩ 0 lo co) := fun g => g.blk B fun h => h
  have e5 : (⟨#[98, 111, 100, 121, 32]⟩ : ByteArray).size = 5 := rfl
  have e0 : (⟨#[]⟩ : ByteArray).size = 0 := rfl
  have e1 : (⟨#[32]⟩ : ByteArray).size = 1 := rfl
  have e10 : (⟨#[10]⟩ : ByteArray).size = 1 := rfl
  have e2 : (⟨#[32, 32]⟩ : ByteArray).size = 2 := rfl
  have e4 : (⟨#[32, 32, 32, 32]⟩ : ByteArray).size = 4 := rfl
  refine ⟨fun e => (by cases e), fun _ => ⟨fun h' => Grow h h', Fr.refl _ _, _, rfl, _, rfl, ⟨#[]⟩, fun h' hs => by rw [(K hs).cl]; rfl, by omega, by rw [ByteArray.size_append]; omega, ldI_i (x := 0) (by rw [add_plain, B.cl]; rfl) ?_⟩⟩
  refine cal_of (dec_size 0 1 len0 in0) ?_
  rintro _ h1 ⟨f1, t, rfl, ht⟩
  refine ⟨_, rfl, f1, by rw [ByteArray.size_append, ByteArray.size_append]; omega, by rw [ByteArray.size_append, ByteArray.size_append, ByteArray.size_append]; omega, _, rfl, ldS_i (s := lo) (by rw [add_plain, (K f1).cl]; rfl) ?_⟩
  refine ⟨fun s i h' => (i = 0 ∨ i = 1) ∧ s.size = 8 + 4 * i.toNat ∧ Grow h h', fun _ i _ => 1 - i.toNat, ⟨.inl rfl, by rw [ByteArray.size_append, ByteArray.size_append, ByteArray.size_append, ByteArray.size_append]; omega, f1⟩, ?_⟩
  rintro s3 i h2 ⟨hi, hs3, f2⟩
  have hl1 : lo.n = 1 := by rw [hlo]
  refine ifb_iff (q := i = 0) (by rw [hl1]; simp; omega) (fun h0 => ?_) (fun h0 => ?_)
  · subst h0
    have kl2 := f2.blk kl fun h => h
    refine ⟨⟨g, 0, none⟩, by rw [hlo], by omega, by rw [hl1]; decide, ?_⟩
    have ez : ((⟨g, 0, none⟩ : Addr).add (((0 : Int)).toNat * 9)) = ⟨g, 0, none⟩ := by rw [add_plain]; rfl
    dsimp only
    rw [ez]
    refine ⟨⟨#[]⟩, 0, ⟨#[]⟩, false, 0, ⟨none, 0, 0⟩, ⟨none, 0, 0⟩, 0, 0, by rw [kl2.cl]; rfl, by rw [add_plain, kl2.cl]; rfl, by rw [add_plain, kl2.cl]; rfl, by rw [add_plain, kl2.cl]; rfl, by rw [add_plain, kl2.cl]; rfl, by rw [add_plain, kl2.cl]; rfl, by rw [add_plain, kl2.cl]; rfl, by rw [add_plain, kl2.cl]; rfl, by rw [add_plain, kl2.cl]; rfl, ?_⟩
    rintro p5 h3 rfl rfl
    have k3 := blk.new h2 lvs 53
    have f3 : Grow h2 (h2.push (.cells lvs 53)) := Fr.push _ _ _
    have z3 : (h2.push (.cells lvs 53)).size = h2.size + 1 := by simp
    generalize h2.push (.cells lvs 53) = h3 at *
    refine stoA_i k3 rfl (vs := lvs.toList) (by intro u hu; simp only [List.mem_cons, List.not_mem_nil, or_false] at hu; rcases hu with rfl | rfl | rfl | rfl | rfl | rfl | rfl | rfl | rfl <;> rfl) fun h4 b4 f4 => ?_
    have f24 : Grow h2 h4 := f3.trans' f4 fun i hi e => by omega
    refine ⟨fun h' => Grow h4 h', Fr.refl _ _, ⟨#[]⟩, fun h' hs => by rw [(hs.blk b4 fun h => h).cl]; rfl, by omega, by rw [ByteArray.size_append]; omega, 0, ⟨#[]⟩, false, 0, ⟨none, 0, 0⟩, ⟨none, 0, 0⟩, by rw [add_plain, b4.cl]; rfl, by rw [add_plain, add_plain, b4.cl]; rfl, by rw [add_plain, add_plain, b4.cl]; rfl, by rw [add_plain, add_plain, b4.cl]; rfl, by rw [add_plain, add_plain, b4.cl]; rfl, by rw [add_plain, add_plain, b4.cl]; rfl, ?_⟩
    refine cal_of typeText_size ?_
    rintro _ h5 ⟨f5, t2, rfl, ht2⟩
    refine ⟨_, rfl, f5, by rw [ByteArray.size_append, ByteArray.size_append]; omega, by rw [ByteArray.size_append, ByteArray.size_append, ByteArray.size_append]; omega, by rw [ByteArray.size_append, ByteArray.size_append, ByteArray.size_append, ByteArray.size_append]; omega, ?_⟩
    have hw : IntKind.i64.wrap ((0 : Int) + 1) = 1 := by decide
    rw [hw]
    refine ⟨⟨.inr rfl, ?_, f2.trans (f24.trans f5)⟩, by decide⟩
    rw [ByteArray.size_append, ByteArray.size_append, ByteArray.size_append, ByteArray.size_append, ByteArray.size_append]
    simp at hs3
    omega
  have hi1 : i = 1 := by omega
  subst hi1
  have hs12 : s3.size = 12 := hs3
  refine ⟨_, rfl, ldS_i (s := co) (by rw [add_plain, (K f2).cl]; rfl) ?_⟩
  refine ⟨fun s i h' => ∃ j : Nat, i = j ∧ j ≤ l.length ∧ s.size = 12 + sumT (l.take j) ∧ Grow h h', fun _ i _ => l.length - i.toNat, ⟨0, rfl, Nat.zero_le _, by rw [hs12]; rfl, f2⟩, ?_⟩
  rintro s4 _ h6 ⟨j, rfl, hj, hs4, f6⟩
  refine ifb_iff (q := j < l.length) (by rw [hn]; simp) (fun hlt => ?_) (fun hge => ?_)
  rotate_left
  · obtain rfl : j = l.length := by omega
    rw [List.take_length] at hs4
    exact ⟨f6, _, rfl, hs4⟩
  obtain ⟨p, ea, T⟩ := (x.grow f6).at_ j hlt
  refine ⟨p, ea, by omega, by rw [hn]; omega, ?_⟩
  rw [Int.toNat_natCast]
  refine rdI T ?_
  have hvj := hv l[j] (List.getElem_mem hlt)
  refine mineI (v := l[j]) fun h8 b8 f8 => rdI (Iv21.blk b8) ?_
  refine cal_of (instrText_size hvj) ?_
  rintro _ h9 ⟨f9, t3, rfl, ht3⟩
  have htx : txtN l[j] ≤ 10 := by unfold txtN; split <;> (try split) <;> omega
  have hsum : ∀ m : List Iv, sumT m ≤ 15 * m.length := by
    intro m
    induction m with
    | nil => simp [sumT]
    | cons a m ih =>
      have : txtN a ≤ 10 := by unfold txtN; split <;> (try split) <;> omega
      simp only [sumT, List.map_cons, List.sum_cons, List.length_cons] at ih ⊢
      omega
  have hsj := hsum (l.take j)
  have htl : (l.take j).length ≤ 10 := by simp; omega
  have hst : sumT (l.take (j + 1)) = sumT (l.take j) + (txtN l[j] + 5) := by
    rw [List.take_succ_eq_append_getElem hlt]
    unfold sumT
    rw [List.map_append, List.sum_append]
    simp only [List.map_cons, List.map_nil, List.sum_cons, List.sum_nil, Nat.add_zero]
  refine ⟨_, rfl, by omega, by rw [ByteArray.size_append]; omega, by rw [ByteArray.size_append, ByteArray.size_append]; omega, ?_⟩
  rw [wrap_succ hlt (by omega)]
  refine ⟨⟨j + 1, rfl, hlt, ?_, f6.trans (f8.trans f9)⟩, by dsimp only; omega⟩
  rw [ByteArray.size_append, ByteArray.size_append, ByteArray.size_append, hst]
  omega
end
end Go.Proofs.Ytifjmbbnpkgmaaa

/-
  The document's Known; LifeTells, walked.
-/
import Derived.Test.YthpfblimfaefhaaS9
namespace Go.Proofs.Ythpfblimfaefhaa
open Go Go.Lf

theorem selP_sel (m : Nat → Nat → Bool) (k j : Nat) : selP k (sel (m k) (j + 1)) = selP k (sel (m k) j) ++ (if decide (k ≠ j) && m k j then [((k : Int), (j : Int))] else []) := by
  rw [sel_succ]
  cases h : m k j with
  | false => simp
  | true =>
    simp only [if_true]
    rw [selP_snoc]
    congr 1
    by_cases e : k = j
    · subst e; simp
    · have : ((k : Int) != (j : Int)) = true := by simp; omega
      simp [this, e]

section
variable {bw B n : Nat} {s : Sv} {ps : List (Int × Int)} {h : Heap}
theorem known_ref (x : RefOk bw B s n (okP n ps) h) (hn : n ≤ 300) (hl : ps.length ≤ 1000) :
    CallsH Try.prog 21 #[.pointer (some ⟨bw, 0, none⟩)] h (fun v h' => ∃ t : Sv, v = t.v ∧ Own h' h.size 2 t (flat (allP (mOf n ps) n (n + 1))) ∧ Grow h h') := by
  apply F21
  unfold L21
  refine ⟨fun l y h1 => ∃ k : Nat, y = k ∧ 1 ≤ k ∧ k ≤ n + 1 ∧ Grow h h1 ∧ Own h1 h.size 2 l (flat (allP (mOf n ps) n k)), fun _ y _ => (n + 1 - y).toNat, ⟨1, rfl, by omega, by omega, Fr.refl _ _, Own.nil _ _ _⟩, ?_⟩
  rintro l y h1 ⟨k, rfl, hk1, hk, g, o⟩
  have X := x.frame g (fun h => h) fun _ _ h => h
  refine nn_i (ldI_i X.cn ?_)
  refine ifb_dec (fun hle => ?_) (fun hgt => ?_)
  · have hkn : k ≤ n := by omega
    have hwk : IntKind.i64.wrap ((k : Int) + 1) = ((k + 1 : Nat) : Int) := by rw [wrap64_id (by omega) (by omega)]; omega
    have hue : allP (mOf n ps) n (k + 1) = allP (mOf n ps) n k ++ selP k (sel (mOf n ps k) (n + 1)) := by simp only [allP]; rw [if_neg (by omega)]
    have hap := allP_len (mOf n ps) n k
    have hkk : k * (n + 1) ≤ 300 * 301 := Nat.mul_le_mul (by omega) (by omega)
    refine ⟨fun l' z h2 => ∃ j : Nat, z = j ∧ j ≤ n + 1 ∧ Grow h h2 ∧ Own h2 h.size 2 l' (flat (allP (mOf n ps) n k ++ selP k (sel (mOf n ps k) j))), fun _ z _ => (n + 1 - z).toNat, ⟨0, rfl, by omega, g, by simpa [selP, sel] using o⟩, ?_⟩
    rintro l' z h2 ⟨j, rfl, hj, g2, o2⟩
    have X2 := x.frame g2 (fun h => h) fun _ _ h => h
    refine nn_i (ldI_i X2.cn ?_)
    refine ifb_dec (fun hjl => ?_) (fun hjg => ?_)
    · have hjn : j ≤ n := by omega
      have hwj : IntKind.i64.wrap ((j : Int) + 1) = ((j + 1 : Nat) : Int) := by rw [wrap64_id (by omega) (by omega)]; omega
      refine ⟨fun l'' h7 => Grow h h7 ∧ Own h7 h.size 2 l'' (flat (allP (mOf n ps) n k ++ selP k (sel (mOf n ps k) (j + 1)))), ?_, fun l'' h7 ⟨q1, q2⟩ => ⟨⟨j + 1, hwj, by omega, q1, q2⟩, by rw [hwj]; (try dsimp only); omega⟩⟩
      rw [selP_sel]
      refine ⟨fun b h3 => b = (decide (k ≠ j) && mOf n ps k j) ∧ Grow h2 h3, ⟨fun e => ?_, fun e => ?_⟩, ?_⟩
      · refine cal_of (refHas_is X2 hn hl k j) ?_
        rintro _ h4 ⟨rfl, g4⟩
        refine ⟨_, rfl, ?_, g4⟩
        have : k ≠ j := by intro e2; subst e2; simp at e
        simp [hasM, inR, hkn, hjn, this]
      · have : k = j := by simp at e; omega
        exact ⟨by simp [this], Fr.refl _ _⟩
      · rintro b h3 ⟨rfl, g3⟩
        have o3 := o2.frame g3 fun _ _ h => h
        have hln : l'.n ≤ 100000 := by
          have h1 := o2.len
          rw [flat_len, List.length_append] at h1
          have h2 := selP_len k (sel (mOf n ps k) j)
          have h3 := sel_len (mOf n ps k) j
          omega
        refine ⟨fun hm => ?_, fun hm => ?_⟩
        · refine app1 (B := h.size) (sz := 2) rfl o3 rfl (by simp [Value.oneCell']) (g2.trans g3).size (by omega) (by omega) ?_
          intro s' h6 e1 o6 f6 _
          refine ⟨own_grown o3 (g2.trans g3) f6, ?_⟩
          rw [if_pos hm]
          simpa [flat] using o6
        · rw [hm]
          exact ⟨g2.trans g3, by simpa using o3⟩
    · have hje : j = n + 1 := by omega
      subst hje
      exact ⟨⟨k + 1, hwk, by omega, by omega, g2, by rw [hue]; exact o2⟩, by rw [hwk]; (try dsimp only); omega⟩
  · have hke : k = n + 1 := by omega
    subst hke
    exact ⟨l, rfl, o, g⟩
end

theorem tells_walk (n : Int) (pv : Sv) (ps : List (Int × Int)) (a : Int) (h : Heap) (x : PairsAt h pv ps) :
    CallsH Try.prog 6 #[.int .i64 n, .slice pv.a pv.n pv.c, .int .i64 a] h (fun v h' => v = .bool true ∧ Grow h h') := by
  apply F6
  unfold L6
  refine cal_of (outlived_spec _) ?_
  rintro _ h1 ⟨rfl, f1⟩
  refine ⟨_, rfl, ?_⟩
  refine ifb_iff (q := ¬ (0 ≤ n ∧ n ≤ 12 ∧ pv.n ≤ 30)) (by simp; omega) (fun hn => ?_) (fun hn => ?_)
  · refine cal_of (outlived_spec _) ?_
    rintro _ h3 ⟨rfl, f3⟩
    exact ⟨_, rfl, rfl, f1.trans f3⟩
  have hn : 0 ≤ n ∧ n ≤ 12 ∧ pv.n ≤ 30 := by omega
  obtain ⟨n, rfl⟩ := Int.eq_ofNat_of_zero_le hn.1
  have hlen : ps.length ≤ 30 := by have := x.len; omega
  refine cal_of (both_spec (by omega) (x.grow f1) (by omega)) ?_
  rintro _ h3 ⟨br, bo, c, rb, bw, s, rfl, R, Q, f3, -⟩
  have f13 := f1.trans f3
  have RX : ∀ {h'}, Grow h3 h' → RelOk br bo c rb n (mOf n ps) h' := fun g => R.frame g fun _ _ h => h
  have QX : ∀ {h'}, Grow h3 h' → RefOk bw h1.size s n (okP n ps) h' := fun g => Q.frame g (fun h => h) fun _ _ h => h
  refine ⟨_, rfl, _, rfl, _, rfl, _, rfl, _, rfl, _, rfl, _, rfl, ⟨fun e => (by cases e), fun _ => ?_⟩⟩
  refine ⟨fun t h5 => Grow h3 h5 ∧ (∃ B, Own h5 B 1 t (if inR n a then ints (sel (mOf n ps a.toNat) (n + 1)) else [])), ⟨fun e => ?_, fun e => ?_⟩, ?_⟩
  · have hr : inR n a = true := by simpa [inR] using e
    obtain ⟨a, rfl⟩ := Int.eq_ofNat_of_zero_le (show 0 ≤ a by simp [inR] at hr; omega)
    refine cal_of (refUnder_spec Q (by omega) (by omega) a (by simp [inR] at hr; omega)) ?_
    rintro _ h4 ⟨t, rfl, o, g⟩
    refine ⟨t, rfl, g, h3.size, ?_⟩
    rw [if_pos hr]
    exact o
  · have hr : inR n a = false := by cases hc : inR n a with | false => rfl | true => simp [inR] at hc e; omega
    exact ⟨Fr.refl _ _, 0, by rw [hr]; exact Own.nil _ _ _⟩
  rintro t h5 ⟨g5, B, o5⟩
  refine cal_of (len_spec (RX g5)) ?_
  rintro _ _ ⟨rfl, rfl⟩
  refine ⟨_, rfl, fun b h7 => b = true ∧ Grow h3 h7, ⟨fun _ => ?_, fun e => (by simp at e)⟩, ?_⟩
  · cases hr : inR n a with
    | false =>
      refine cal_of (under_bad (RX g5) a hr) ?_
      rintro _ _ ⟨rfl, rfl⟩
      rw [hr] at o5
      refine ⟨⟨none, 0, 0⟩, rfl, ?_⟩
      refine cal_of (ints_spec (xs := []) (ys := []) ⟨rfl, fun i hi => by simp at hi⟩ (own_ints (xs := []) o5) (by simp)) ?_
      rintro _ _ ⟨rfl, rfl⟩
      exact ⟨_, rfl, rfl, g5⟩
    | true =>
      obtain ⟨a, rfl⟩ := Int.eq_ofNat_of_zero_le (show 0 ≤ a by simp [inR] at hr; omega)
      refine cal_of (under_spec (RX g5) (by omega) a (by simp [inR] at hr; omega)) ?_
      rintro _ h8 ⟨u, rfl, ou, g8⟩
      rw [hr] at o5
      refine ⟨u, rfl, ?_⟩
      have := sel_len (mOf n ps a) (n + 1)
      refine cal_of (ints_spec (own_ints ou) (own_ints (xs := sel (mOf n ps a) (n + 1)) (o5.frame g8 fun _ _ h => h)) (by omega)) ?_
      rintro _ _ ⟨rfl, rfl⟩
      exact ⟨_, rfl, by simp, g5.trans g8⟩
  rintro _ h7 ⟨rfl, g7⟩
  refine ⟨fun b h10 => b = true ∧ Grow h3 h10, ⟨fun _ => ?_, fun e => (by cases e)⟩, ?_⟩
  · refine cal_of (pairs_spec (RX g7) (by omega)) ?_
    rintro _ h11 ⟨u, rfl, ou, g11⟩
    refine ⟨u, rfl, ?_⟩
    refine cal_of (known_ref (QX (g7.trans g11)) (by omega) (by omega)) ?_
    rintro _ h12 ⟨w, rfl, ow, g12⟩
    refine ⟨w, rfl, ?_⟩
    have := allP_len (mOf n ps) n (n + 1)
    have h2 : (n + 1) * (n + 1) ≤ 13 * 13 := Nat.mul_le_mul (by omega) (by omega)
    refine cal_of (same_spec (own_pairs (ou.frame g12 fun _ _ h => h)) (own_pairs ow) (by omega)) ?_
    rintro _ _ ⟨rfl, rfl⟩
    exact ⟨_, rfl, by simp, (g7.trans g11).trans g12⟩
  rintro _ h10 ⟨rfl, g10⟩
  exact ⟨rfl, f13.trans g10⟩
end Go.Proofs.Ythpfblimfaefhaa

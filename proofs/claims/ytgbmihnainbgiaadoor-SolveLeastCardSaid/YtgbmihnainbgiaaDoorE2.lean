/-
  A region's elements, listed and counted.
-/
import Derived.Test.YtgbmihnainbgiaaDoorE1
namespace Go.Proofs.YtgbmihnainbgiaaDoor
open Go Go.Lf Go.Bits

theorem elems_step {f : Nat → Bool} {i : Nat} {w : BitVec 64} (hb : ∀ b, b < 64 → w.getLsbD b = f (64 * i + b)) : (List.range (64 * (i + 1))).filter f = (List.range (64 * i)).filter f ++ (bitsOf 64 w.toNat).map (64 * i + ·) := by
  rw [show 64 * (i + 1) = 64 * i + 64 by omega, List.range_add, List.filter_append, List.filter_map]
  congr 2
  unfold bitsOf
  apply List.filter_congr
  intro j hj
  have := hb j (List.mem_range.1 hj)
  simp only [Function.comp_apply]
  rw [← this]; rfl
section
variable {x : Sh} {d : Sd} {h : Heap}
theorem count_spec (k : SolOk x d h) (hW : x.W ≤ 2700) {r : Nat} (hr : r < x.n) : CallsH Tryd.prog 11 #[.pointer (some ⟨x.bs, 0, none⟩), .int .i64 r] h (fun v h' => h = h' ∧ v = .int .i64 (((List.range (64 * x.nw)).filter (d.S r)).length : Nat)) := by
  apply F11
  unfold L11
  have hnw : x.nw ≤ 43 := by unfold Sh.nw; omega
  refine ⟨fun n h4 => n = (((List.range (64 * x.nw)).filter (d.S r)).length : Nat) ∧ h = h4, ?_, ?_⟩
  · refine cal_of (region_spec k r) ?_
    rintro _ _ ⟨rfl, rfl⟩
    refine ⟨_, rfl, fun _ => ?_, fun e => ?_⟩
    · refine nn_i (ldS_i (s := x.tb) (by rw [add_plain]; exact k.ct) (k.get hr ?_))
      refine ⟨fun n y h2 => ∃ i : Nat, y = i ∧ i ≤ x.nw ∧ h = h2 ∧ n = (((List.range (64 * i)).filter (d.S r)).length : Nat), fun _ y _ => x.nw - y.toNat, ⟨0, rfl, Nat.zero_le _, rfl, rfl⟩, ?_⟩
      rintro _ _ _ ⟨i, rfl, hi, rfl, rfl⟩
      refine ifb_iff (q := i < x.nw) (by simp) (fun hlt => ?_) (fun hge => ?_)
      · obtain ⟨w, c, hb⟩ := (k.row r hr).cell hlt
        refine ixS_i rfl (by omega) (by show (i : Int) < ((x.nw : Nat) : Int); omega) (ldI_i (x := (w.toNat : Int)) (by rw [add_plain, Int.toNat_natCast, Nat.mul_one, Nat.zero_add]; exact c) ?_)
        refine cal_of (ones_spec h w.toNat w.isLt) ?_
        rintro _ _ ⟨rfl, rfl⟩
        have he := elems_step (f := d.S r) hb
        have hl := congrArg List.length he
        rw [List.length_append, List.length_map] at hl
        have h1 : ((List.range (64 * (i + 1))).filter (d.S r)).length ≤ 64 * (i + 1) := by have := List.length_filter_le (d.S r) (List.range (64 * (i + 1))); rwa [List.length_range] at this
        have h2 : ones 64 w.toNat = (bitsOf 64 w.toNat).length := rfl
        refine ⟨_, rfl, ⟨i + 1, ?_, hlt, rfl, ?_⟩, ?_⟩
        · rw [wrap64_id (by omega) (by omega)]; rfl
        · rw [wrap64_id (by omega) (by omega)]; omega
        · rw [wrap64_id (x := (i : Int) + 1) (by omega) (by omega)]; dsimp only; omega
      · obtain rfl : i = x.nw := by omega
        exact ⟨rfl, rfl⟩
    · rw [reg_nat, decide_eq_true hr] at e; cases e
  · rintro _ _ ⟨rfl, rfl⟩
    exact ⟨rfl, rfl⟩
theorem list_spec (k : SolOk x d h) (T : TabAt h) (hW : x.W ≤ 2700) {r : Nat} (hr : r < x.n) : CallsH Tryd.prog 8 #[.pointer (some ⟨x.bs, 0, none⟩), .int .i64 r] h (fun v h' => Grow h h' ∧ ∃ s : Sv, v = .slice s.a s.n s.c ∧ Own h' h.size 1 s (natI ((List.range (64 * x.nw)).filter (d.S r)))) := by
  apply F8
  unfold L8
  have hnw : x.nw ≤ 43 := by unfold Sh.nw; omega
  refine cal_of (region_spec k r) ?_
  rintro _ _ ⟨rfl, rfl⟩
  refine ⟨_, rfl, fun e => ?_, fun _ => ?_⟩
  · rw [reg_nat, decide_eq_true hr] at e; cases e
  refine nn_i (ldS_i (s := x.tb) (by rw [add_plain]; exact k.ct) (k.get hr ?_))
  refine ⟨fun l y h2 => ∃ i : Nat, y = i ∧ i ≤ x.nw ∧ Grow h h2 ∧ Own h2 h.size 1 l (natI ((List.range (64 * i)).filter (d.S r))), fun _ y _ => x.nw - y.toNat, ⟨0, rfl, Nat.zero_le _, Fr.refl _ _, Own.nil _ _ _⟩, ?_⟩
  rintro l5 _ h2 ⟨i, rfl, hi, g2, o2⟩
  refine ifb_iff (q := i < x.nw) (by simp) (fun hlt => ?_) (fun hge => ?_)
  rotate_left
  · obtain rfl : i = x.nw := by omega
    exact ⟨g2, l5, rfl, o2⟩
  obtain ⟨w, c, hb⟩ := ((k.row r hr).frame g2 fun h => h).cell hlt
  refine ixS_i rfl (by omega) (by show (i : Int) < ((x.nw : Nat) : Int); omega) (ldI_i (x := (w.toNat : Int)) (by rw [add_plain, Int.toNat_natCast, Nat.mul_one, Nat.zero_add]; exact c) ?_)
  have he := elems_step (f := d.S r) hb
  have h1 : ((List.range (64 * (i + 1))).filter (d.S r)).length ≤ 64 * (i + 1) := by have := List.length_filter_le (d.S r) (List.range (64 * (i + 1))); rwa [List.length_range] at this
  refine ⟨fun l w7 h3 => ∃ (wn : Nat) (L : List Nat), w7 = wn ∧ wn < 18446744073709551616 ∧ Grow h h3 ∧ Own h3 h.size 1 l (natI L) ∧ L ++ (bitsOf 64 wn).map (64 * i + ·) = (List.range (64 * (i + 1))).filter (d.S r), fun _ w7 _ => (bitsOf 64 w7.toNat).length,
    ⟨w.toNat, _, rfl, w.isLt, g2, o2, he.symm⟩, ?_⟩
  rintro l6 _ h3 ⟨wn, L, rfl, hwl, g3, o3, hL⟩
  refine ifb_iff (q := wn ≠ 0) (by simp) (fun hne => ?_) (fun hz => ?_)
  rotate_left
  · have hz' : wn = 0 := by omega
    subst hz'
    rw [bits_zero, List.map_nil, List.append_nil] at hL
    have hwr : IntKind.i64.wrap ((i : Int) + 1) = ((i + 1 : Nat) : Int) := by rw [wrap64_id (by omega) (by omega)]; rfl
    rw [hwr]
    exact ⟨⟨i + 1, rfl, hlt, g3, by rw [← hL]; exact o3⟩, by dsimp only; omega⟩
  obtain ⟨kk, q, hkq⟩ := odd_part wn (by omega)
  have hp : 0 < 2 ^ kk := Nat.two_pow_pos kk
  have hk : kk < 64 := by
    refine Nat.lt_of_not_le fun hge => ?_
    have : 2 ^ 64 ≤ 2 ^ kk := Nat.pow_le_pow_right (by decide) hge
    omega
  have hpred := low_and_pred kk q
  have hlow := bits_low (k := kk) (q := q) hk
  have hlt2 : 2 ^ (kk + 1) * q + 2 ^ kk < 18446744073709551616 := by omega
  refine cal_of (f := 16) (args := #[.int .u64 (wn : Int)]) (by rw [hkq]; exact tz_spec (T.grow g3) kk q hlt2) ?_
  rintro _ _ ⟨rfl, rfl⟩
  refine ⟨_, rfl, ?_⟩
  rw [← hkq] at hpred hlow
  rw [hlow, List.map_cons] at hL
  have hlen := congrArg List.length hL
  simp only [List.length_append, List.length_cons, List.length_map] at hlen
  have hn6 : l6.n = L.length := by have := o3.len; simp [natI] at this; omega
  have hv : IntKind.i64.wrap (IntKind.i64.wrap (64 * (i : Int)) + (kk : Int)) = ((64 * i + kk : Nat) : Int) := by
    rw [wrap64_id (x := 64 * (i : Int)) (by omega) (by omega), wrap64_id (by omega) (by omega)]; omega
  rw [hv]
  refine app1 rfl o3 rfl (by simp [Value.oneCell']) g3.size (by omega) (by omega) fun s' h5 e1 o' f' hown => ?_
  have hw1 : IntKind.u64.wrap ((wn : Int) - 1) = ((wn - 1 : Nat) : Int) := by rw [IntKind.wrap_u64]; omega
  rw [hw1, and64 hwl (by omega), hpred]
  refine ⟨⟨_, L ++ [64 * i + kk], rfl, by omega, g3.trans' f' fun i hi e => by have := (o3.ge e).1; omega, ?_, ?_⟩, ?_⟩
  · rw [natI_snoc]; exact o'
  · rw [List.append_assoc]; exact hL
  · dsimp only
    rw [Int.toNat_natCast, Int.toNat_natCast, hlow]
    exact Nat.lt_succ_self _
end
end Go.Proofs.YtgbmihnainbgiaaDoor

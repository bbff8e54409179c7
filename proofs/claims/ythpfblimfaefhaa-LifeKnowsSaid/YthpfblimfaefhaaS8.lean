/-
  LifeKnows, walked.
-/
import Derived.Test.YthpfblimfaefhaaS7
namespace Go.Proofs.Ythpfblimfaefhaa
open Go Go.Lf

theorem knows_walk (n : Int) (pv : Sv) (ps : List (Int × Int)) (h : Heap) (x : PairsAt h pv ps) :
    CallsH Try.prog 3 #[.int .i64 n, .slice pv.a pv.n pv.c] h (fun v h' => v = .bool true ∧ Grow h h') := by
  apply F3
  unfold L3
  refine cal_of (outlived_spec _) ?_
  rintro _ h1 ⟨rfl, f1⟩
  refine ⟨_, rfl, ?_⟩
  refine ifb_iff (q := ¬ (0 ≤ n ∧ n ≤ 12 ∧ pv.n ≤ 30)) (by simp; omega) (fun hn => ?_) (fun hn => ?_)
  · refine cal_of (outlived_spec _) ?_
    rintro _ h3 ⟨rfl, f3⟩
    exact ⟨_, rfl, rfl, f1.trans f3⟩
  have hn : 0 ≤ n ∧ n ≤ 12 ∧ pv.n ≤ 30 := by omega
  obtain ⟨n, rfl⟩ := Int.eq_ofNat_of_zero_le hn.1
  have hlen : ps.length ≤ 30 := by have := x.len; omega
  refine cal_of (both_spec (by omega) (x.grow f1) (by omega)) ?_
  rintro _ h3 ⟨br, bo, c, rb, bw, s, rfl, R, Q, f3, -⟩
  have f13 := f1.trans f3
  refine ⟨_, rfl, _, rfl, _, rfl, _, rfl, _, rfl, _, rfl, _, rfl, ⟨fun e => (by cases e), fun _ => ?_⟩⟩
  have hw : ∀ y : Int, -2 ≤ y → y ≤ 20 → IntKind.i64.wrap (y + 1) = y + 1 := fun y h0 h1 => wrap64_id (by omega) (by omega)
  have hwn := hw n (by omega) (by omega)
  refine ⟨fun a h4 => -1 ≤ a ∧ a ≤ n + 2 ∧ Grow h3 h4, fun a _ => (n + 2 - a).toNat, ⟨by omega, by omega, Fr.refl _ _⟩, ?_⟩
  rintro a h4 ⟨ha0, ha1, g4⟩
  rw [hwn]
  refine ifb_dec (fun hle => ?_) (fun _ => ⟨rfl, f13.trans g4⟩)
  have hwa := hw a (by omega) (by omega)
  refine ⟨fun b h5 => -1 ≤ b ∧ b ≤ n + 2 ∧ Grow h3 h5, fun b _ => (n + 2 - b).toNat, ⟨by omega, by omega, g4⟩, ?_⟩
  rintro b h5 ⟨hb0, hb1, g5⟩
  refine ifb_dec (fun hbl => ?_) (fun _ => ⟨⟨by omega, by omega, g5⟩, by rw [hwa]; (try dsimp only); omega⟩)
  have hwb := hw b (by omega) (by omega)
  refine cal_of (has_spec (R.frame g5 fun _ _ h => h) a b) ?_
  rintro _ _ ⟨rfl, rfl⟩
  refine ⟨_, rfl, ?_⟩
  refine cal_of (refHas_is (Q.frame g5 (fun h => h) fun _ _ h => h) (by omega) (by omega) a b) ?_
  rintro _ h7 ⟨rfl, g7⟩
  refine ⟨_, rfl, ⟨fun e => (by simp at e), fun _ => ⟨⟨by omega, by omega, g5.trans g7⟩, by rw [hwb]; (try dsimp only); omega⟩⟩⟩
end Go.Proofs.Ythpfblimfaefhaa

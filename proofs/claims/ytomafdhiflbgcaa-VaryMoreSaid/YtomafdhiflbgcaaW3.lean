/-
  Few and small structs.
-/
import Derived.Test.YtomafdhiflbgcaaW2
namespace Go.Proofs.Ytomafdhiflbgcaa
open Go Go.Lf
set_option linter.unusedVariables false

theorem smalls_spec {Q : Nat → Prop} {h : Heap} {l : Sv} {ds : List Df} (hd : DsAt Q h l ds) :
    CallsH Try.prog 10 #[.slice l.a l.n l.c] h (fun x h' => Grow h h' ∧ ∃ b, x = .bool b ∧ (b = true → ds.length ≤ 6 ∧ ∀ d ∈ ds, SmD d ∧ d.flds.length ≤ 5)) := by
  apply F10
  unfold L10
  have hn := hd.len
  refine ⟨fun _ => ⟨Fr.refl _ _, false, rfl, fun e => (by cases e)⟩, fun e6 => ?_⟩
  have e6 := of_decide_eq_false e6
  refine ⟨fun i h' => ∃ j : Nat, i = j ∧ j ≤ ds.length ∧ Grow h h' ∧ ∀ q (hq : q < ds.length), q < j → SmD ds[q] ∧ ds[q].flds.length ≤ 5, fun i _ => ds.length - i.toNat, ⟨0, rfl, Nat.zero_le _, Fr.refl _ _, fun q _ e => absurd e (Nat.not_lt_zero _)⟩, ?_⟩
  rintro _ h1 ⟨j, rfl, hj, g1, hall⟩
  refine ifb_iff (q := j < ds.length) (by simp [hn]) (fun hl => ?_) (fun hl => ?_)
  rotate_left
  · refine ⟨g1, true, rfl, fun _ => ⟨by omega, fun d hd => ?_⟩⟩
    obtain ⟨q, hq, rfl⟩ := List.mem_iff_getElem.1 hd
    exact hall q hq (by omega)
  obtain ⟨p, v, ea, eq_, c4, da⟩ := hd.at_ j hl
  have C : ∀ {h'}, Grow h h' → Dv4 h' (p.add (j * 4)) v := fun g => c4.fr g fun h => h
  have c1 := C g1
  refine ⟨p, ea, by omega, by omega, v.lf, by rw [Int.toNat_natCast]; exact c1.2.1, ?_⟩
  refine ⟨fun x => x = false → 0 ≤ v.lf ∧ v.lf ≤ 5, ⟨fun _ e => (by cases e), fun e => ⟨p, ea, by omega, by omega, v.lf, by rw [Int.toNat_natCast]; exact c1.2.1, fun e' => ?_⟩⟩, ?_⟩
  · have := of_decide_eq_false e
    have := of_decide_eq_false e'
    omega
  intro x28 hx28
  refine ⟨fun x => x = false → (0 ≤ v.lf ∧ v.lf ≤ 5) ∧ v.ts.n ≤ 4, ⟨fun _ e => (by cases e), fun e => ⟨p, ea, by omega, by omega, v.ts, by rw [Int.toNat_natCast]; exact c1.2.2.1, fun e' => ⟨hx28 e, ?_⟩⟩⟩, ?_⟩
  · have := of_decide_eq_false e'
    omega
  intro x37 hx37
  refine ⟨fun x => x = false → ((0 ≤ v.lf ∧ v.lf ≤ 5) ∧ v.ts.n ≤ 4) ∧ v.fs.n ≤ 5, ⟨fun _ e => (by cases e), fun e => ⟨p, ea, by omega, by omega, v.fs, by rw [Int.toNat_natCast]; exact c1.2.2.2, fun e' => ⟨hx37 e, ?_⟩⟩⟩, ?_⟩
  · have := of_decide_eq_false e'
    omega
  intro x46 hx46
  refine ⟨fun _ => ⟨g1, false, rfl, fun e => (by cases e)⟩, fun e => ?_⟩
  obtain ⟨⟨hlf, hts⟩, hfs⟩ := hx46 e
  have htn := da.tys.len
  have hfn : v.fs.n = ds[j].flds.length := (tyAt_iff.1 da.flds).2.2.2.2.2.1
  refine ⟨fun i => ∃ k : Nat, i = k ∧ k ≤ j, fun i => j - i.toNat, ⟨0, rfl, Nat.zero_le _⟩, ?_⟩
  rintro _ ⟨k, rfl, hk⟩
  refine ifb_iff (q := k < j) (by simp) (fun hkl => ?_) (fun hkl => ?_)
  · obtain ⟨p', v', ea', -, c4', -⟩ := hd.at_ k (by omega)
    have c1' := c4'.fr g1 fun h => h
    refine ⟨p', ea', by omega, by omega, v'.nm, by rw [Int.toNat_natCast]; exact c1'.1, p, ea, by omega, by omega, v.nm, by rw [Int.toNat_natCast]; exact c1.1, fun _ => ⟨g1, false, rfl, fun e => (by cases e)⟩, fun _ => ?_⟩
    rw [wrap_succ hkl (by omega)]
    exact ⟨⟨k + 1, rfl, hkl⟩, by simp; omega⟩
  refine ⟨fun i h' => ∃ k : Nat, i = k ∧ k ≤ ds[j].flds.length ∧ Grow h h' ∧ ∀ q (hq : q < ds[j].flds.length), q < k → small 6 ds[j].flds[q] = true, fun i _ => ds[j].flds.length - i.toNat, ⟨0, rfl, Nat.zero_le _, g1, fun q _ e => absurd e (Nat.not_lt_zero _)⟩, ?_⟩
  rintro _ h2 ⟨k, rfl, hk, g2, hfl⟩
  have c2 := C g2
  refine ⟨p, ea, by omega, by omega, v.fs, by rw [Int.toNat_natCast]; exact c2.2.2.2, ?_⟩
  refine ifb_iff (q := k < ds[j].flds.length) (by simp [hfn]) (fun hkl => ?_) (fun hkl => ?_)
  · refine ⟨p, ea, by omega, by omega, v.fs, by rw [Int.toNat_natCast]; exact c2.2.2.2, ?_⟩
    refine args_get (v := ⟨0, ⟨#[]⟩, false, 0, ⟨none, 0, 0⟩, v.fs⟩) (da.flds.fr g2 fun _ _ h => h) hkl fun u hu => ?_
    refine cal_of (small_spec 6 (by omega) ds[j].flds[k] u h2 hu) ?_
    rintro _ h3 ⟨f3, rfl⟩
    refine ⟨_, rfl, fun _ => ⟨g2.trans f3, false, rfl, fun e => (by cases e)⟩, fun e => ?_⟩
    rw [wrap_succ hkl (by omega)]
    refine ⟨⟨k + 1, rfl, hkl, g2.trans f3, fun q hq hqk => ?_⟩, by simp; omega⟩
    rcases Nat.lt_or_ge q k with h1 | h1
    · exact hfl q hq h1
    · obtain rfl : q = k := by omega
      simpa using e
  · rw [wrap_succ hl (by omega)]
    refine ⟨⟨j + 1, rfl, hl, g2, fun q hq hqj => ?_⟩, by simp; omega⟩
    rcases Nat.lt_or_ge q j with h1 | h1
    · exact hall q hq h1
    · obtain rfl : q = j := by omega
      have hl5 := da.lf
      refine ⟨⟨by omega, by omega, by omega, by omega, fun t ht => ?_⟩, by omega⟩
      obtain ⟨i, hi, rfl⟩ := List.mem_iff_getElem.1 ht
      exact small_ups 6 94 _ (hfl i hi (by omega))
end Go.Proofs.Ytomafdhiflbgcaa

/-
  A type's text, as the program tells it.
-/
import Derived.Test.YtohlfkomjmjheaaTyE
namespace Go.Proofs.Ytohlfkomjmjheaa
open Go Go.Lf
set_option linter.unusedVariables false

section
variable {Q : Nat → Prop} {h : Heap}
/-- a type's text, as the program tells it -/
theorem textP_spec : ∀ (t : Ty) (n : Nat) (_ : n ≤ 12) (_ : small n t = true) (v : Tv) (h : Heap), TyAt Q h t v → CallsH Try.prog 27 #[.agg (tvs v)] h (fun x h' => Grow h h' ∧ x = .string (textT t)) := by
  intro t
  refine Ty.ind (P := fun t => ∀ (n : Nat) (_ : n ≤ 12) (_ : small n t = true) (v : Tv) (h : Heap), TyAt Q h t v → CallsH Try.prog 27 #[.agg (tvs v)] h (fun x h' => Grow h h' ∧ x = .string (textT t))) ?_ t
  intro k nm mu r rs az ih n hn hsm v h hv
  have hnm := small_nm hsm
  have hts := textT_size n _ hsm
  have htb := tb12 hn
  obtain ⟨m, rfl, ha4, hr6, hall⟩ := small_mk hsm
  obtain ⟨e1, e2, e3, e4, e5, e6, e7⟩ := tyAt_iff.1 hv
  have hhd := headT_size k nm mu r rs hnm hr6
  apply F27
  unfold L27
  refine new6 (v := v) fun h1 b1 f1 z1 => ?_
  have T1 := Tv6.blk b1
  have hd := decT_size r
  refine ⟨fun s h' => Grow h1 h' ∧ s = headT k nm mu r rs, ?_, ?_⟩
  · refine ⟨_, T1.1, ?_⟩
    rw [e1]
    have sB : ∀ l : List UInt8, (⟨l.toArray⟩ : ByteArray).size = l.length := bytes_size
    refine ifb_iff (q := k = 1) (by simp) (fun c => ⟨Fr.refl _ _, by rw [headT, if_pos c]⟩) (fun c1 => ?_)
    refine ifb_iff (q := k = 2) (by simp) (fun c => ⟨Fr.refl _ _, by rw [headT, if_neg c1, if_pos c]⟩) (fun c2 => ?_)
    refine ifb_iff (q := k = 3) (by simp) (fun c => ⟨Fr.refl _ _, by rw [headT, if_neg c1, if_neg c2, if_pos c]⟩) (fun c3 => ?_)
    refine ifb_iff (q := k = 4) (by simp) (fun c => ⟨Fr.refl _ _, by rw [headT, if_neg c1, if_neg c2, if_neg c3, if_pos c]⟩) (fun c4 => ?_)
    refine ifb_iff (q := k = 5) (by simp) (fun c => ?_) (fun c5 => ?_)
    · have hH : headT k nm mu r rs = regsT nm rs := by rw [headT, if_neg c1, if_neg c2, if_neg c3, if_neg c4, if_pos c]
      refine ⟨_, T1.2.1, _, T1.2.2.2.2.1, ?_⟩
      dsimp only
      rw [e5.len]
      refine ⟨fun s i h' => ∃ j : Nat, i = j ∧ j ≤ rs.length ∧ Grow h1 h' ∧ s = regsT nm (rs.take j), fun _ i _ => rs.length - i.toNat, ⟨0, rfl, Nat.zero_le _, Fr.refl _ _, by rw [e2]; rfl⟩, ?_⟩
      rintro _ _ h2 ⟨j, rfl, hj, f2, rfl⟩
      have hsz := regsT_size (rs.take j) nm
      rw [take_len_le rs j hj] at hsz
      refine ifb_iff (q := j < rs.length) (by simp) (fun hl => ?_) (fun hl => ?_)
      · refine (e5.fr (f1.trans f2) fun _ _ h => h).ints.get hl ?_
        refine cal_of (Dec_spec rs[j]) ?_
        rintro _ h3 ⟨rfl, f3⟩
        have hd3 := decT_size rs[j]
        refine ⟨_, rfl, by rw [bs_size [39]]; simp only [List.length_cons, List.length_nil]; omega, by rw [ByteArray.size_append, bs_size [39]]; simp only [List.length_cons, List.length_nil]; omega, ?_⟩
        rw [wrap_succ hl (by omega)]
        refine ⟨⟨j + 1, rfl, hl, f2.trans f3, ?_⟩, by simp; omega⟩
        rw [List.take_succ_eq_append_getElem hl, regsT_snoc, ByteArray.append_assoc]
      · refine ⟨f2, ?_⟩
        have : j = rs.length := by omega
        subst this
        rw [hH, List.take_length]
    refine ifb_iff (q := k = 6) (by simp) (fun c => ⟨Fr.refl _ _, by rw [headT, if_neg c1, if_neg c2, if_neg c3, if_neg c4, if_neg c5, if_pos c]⟩) (fun c6 => ?_)
    refine ifb_iff (q := k = 7) (by simp) (fun c => ?_) (fun c7 => ?_)
    · have hH : headT k nm mu r rs = if mu = true then (bs [38] ++ decT r) ++ bs [109, 117, 116] else bs [38] ++ decT r := by rw [headT, if_neg c1, if_neg c2, if_neg c3, if_neg c4, if_neg c5, if_neg c6, if_pos c]
      refine ⟨_, T1.2.2.2.1, ?_⟩
      rw [e4]
      refine cal_of (Dec_spec r) ?_
      rintro _ h2 ⟨rfl, f2⟩
      refine ⟨_, rfl, by rw [bs_size [38]]; simp only [List.length_cons, List.length_nil]; omega, _, (Tv6.blk (f2.blk b1 fun h => h)).2.2.1, ?_⟩
      rw [e3]
      refine ⟨fun em => ⟨by rw [ByteArray.size_append, bs_size [38], bs_size [109, 117, 116]]; simp only [List.length_cons, List.length_nil]; omega, f2, by rw [hH, if_pos em]⟩, fun em => ⟨f2, by rw [hH, if_neg (by rw [em]; simp)]⟩⟩
    refine ifb_iff (q := k = 8) (by simp) (fun c => ?_) (fun c8 => ?_)
    · have hH : headT k nm mu r rs = ((bs [100, 121, 110, 32] ++ nm) ++ bs [43]) ++ decT r := by rw [headT, if_neg c1, if_neg c2, if_neg c3, if_neg c4, if_neg c5, if_neg c6, if_neg c7, if_pos c]
      refine ⟨fun h' => Grow h1 h', Fr.refl _ _, _, fun h' hs => (Tv6.blk (hs.blk b1 fun h => h)).2.1, ?_⟩
      rw [e2]
      refine ⟨by rw [bs_size [100, 121, 110, 32]]; simp only [List.length_cons, List.length_nil]; omega, by rw [ByteArray.size_append, bs_size [100, 121, 110, 32], bs_size [43]]; simp only [List.length_cons, List.length_nil]; omega, _, T1.2.2.2.1, ?_⟩
      rw [e4]
      refine cal_of (Dec_spec r) ?_
      rintro _ h4 ⟨rfl, f4⟩
      exact ⟨_, rfl, f4, by rw [ByteArray.size_append, ByteArray.size_append, bs_size [100, 121, 110, 32], bs_size [43]]; simp only [List.length_cons, List.length_nil]; omega, f4, hH.symm⟩
    refine ifb_iff (q := k = 9) (by simp) (fun c => ?_) (fun c9 => ⟨Fr.refl _ _, by rw [headT, if_neg c1, if_neg c2, if_neg c3, if_neg c4, if_neg c5, if_neg c6, if_neg c7, if_neg c8, if_neg c9]⟩)
    have hH : headT k nm mu r rs = (nm ++ bs [63]) ++ decT r := by rw [headT, if_neg c1, if_neg c2, if_neg c3, if_neg c4, if_neg c5, if_neg c6, if_neg c7, if_neg c8, if_pos c]
    refine ⟨fun h' => Grow h1 h', Fr.refl _ _, _, fun h' hs => (Tv6.blk (hs.blk b1 fun h => h)).2.1, ?_⟩
    rw [e2]
    refine ⟨by rw [bs_size [63]]; simp only [List.length_cons, List.length_nil]; omega, _, T1.2.2.2.1, ?_⟩
    rw [e4]
    refine cal_of (Dec_spec r) ?_
    rintro _ h4 ⟨rfl, f4⟩
    exact ⟨_, rfl, f4, by rw [ByteArray.size_append, bs_size [63]]; simp only [List.length_cons, List.length_nil]; omega, f4, hH.symm⟩
  rintro _ h2 ⟨f2, rfl⟩
  have hpart : ∀ j, (argsT textT (headT k nm mu r rs) (az.take j)).size ≤ 230 + 4 * (tb m + 2) := fun j => by
    have h4 := argsT_size (f := textT) (az.take j) (headT k nm mu r rs) fun a ha => textT_size m a (hall a (List.mem_of_mem_take ha))
    have h5 : (az.take j).length * (tb m + 2) ≤ 4 * (tb m + 2) := Nat.mul_le_mul_right _ (by simp; omega)
    omega
  have htm := tb12 (n := m) (by omega)
  have T2 := Tv6.blk (f2.blk b1 fun h => h)
  refine ⟨_, T2.2.2.2.2.2, ?_⟩
  dsimp only
  rw [e6]
  refine ⟨fun s i h' => ∃ j : Nat, i = j ∧ j ≤ az.length ∧ Grow h1 h' ∧ s = argsT textT (headT k nm mu r rs) (az.take j), fun _ i _ => az.length - i.toNat, ⟨0, rfl, Nat.zero_le _, f2, rfl⟩, ?_⟩
  rintro _ _ h3 ⟨j, rfl, hj, f3, rfl⟩
  have hp := hpart j
  refine ifb_iff (q := j < az.length) (by simp) (fun hl => ?_) (fun hl => ?_)
  · refine args_get (hv.grow (f1.trans f3)) hl fun u hu => ?_
    refine newz fun h9 b9 f9 z9 => sto6 (v := u) b9 rfl fun h10 b10 f10 => ?_
    have f10' : Grow h3 h10 := f9.trans' f10 fun i hi e => by omega
    refine rd6 (Tv6.blk b10) ?_
    refine cal_of (ih _ (List.getElem_mem hl) m (by omega) (hall _ (List.getElem_mem hl)) u h10 (hu.grow f10')) ?_
    rintro _ h4 ⟨f4, rfl⟩
    have hq := textT_size m az[j] (hall _ (List.getElem_mem hl))
    refine ⟨_, rfl, by rw [bs_size [60]]; simp only [List.length_cons, List.length_nil]; omega, by rw [ByteArray.size_append, bs_size [60], bs_size [62]]; simp only [List.length_cons, List.length_nil]; omega, by rw [ByteArray.size_append, ByteArray.size_append, bs_size [60], bs_size [62]]; simp only [List.length_cons, List.length_nil]; omega, ?_⟩
    rw [wrap_succ hl (by omega)]
    refine ⟨⟨j + 1, rfl, hl, f3.trans (f10'.trans f4), ?_⟩, by simp; omega⟩
    rw [List.take_succ_eq_append_getElem hl, argsT_snoc, ByteArray.append_assoc, ByteArray.append_assoc, ByteArray.append_assoc]
  · refine ⟨f1.trans f3, ?_⟩
    have : j = az.length := by omega
    subst this
    rw [List.take_length, textT_mk]
end
end Go.Proofs.Ytohlfkomjmjheaa

/-
  Types: small ones, the same but for regions.
-/
import Derived.Test.YteaidgpiolakcaaLiftT
import Derived.Test.YteaidgpiolakcaaG
namespace Go.Proofs.Yteaidgpiolakcaa
open Go Go.Lf
set_option linter.unusedVariables false

/-- no deeper than so, and not wide -/
def small : Nat → Ty → Bool
  | 0, _ => false
  | d + 1, .mk _ nm _ _ rs az => decide (az.length ≤ 4) && decide (rs.length ≤ 6) && decide (nm.size ≤ 60) && az.all (small d)
theorem wrap_succ {i n : Nat} (hi : i < n) (hn : n ≤ 4611686018427387904) : IntKind.i64.wrap ((i : Int) + 1) = ((i + 1 : Nat) : Int) := by rw [wrap64_id (by omega) (by omega)]; rfl
section
variable {Q : Nat → Prop} {h : Heap}
theorem small_spec : ∀ (d : Nat) (_ : d ≤ 100) (t : Ty) (v : Tv) (h : Heap), TyAt Q h t v → CallsH Try.prog 5 #[.agg (tvs v), .int .i64 d] h (fun x h' => Grow h h' ∧ x = .bool (small d t)) := by
  intro d
  induction d with
  | zero =>
    intro _ t v h hv
    apply F5
    unfold L5
    refine new6 (v := v) fun h1 b1 f1 _ => ?_
    refine ⟨fun x => x = true, ⟨fun _ => rfl, fun e => (by cases e)⟩, ?_⟩
    rintro _ rfl
    refine ⟨fun x => x = true, ⟨fun _ => rfl, fun e => (by cases e)⟩, ?_⟩
    rintro _ rfl
    refine ⟨fun x => x = true, ⟨fun _ => rfl, fun e => (by cases e)⟩, ?_⟩
    rintro _ rfl
    exact ⟨fun _ => ⟨f1, by cases t; rfl⟩, fun e => (by cases e)⟩
  | succ d ih =>
    intro hd t v h hv
    obtain ⟨k, nm, mu, r, rs, az⟩ := t
    apply F5
    unfold L5
    have hv0 := hv
    rw [tyAt_iff] at hv
    obtain ⟨e1, e2, e3, e4, e5, e6, e7⟩ := hv
    refine new6 (v := v) fun h1 b1 f1 _ => ?_
    have T6 := Tv6.blk b1
    have hd0 : (((d + 1 : Nat) : Int) == 0) = false := by simp; omega
    refine ⟨fun x => x = decide (4 < az.length), ⟨fun e => (by rw [hd0] at e; cases e), fun _ => ⟨_, T6.2.2.2.2.2, ?_⟩⟩, ?_⟩
    · dsimp only; rw [e6, Bool.eq_iff_iff]; simp; omega
    rintro _ rfl
    refine ⟨fun x => x = (decide (4 < az.length) || decide (6 < rs.length)), ⟨fun e => (by rw [e]; rfl), fun e => ⟨_, T6.2.2.2.2.1, ?_⟩⟩, ?_⟩
    · dsimp only; rw [e, e5.len, Bool.eq_iff_iff]; simp; omega
    rintro _ rfl
    refine ⟨fun x => x = (decide (4 < az.length) || decide (6 < rs.length) || decide (60 < nm.size)), ⟨fun e => (by rw [e]; rfl), fun e => ⟨_, T6.2.1, ?_⟩⟩, ?_⟩
    · dsimp only; rw [e, e2, Bool.eq_iff_iff]; simp; omega
    rintro _ rfl
    have hs : small (d + 1) (.mk k nm mu r rs az) = (!(decide (4 < az.length) || decide (6 < rs.length) || decide (60 < nm.size)) && az.all (small d)) := by
      show (decide (az.length ≤ 4) && decide (rs.length ≤ 6) && decide (nm.size ≤ 60) && az.all (small d)) = _
      congr 1
      rw [Bool.eq_iff_iff]
      simp
    refine ⟨fun e => ⟨f1, by rw [hs, e]; rfl⟩, fun e => ?_⟩
    have has : az.length ≤ 4 := by
      simp only [Bool.or_eq_false_iff, decide_eq_false_iff_not] at e
      omega
    refine ⟨fun i h' => ∃ j : Nat, i = j ∧ j ≤ az.length ∧ Grow h1 h' ∧ (az.take j).all (small d) = true, fun i _ => az.length - i.toNat, ⟨0, rfl, Nat.zero_le _, Fr.refl _ _, rfl⟩, ?_⟩
    rintro _ h2 ⟨j, rfl, hj, f2, ha⟩
    have T6' := T6.fr f2 (fun h => h)
    refine ⟨_, T6'.2.2.2.2.2, ?_⟩
    dsimp only
    rw [e6]
    refine ifb_iff (q := j < az.length) (by simp) (fun hl => ?_) (fun hl => ?_)
    · refine ⟨_, T6'.2.2.2.2.2, ?_⟩
      refine args_get (hv0.grow (f1.trans f2)) hl fun u hu => ?_
      have hw : IntKind.i64.wrap (((d + 1 : Nat) : Int) - 1) = (d : Int) := by rw [wrap64_id (by omega) (by omega)]; omega
      rw [hw]
      refine cal_of (ih (by omega) _ _ _ hu) ?_
      rintro _ h3 ⟨f3, rfl⟩
      have hall : (az.take (j + 1)).all (small d) = small d az[j] := by
        rw [List.take_add_one, List.getElem?_eq_getElem hl, List.all_append, ha]; simp
      refine ⟨_, rfl, fun e' => ⟨f1.trans (f2.trans f3), ?_⟩, fun e' => ?_⟩
      · rw [hs, e]
        have : small d az[j] = false := by simpa using e'
        congr 1
        symm
        rw [Bool.not_false, Bool.true_and, List.all_eq_false]
        exact ⟨_, List.getElem_mem hl, by rw [this]; simp⟩
      · have : small d az[j] = true := by simpa using e'
        rw [wrap_succ hl (by omega)]
        exact ⟨⟨j + 1, rfl, hl, f2.trans f3, by rw [hall, this]⟩, by simp; omega⟩
    · refine ⟨f1.trans f2, ?_⟩
      have : j = az.length := by omega
      subst this
      rw [List.take_length] at ha
      rw [hs, e, ha]
      rfl

/-- are they the same, but for regions? -/
def sameA (S : Ty → Ty → Bool) : List Ty → List Ty → Bool
  | [], [] => true
  | a :: az, b :: bs => S a b && sameA S az bs
  | _, _ => false
noncomputable def same : Ty → Ty → Bool :=
  Ty.rec (motive_1 := fun _ => Ty → Bool) (motive_2 := fun _ => List Ty → Bool)
    (fun k nm mu _ rs _ ih b => match b with
      | .mk k' nm' mu' _ rs' az' => !((k != k') || (nm.toList != nm'.toList) || (mu != mu')) && ((k != 5 || rs.length == rs'.length) && ih az'))
    (fun bs => match bs with | [] => true | _ => false)
    (fun _ _ ih1 ih2 bs => match bs with | [] => false | b :: bs => ih1 b && ih2 bs)
theorem same_rec (az : List Ty) (bs : List Ty) : (Ty.rec_1 (motive_1 := fun _ => Ty → Bool) (motive_2 := fun _ => List Ty → Bool)
    (fun k nm mu _ rs _ ih b => match b with
      | .mk k' nm' mu' _ rs' az' => !((k != k') || (nm.toList != nm'.toList) || (mu != mu')) && ((k != 5 || rs.length == rs'.length) && ih az'))
    (fun bs => match bs with | [] => true | _ => false)
    (fun _ _ ih1 ih2 bs => match bs with | [] => false | b :: bs => ih1 b && ih2 bs) az : List Ty → Bool) bs = sameA same az bs := by
  induction az generalizing bs with
  | nil => cases bs <;> rfl
  | cons a az ih =>
    cases bs with
    | nil => rfl
    | cons b bs => rw [sameA, ← ih bs]; rfl
theorem same_mk (k : Int) (nm : ByteArray) (mu : Bool) (r : Int) (rs : List Int) (az : List Ty) (k' : Int) (nm' : ByteArray) (mu' : Bool) (r' : Int) (rs' : List Int) (az' : List Ty) :
    same (.mk k nm mu r rs az) (.mk k' nm' mu' r' rs' az') = (!((k != k') || (nm.toList != nm'.toList) || (mu != mu')) && ((k != 5 || rs.length == rs'.length) && sameA same az az')) := by
  rw [← same_rec az az']; rfl
theorem sameA_len {S : Ty → Ty → Bool} : ∀ {az bs : List Ty}, sameA S az bs = true → az.length = bs.length
  | [], [], _ => rfl
  | [], _ :: _, h => by cases h
  | _ :: _, [], h => by cases h
  | a :: az, b :: bs, h => by
    simp only [sameA, Bool.and_eq_true] at h
    simp [sameA_len h.2]
theorem sameA_iff {S : Ty → Ty → Bool} : ∀ {az bs : List Ty}, sameA S az bs = true ↔ az.length = bs.length ∧ ∀ i (h1 : i < az.length) (h2 : i < bs.length), S az[i] bs[i] = true
  | [], [] => by simp [sameA]
  | [], _ :: _ => by simp [sameA]
  | _ :: _, [] => by simp [sameA]
  | a :: az, b :: bs => by
    simp only [sameA, Bool.and_eq_true, sameA_iff (az := az) (bs := bs), List.length_cons]
    constructor
    · rintro ⟨h0, h1, h2⟩
      refine ⟨by omega, fun i h3 h4 => ?_⟩
      cases i with
      | zero => exact h0
      | succ i => exact h2 i (by omega) (by omega)
    · rintro ⟨h1, h2⟩
      exact ⟨h2 0 (by omega) (by omega), by omega, fun i h3 h4 => h2 (i + 1) (by omega) (by omega)⟩

theorem eqf_spec {n : Nat} (k : Int) (nm : ByteArray) (mu : Bool) (r : Int) (rs : List Int) (az : List Ty) (k' : Int) (nm' : ByteArray) (mu' : Bool) (r' : Int) (rs' : List Int) (az' : List Ty) (v v' : Tv) (h : Heap) (hv : TyAt Q h (.mk k nm mu r rs az) v) (hv' : TyAt Q h (.mk k' nm' mu' r' rs' az') v') (hn : az.length ≤ n) (hn2 : n ≤ 1000)
    (ih : ∀ a ∈ az, ∀ b u u' h, TyAt Q h a u → TyAt Q h b u' → CallsH Try.prog 16 #[.agg (tvs u), .agg (tvs u')] h (fun x h' => Grow h h' ∧ x = .bool (same a b))) :
    CallsH Try.prog 24 #[.slice v.az.a v.az.n v.az.c, .slice v'.az.a v'.az.n v'.az.c, .func (.func 16) #[] #[]] h (fun x h' => Grow h h' ∧ x = .bool (sameA same az az')) := by
  apply F24
  unfold L24
  have hl := (tyAt_iff.1 hv).2.2.2.2.2.1
  have hl' := (tyAt_iff.1 hv').2.2.2.2.2.1
  rw [hl, hl']
  refine ifb_iff (q := az.length ≠ az'.length) (by simp; omega) (fun hne => ⟨Fr.refl _ _, ?_⟩) (fun heq => ?_)
  · have : sameA same az az' = false := by
      rw [← Bool.not_eq_true]
      exact fun e => hne (sameA_len e)
    rw [this]
  have heq : az.length = az'.length := by omega
  refine ⟨fun i h' => ∃ j : Nat, i = j ∧ j ≤ az.length ∧ Grow h h' ∧ ∀ q (h1 : q < az.length) (h2 : q < az'.length), q < j → same az[q] az'[q] = true, fun i _ => az.length - i.toNat, ⟨0, rfl, Nat.zero_le _, Fr.refl _ _, fun q _ _ h => absurd h (Nat.not_lt_zero _)⟩, ?_⟩
  rintro _ h1 ⟨j, rfl, hj, f1, ha⟩
  refine ifb_iff (q := j < az.length) (by simp) (fun hlt => ?_) (fun hge => ?_)
  · have hlt' : j < az'.length := by omega
    refine args_get (hv.grow f1) hlt fun u hu => ?_
    rintro p2 h2 rfl rfl
    have b2 := blk.new h1 #[Value.int .i64 0, Value.string (⟨#[]⟩ : ByteArray), Value.bool false, Value.int .i64 0, Value.slice (⟨none, 0, 0⟩ : Sv).a (⟨none, 0, 0⟩ : Sv).n (⟨none, 0, 0⟩ : Sv).c, Value.slice (⟨none, 0, 0⟩ : Sv).a (⟨none, 0, 0⟩ : Sv).n (⟨none, 0, 0⟩ : Sv).c] 32
    refine stoA_i b2 rfl (by simp [Value.oneCell']) fun h3 b3 f3 => ?_
    have g3 : Grow h1 h3 := (Fr.push (fun _ => False) h1 _).trans' f3 (fun i hi e => by omega)
    refine args_get (hv'.grow (f1.trans g3)) hlt' fun u' hu' => ?_
    rintro p4 h4 rfl rfl
    have b4 := blk.new h3 #[Value.int .i64 0, Value.string (⟨#[]⟩ : ByteArray), Value.bool false, Value.int .i64 0, Value.slice (⟨none, 0, 0⟩ : Sv).a (⟨none, 0, 0⟩ : Sv).n (⟨none, 0, 0⟩ : Sv).c, Value.slice (⟨none, 0, 0⟩ : Sv).a (⟨none, 0, 0⟩ : Sv).n (⟨none, 0, 0⟩ : Sv).c] 32
    refine stoA_i b4 rfl (by simp [Value.oneCell']) fun h5 b5 f5 => ?_
    have g5 : Grow h3 h5 := (Fr.push (fun _ => False) h3 _).trans' f5 (fun i hi e => by omega)
    have b3' : blk h5 h1.size (tvs u) := g5.blk b3 (fun h => h)
    refine rd6 (Tv6.blk b3') ?_
    refine rd6 (t := u') (Tv6.blk b5) ?_
    refine ⟨16, #[], rfl, isfn16, ?_⟩
    refine cal_of (ih _ (List.getElem_mem hlt) az'[j] u u' h5 (hu.grow (g3.trans g5)) (hu'.grow g5)) ?_
    rintro _ h6 ⟨f6, rfl⟩
    refine ⟨_, rfl, fun e' => ⟨f1.trans (g3.trans (g5.trans f6)), ?_⟩, fun e' => ?_⟩
    · have e2 : same az[j] az'[j] = false := by simpa using e'
      have : sameA same az az' = false := by
        rw [← Bool.not_eq_true]
        intro e
        rw [(sameA_iff.1 e).2 j hlt hlt'] at e2
        cases e2
      rw [this]
    · have e2 : same az[j] az'[j] = true := by simpa using e'
      rw [wrap_succ hlt (by omega)]
      refine ⟨⟨j + 1, rfl, hlt, f1.trans (g3.trans (g5.trans f6)), fun q h1 h2 hq => ?_⟩, by simp; omega⟩
      rcases Nat.lt_or_ge q j with e | e
      · exact ha q h1 h2 e
      · obtain rfl : q = j := by omega
        exact e2
  · refine ⟨f1, ?_⟩
    have : sameA same az az' = true := sameA_iff.2 ⟨heq, fun q h1 h2 => ha q h1 h2 (by omega)⟩
    rw [this]
end
section
variable {Q : Nat → Prop} {h : Heap}
theorem same_spec : ∀ (a b : Ty) (n : Nat) (_ : n ≤ 100) (_ : small n a = true) (v v' : Tv) (h : Heap), TyAt Q h a v → TyAt Q h b v' → CallsH Try.prog 16 #[.agg (tvs v), .agg (tvs v')] h (fun x h' => Grow h h' ∧ x = .bool (same a b)) := by
  intro a
  refine Ty.ind (P := fun a => ∀ (b : Ty) (n : Nat) (_ : n ≤ 100) (_ : small n a = true) (v v' : Tv) (h : Heap), TyAt Q h a v → TyAt Q h b v' → CallsH Try.prog 16 #[.agg (tvs v), .agg (tvs v')] h (fun x h' => Grow h h' ∧ x = .bool (same a b))) ?_ a
  intro k nm mu r rs az ih b n hn hsm v v' h hv hv'
  obtain ⟨k', nm', mu', r', rs', az'⟩ := b
  obtain ⟨n, rfl⟩ : ∃ m, n = m + 1 := by
    cases n with
    | zero => cases hsm
    | succ m => exact ⟨m, rfl⟩
  have hsm' : (decide (az.length ≤ 4) && decide (rs.length ≤ 6) && decide (nm.size ≤ 60) && az.all (small n)) = true := hsm
  simp only [Bool.and_eq_true, decide_eq_true_eq, List.all_eq_true] at hsm'
  obtain ⟨⟨⟨ha, _⟩, _⟩, hall⟩ := hsm'
  obtain ⟨e1, e2, e3, e4, e5, e6, e7⟩ := tyAt_iff.1 hv
  obtain ⟨d1, d2, d3, d4, d5, d6, d7⟩ := tyAt_iff.1 hv'
  apply F16
  unfold L16
  refine new6 (v := v) fun h1 b1 f1 _ => new6 (v := v') fun h2 b2 f2 _ => ?_
  have T1 := Tv6.blk (f2.blk b1 (fun h => h))
  have T2 := Tv6.blk b2
  refine ⟨_, T1.1, _, T2.1, ?_⟩
  refine ⟨fun x => x = ((k != k') || (nm.toList != nm'.toList)), ⟨fun e => ?_, fun e => ⟨_, T1.2.1, _, T2.2.1, ?_⟩⟩, ?_⟩
  · rw [e1, d1] at e; rw [e]; rfl
  · rw [e1, d1] at e; rw [e, e2, d2]; rfl
  rintro _ rfl
  refine ⟨fun x => x = ((k != k') || (nm.toList != nm'.toList) || (mu != mu')), ⟨fun e => ?_, fun e => ⟨_, T1.2.2.1, _, T2.2.2.1, ?_⟩⟩, ?_⟩
  · rw [e]; rfl
  · rw [e, e3, d3]; rfl
  rintro _ rfl
  rw [same_mk]
  refine ⟨fun e => ⟨f1.trans f2, by rw [e]; rfl⟩, fun e => ?_⟩
  rw [e, Bool.not_false, Bool.true_and]
  refine ⟨_, T1.1, ?_⟩
  refine ⟨fun x => x = (k != 5 || rs.length == rs'.length), ⟨fun e' => ?_, fun e' => ⟨_, T1.2.2.2.2.1, _, T2.2.2.2.2.1, ?_⟩⟩, ?_⟩
  · rw [e1] at e'; rw [e']; rfl
  · rw [e1] at e'; dsimp only; rw [e', e5.len, d5.len, Bool.eq_iff_iff]; simp
    omega
  rintro _ rfl
  refine ⟨fun x h' => Grow h2 h' ∧ x = ((k != 5 || rs.length == rs'.length) && sameA same az az'), ⟨fun e' => ⟨_, T1.2.2.2.2.2, _, T2.2.2.2.2.2, ?_⟩, fun e' => ⟨Fr.refl _ _, by rw [e']; rfl⟩⟩, ?_⟩
  · refine cal_of (eqf_spec (n := 4) k nm mu r rs az k' nm' mu' r' rs' az' v v' h2 (hv.grow (f1.trans f2)) (hv'.grow (f1.trans f2)) ha (by omega) fun a' ha' b' u u' h' hu hu' => ih a' ha' b' n (by omega) (hall a' ha') u u' h' hu hu') ?_
    rintro _ h3 ⟨f3, rfl⟩
    exact ⟨_, rfl, f3, by rw [e']; rfl⟩
  rintro _ h3 ⟨f3, rfl⟩
  exact ⟨f1.trans (f2.trans f3), rfl⟩

end
/-- how much a small type asks for -/
def bnd : Nat → Nat
  | 0 => 0
  | n + 1 => 14 + 4 * bnd n
theorem small_mk {n : Nat} {k : Int} {nm : ByteArray} {mu : Bool} {r : Int} {rs : List Int} {az : List Ty} (h : small n (.mk k nm mu r rs az) = true) : ∃ m, n = m + 1 ∧ az.length ≤ 4 ∧ rs.length ≤ 6 ∧ ∀ a ∈ az, small m a = true := by
  cases n with
  | zero => cases h
  | succ m =>
    have h' : (decide (az.length ≤ 4) && decide (rs.length ≤ 6) && decide (nm.size ≤ 60) && az.all (small m)) = true := h
    simp only [Bool.and_eq_true, decide_eq_true_eq, List.all_eq_true] at h'
    exact ⟨m, rfl, h'.1.1.1, h'.1.1.2, h'.2⟩
theorem bnd8 {n : Nat} (h : n ≤ 8) : bnd n ≤ 305830 := by
  have : ∀ n, n ≤ 8 → bnd n ≤ 305830 := by decide
  exact this n h
end Go.Proofs.Yteaidgpiolakcaa

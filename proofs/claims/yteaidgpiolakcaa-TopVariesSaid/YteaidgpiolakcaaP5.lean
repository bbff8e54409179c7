/-
  r10.Outlive (ty/S5's end, under a name of its own).
-/
import Derived.Test.YteaidgpiolakcaaP4
namespace Go.Proofs.Yteaidgpiolakcaa.pairs
open Go Go.Lf Go.Proofs.Yteaidgpiolakcaa
set_option linter.unusedVariables false

section
variable {Q : Nat → Prop} {h : Heap}
/-- u64s in memory -/
structure USAt (h : Heap) (s : Sv) (bs : List Int) : Prop where
  len : s.n = bs.length
  at_ : ∀ i (hi : i < bs.length), ∃ p, s.a = some p ∧ cl h (p.add (i * 1)) = some (.int .u64 bs[i])
def relB (bs : List Int) (x y : Int) : Bool := decide (0 ≤ x) && decide (0 ≤ y) && (match bs[x.toNat]?, bs[y.toNat]? with
  | some a, some b => bitsI .andNot .u64 b a == 0
  | _, _ => false)
theorem relB_x {bs : List Int} {x y : Int} (h : x < 0) : relB bs x y = false := by unfold relB; rw [decide_eq_false (by omega)]; rfl
theorem relB_y {bs : List Int} {x y : Int} (h : y < 0) : relB bs x y = false := by unfold relB; rw [decide_eq_false (p := 0 ≤ y) (by omega)]; simp
theorem relB_xn {bs : List Int} {x y : Int} (h : (bs.length : Int) ≤ x) : relB bs x y = false := by
  unfold relB; rw [List.getElem?_eq_none (l := bs) (i := x.toNat) (by omega)]; simp
theorem relB_yn {bs : List Int} {x y : Int} (h : (bs.length : Int) ≤ y) : relB bs x y = false := by
  unfold relB; rw [List.getElem?_eq_none (l := bs) (i := y.toNat) (by omega)]; cases bs[x.toNat]? <;> simp
theorem outlive_spec {B : Nat} {s s' : Sv} {L : List (Int × Int)} {bs : List Int} (o : Own h B 2 s (prs L)) (u : USAt h s' bs) (hL : L.length ≤ 1000000) :
    CallsH Try.prog 10 #[.slice s.a s.n s.c, .slice s'.a s'.n s'.c] h (fun x h' => h = h' ∧ x = .bool (L.all fun p => relB bs p.1 p.2)) := by
  apply F10
  unfold L10
  have hn : s.n = L.length := by have := o.len; rw [prs_len] at this; omega
  rw [hn, u.len]
  refine ⟨fun i => ∃ j : Nat, i = j ∧ j ≤ L.length ∧ (L.take j).all (fun p => relB bs p.1 p.2) = true, fun i => L.length - i.toNat, ⟨0, rfl, Nat.zero_le _, rfl⟩, ?_⟩
  rintro _ ⟨j, rfl, hj, ha⟩
  refine ifb_iff (q := j < L.length) (by simp) (fun hlt => ?_) (fun hge => ?_)
  rotate_left
  · have : j = L.length := by omega
    subst this
    rw [List.take_length] at ha
    exact ⟨rfl, by rw [ha]⟩
  have hr := o.row
  rcases o.mem with ⟨_, e, _⟩ | ⟨g, cur, ea, _⟩
  · omega
  rw [ea] at hr
  obtain ⟨c1, c2⟩ := prs_get L j hlt
  refine ⟨_, ea, by omega, by rw [hn]; omega, L[j].1, by rw [Int.toNat_natCast]; exact hr _ _ c1, _, ea, by omega, by rw [hn]; omega, L[j].2, ?_, ?_⟩
  · rw [Int.toNat_natCast, add_plain, add_plain]
    have := hr _ _ c2
    rw [add_plain] at this
    rw [show 0 + j * 2 + 1 = 0 + (j * 2 + 1) by omega]
    exact this
  generalize hx : L[j].1 = x
  generalize hy : L[j].2 = y
  refine ⟨fun b => b = !relB bs x y, ?_, ?_⟩
  · refine ifb_dec (fun h1 => ?_) (fun h1 => ?_)
    · exact ⟨fun _ => ⟨fun _ => ⟨fun _ => by rw [relB_x h1]; rfl, fun e => (by cases e)⟩, fun e => (by cases e)⟩, fun e => (by cases e)⟩
    refine ifb_dec (fun h2 => ?_) (fun h2 => ?_)
    · exact ⟨fun _ => ⟨fun _ => by rw [relB_y h2]; rfl, fun e => (by cases e)⟩, fun e => (by cases e)⟩
    refine ifb_dec (fun h3 => ?_) (fun h3 => ?_)
    · exact ⟨fun _ => by rw [relB_xn h3]; rfl, fun e => (by cases e)⟩
    refine ifb_dec (fun h4 => ?_) (fun h4 => ?_)
    · rw [relB_yn h4]; rfl
    obtain ⟨x, rfl⟩ := Int.eq_ofNat_of_zero_le (show 0 ≤ x by omega)
    obtain ⟨y, rfl⟩ := Int.eq_ofNat_of_zero_le (show 0 ≤ y by omega)
    have hx' : x < bs.length := by omega
    have hy' : y < bs.length := by omega
    obtain ⟨p, e1, d1⟩ := u.at_ x hx'
    obtain ⟨q, e2, d2⟩ := u.at_ y hy'
    refine ⟨q, e2, by omega, by rw [u.len]; omega, bs[y], by rw [Int.toNat_natCast]; exact d2, p, e1, by omega, by rw [u.len]; omega, bs[x], by rw [Int.toNat_natCast]; exact d1, ?_⟩
    unfold relB
    rw [decide_eq_true (p := 0 ≤ (x : Int)) (by omega), decide_eq_true (p := 0 ≤ (y : Int)) (by omega), Int.toNat_natCast, Int.toNat_natCast, List.getElem?_eq_getElem hx', List.getElem?_eq_getElem hy']
    rfl
  · rintro _ rfl
    refine ⟨fun e => ⟨rfl, ?_⟩, fun e => ?_⟩
    · have e' : relB bs x y = false := by simpa using e
      congr 1
      symm
      rw [List.all_eq_false]
      exact ⟨_, List.getElem_mem hlt, by rw [hx, hy, e']; simp⟩
    · have e' : relB bs x y = true := by simpa using e
      rw [wrap_succ hlt (by omega)]
      refine ⟨⟨j + 1, rfl, hlt, ?_⟩, by simp; omega⟩
      rw [List.take_add_one, List.getElem?_eq_getElem hlt, List.all_append, ha]
      simp [hx, hy, e']
end
end Go.Proofs.Yteaidgpiolakcaa.pairs

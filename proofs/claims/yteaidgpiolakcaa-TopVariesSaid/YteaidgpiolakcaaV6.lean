/-
  Maps compared.
-/
import Derived.Test.YteaidgpiolakcaaV5
namespace Go.Proofs.Yteaidgpiolakcaa
open Go Go.Lf
set_option linter.unusedVariables false

section
variable {Q : Nat → Prop} {h : Heap}
theorem ints_law {a b : Sv} {xs ys : List Int} (hx : IntsAt h a xs) (hy : IntsAt h b ys) (hb : xs.length ≤ 4611686018427387904) : L15 a b h (fun v h' => h = h' ∧ v = .bool (xs == ys)) := by
  unfold L15
  rw [hx.len, hy.len]
  refine ifb_iff (q := xs.length ≠ ys.length) (by simp; omega) (fun hne => ⟨rfl, ?_⟩) (fun heq => ?_)
  · have : (xs == ys) = false := by
      rw [beq_eq_false_iff_ne]
      exact fun e => hne (by rw [e])
    rw [this]
  have heq : xs.length = ys.length := by omega
  refine ⟨fun i => ∃ j : Nat, i = j ∧ j ≤ xs.length ∧ xs.take j = ys.take j, fun i => xs.length - i.toNat, ⟨0, rfl, Nat.zero_le _, rfl⟩, ?_⟩
  rintro _ ⟨j, rfl, hj, hh⟩
  refine ifb_iff (q := j < xs.length) (by simp) (fun hlt => ?_) (fun hge => ?_)
  · have hlt' : j < ys.length := by omega
    obtain ⟨p, e1, c1⟩ := hx.at_ j hlt
    obtain ⟨q, e2, c2⟩ := hy.at_ j hlt'
    refine ⟨p, e1, by omega, by rw [hx.len]; omega, _, by rw [Int.toNat_natCast]; exact c1, q, e2, by omega, by rw [hy.len]; omega, _, by rw [Int.toNat_natCast]; exact c2, fun e => ⟨rfl, ?_⟩, fun e => ?_⟩
    · have : (xs == ys) = false := by
        rw [beq_eq_false_iff_ne]
        intro he
        subst he
        simp at e
      rw [this]
    · have e' : xs[j] = ys[j] := by simpa using e
      rw [wrap_succ hlt hb]
      refine ⟨⟨j + 1, rfl, hlt, ?_⟩, by simp; omega⟩
      rw [List.take_succ_eq_append_getElem hlt, List.take_succ_eq_append_getElem hlt', hh, e']
  · have : j = xs.length := by omega
    subst this
    rw [List.take_length, heq, List.take_length] at hh
    exact ⟨rfl, by rw [hh]; simp⟩
theorem eqInts_spec {a b : Sv} {xs ys : List Int} (hx : IntsAt h a xs) (hy : IntsAt h b ys) (hb : xs.length ≤ 4611686018427387904) : CallsH Try.prog 15 #[.slice a.a a.n a.c, .slice b.a b.n b.c] h (fun v h' => h = h' ∧ v = .bool (xs == ys)) :=
  F15 (ints_law hx hy hb)
end
def lkO' (nm : ByteArray) : List (ByteArray × List Int) → Option (List Int)
  | [] => none
  | (q, l) :: r => if nm = q then some l else lkO' nm r
def sameE (W : List (ByteArray × List Int)) (k : ByteArray) (xs : List Int) : Bool := match lkO' k W with
  | some ys => xs == ys
  | none => false
def eqW (V W : List (ByteArray × List Int)) : Bool := decide (V.length = W.length) && V.all fun e => sameE W e.1 e.2
theorem lkE_O (nm : ByteArray) (es : List (ByteArray × Sv × List Int)) : (lkE nm (es.map fun e => (e.1, e.2.1.v)) = none ∧ lkO' nm (es.map fun e => (e.1, e.2.2)) = none) ∨ ∃ e ∈ es, lkE nm (es.map fun e => (e.1, e.2.1.v)) = some e.2.1.v ∧ lkO' nm (es.map fun e => (e.1, e.2.2)) = some e.2.2 := by
  induction es with
  | nil => exact .inl ⟨rfl, rfl⟩
  | cons e es ih =>
    simp only [List.map_cons, lkE, lkO']
    by_cases h : nm = e.1
    · exact .inr ⟨e, by simp, by rw [if_pos h], by rw [if_pos h]⟩
    · rw [if_neg h, if_neg h]
      rcases ih with h1 | ⟨e', h1, h2⟩
      · exact .inl h1
      · exact .inr ⟨e', by simp [h1], h2⟩
/-- an entry found by its stamp -/
theorem find_stamp {L : Array MapEntry} {c : Nat} (hs : Stamps L c) {e : MapEntry} (he : e ∈ L) : L.find? (·.born == e.born) = some e := by
  rw [← Array.find?_toList]
  have hn := hs.1
  have he' : e ∈ L.toList := Array.mem_toList_iff.2 he
  generalize L.toList = l at hn he'
  induction l with
  | nil => cases he'
  | cons a l ih =>
    rw [List.map_cons, List.nodup_cons] at hn
    rw [List.find?_cons]
    rcases List.mem_cons.1 he' with rfl | h
    · simp
    · have : (a.born == e.born) = false := by
        rw [beq_eq_false_iff_ne]
        intro q
        exact hn.1 (q ▸ List.mem_map.2 ⟨e, h, rfl⟩)
      rw [this]
      exact ih hn.2 h
def leftN (L : Array MapEntry) (seen : Array Nat) : Nat := (leftM L seen).size
theorem left_less {L : Array MapEntry} {seen : Array Nat} {e : MapEntry} (he : e ∈ leftM L seen) : leftN L (seen.push e.born) < leftN L seen := by
  have h1 : leftM L (seen.push e.born) = (leftM L seen).filter fun x => x.born != e.born := by
    unfold leftM
    rw [Array.filter_filter]
    congr 1
    funext x
    simp only [Array.contains_push, Bool.not_or]
    exact Bool.and_comm _ _
  unfold leftN
  rw [h1]
  have h2 : ((leftM L seen).filter fun x => x.born != e.born).size = ((leftM L seen).toList.filter fun x => x.born != e.born).length := by rw [← Array.toList_filter, Array.length_toList]
  have h3 : ((leftM L seen).toList.filter fun x => x.born != e.born).length < (leftM L seen).toList.length := by
    rw [List.length_filter_lt_length_iff_exists]
    exact ⟨e, Array.mem_toList_iff.2 he, by simp⟩
  have h4 : (leftM L seen).toList.length = (leftM L seen).size := Array.length_toList
  omega
def iterSeen : Obj → Array Nat
  | .mapIter _ _ s _ => s
  | _ => #[]
theorem eqMaps_spec {Q : Nat → Prop} {h0 : Nat} {h : Heap} {m1 : Nat} {m2 : Option Nat} {V W : List (ByteArray × List Int)} (x1 : WApart h0 h m1 V) (x2 : WAt Q h m2 W) :
    CallsH Try.prog 14 #[.map (some m1), .map m2, .func (.func 15) #[] #[]] h (fun v h' => Grow h h' ∧ v = .bool (eqW V W)) := by
  obtain ⟨es, L, c, rfl, hm, hm0, hL, hst, hes⟩ := x1
  obtain ⟨fs, rfl, hm2, hq2, hfs⟩ := x2
  apply F14
  unfold L14
  refine ⟨_, .inr ⟨m1, L, c, rfl, hm, hL⟩, _, hm2, ?_⟩
  refine ifb_iff (q := es.length ≠ fs.length) (by simp; omega) (fun hne => ⟨Fr.refl _ _, ?_⟩) (fun heq => ?_)
  · unfold eqW
    rw [decide_eq_false (by simpa using hne)]; rfl
  have heq : es.length = fs.length := by omega
  refine ⟨m1, L, c, rfl, hm, ?_⟩
  rintro it h1 rfl rfl
  have hlen : L.size = es.length := by simpa using strEs_len hL
  have hkey : ∀ i (h1 : i < L.size) (h2 : i < es.length), L[i].key = .string es[i].1 ∧ L[i].val = es[i].2.1.v := by
    intro i h1 h2
    have := congrArg (·[i]?) hL
    simp only [mapEs, strEs, List.getElem?_map, Array.getElem?_toList, Array.getElem?_eq_getElem h1, List.getElem?_eq_getElem h2, Option.map_some, Option.some.injEq, Prod.mk.injEq] at this
    exact this
  have f1 : Grow h (h.push (.mapIter (some m1) c #[] c)) := Fr.push _ _ _
  have hi1 : (h.push (.mapIter (some m1) c #[] c))[h.size]? = some (.mapIter (some m1) c #[] c) := by simp
  generalize h.push (.mapIter (some m1) c #[] c) = h1 at *
  have hml := map_lt hm
  refine ⟨fun h' => ∃ seen, h'[h.size]? = some (.mapIter (some m1) c seen c) ∧ Grow h h' ∧ ∀ i (hi : i < L.size) (hi' : i < es.length), seen.contains L[i].born = true → sameE (fs.map fun e => (e.1, e.2.2)) es[i].1 es[i].2.2 = true, fun h' => leftN L (iterSeen (h'[h.size]?.getD (.mapIter none 0 #[] 0))), ⟨#[], hi1, f1, fun i hi hi' e => by simp at e⟩, ?_⟩
  rintro h2 ⟨seen, hi2, g2, hall⟩
  have hm2' : h2[m1]? = some (.map L c) := by rw [g2.same m1 hml fun h => h]; exact hm
  refine ⟨m1, c, seen, L, hi2, hm2', hst.2, fun hemp => ?_, fun e he h3 e3 => ?_⟩
  · refine ⟨_, rfl, _, rfl, fun e => (by cases e), fun _ => ⟨g2, ?_⟩⟩
    have : eqW (es.map fun e => (e.1, e.2.2)) (fs.map fun e => (e.1, e.2.2)) = true := by
      unfold eqW
      rw [Bool.and_eq_true, decide_eq_true_eq, List.all_eq_true]
      refine ⟨by simpa using heq, fun y hy => ?_⟩
      obtain ⟨y', hy', rfl⟩ := List.mem_map.1 hy
      obtain ⟨i, hi, rfl⟩ := List.mem_iff_getElem.1 hy'
      refine hall i (by omega) hi ?_
      unfold leftM at hemp
      rw [Array.filter_eq_empty_iff] at hemp
      have := hemp L[i] (Array.getElem_mem (by omega))
      simpa using this
    rw [this]
  · refine ⟨_, rfl, _, rfl, fun _ => ?_, fun e => (by cases e)⟩
    obtain ⟨heL, hns⟩ := Array.mem_filter.1 he
    obtain ⟨i, hi, rfl⟩ := Array.mem_iff_getElem.1 heL
    have hi' : i < es.length := by omega
    obtain ⟨k1, k2⟩ := hkey i hi hi'
    have hsz : h.size < h2.size := map_lt hi2
    have hi3 : h3[h.size]? = some (.mapIter (some m1) c (seen.push L[i].born) c) := by
      rw [e3, Array.getElem?_setIfInBounds, if_pos rfl, if_pos hsz]
    have g3 : Grow h h3 := by
      refine g2.trans' (T' := fun b => b = h.size) ⟨by rw [e3]; simp, fun b hb hne => ?_⟩ fun i hi e => by omega
      rw [e3, Array.getElem?_setIfInBounds, if_neg fun e => hne e.symm]
    have hm3 : h3[m1]? = some (.map L c) := by rw [g3.same m1 hml fun h => h]; exact hm
    refine ⟨m1, c, _, L, c, L[i], hi3, by simp, hm3, find_stamp hst heL, _, k1, es[i].2.1, k2, ?_⟩
    obtain ⟨is, ilen⟩ := hes _ (List.getElem_mem hi')
    refine ⟨_, MapAt.fr hm2 g3 fun _ _ h => h, ?_⟩
    have hfin : ∀ (b : Bool), sameE (fs.map fun e => (e.1, e.2.2)) es[i].1 es[i].2.2 = b → ∀ h4, h4 = h3 → ifb (!b) (Grow h h4 ∧ Value.bool false = Value.bool (eqW (es.map fun e => (e.1, e.2.2)) (fs.map fun e => (e.1, e.2.2))))
        ((∃ seen, h4[h.size]? = some (.mapIter (some m1) c seen c) ∧ Grow h h4 ∧ ∀ i (hi : i < L.size) (hi' : i < es.length), seen.contains L[i].born = true → sameE (fs.map fun e => (e.1, e.2.2)) es[i].1 es[i].2.2 = true) ∧
          leftN L (iterSeen (h4[h.size]?.getD (.mapIter none 0 #[] 0))) < leftN L (iterSeen (h2[h.size]?.getD (.mapIter none 0 #[] 0)))) := by
      rintro b hb h4 rfl
      refine ⟨fun e => ⟨g3, ?_⟩, fun e => ⟨⟨_, hi3, g3, fun i' q q' hc => ?_⟩, ?_⟩⟩
      · have hbf : b = false := by simpa using e
        have : eqW (es.map fun e => (e.1, e.2.2)) (fs.map fun e => (e.1, e.2.2)) = false := by
          unfold eqW
          rw [Bool.and_eq_false_iff]
          refine .inr ?_
          rw [List.all_eq_false]
          exact ⟨_, List.mem_map.2 ⟨es[i], List.getElem_mem hi', rfl⟩, by rw [hb, hbf]; simp⟩
        rw [this]
      · have hbt : b = true := by simpa using e
        rw [Array.contains_push] at hc
        rcases Bool.or_eq_true_iff.1 hc with hc | hc
        · exact hall i' q q' hc
        · have hbo : L[i'].born = L[i].born := by simpa using hc
          have : i' = i := by
            have hn := hst.1
            have hg := List.pairwise_iff_getElem.1 hn
            rcases Nat.lt_trichotomy i' i with hlt | rfl | hlt
            · exact (hg i' i (by simpa using q) (by simpa using hi) hlt (by simp only [List.getElem_map, Array.getElem_toList]; exact hbo)).elim
            · rfl
            · exact (hg i i' (by simpa using hi) (by simpa using q) hlt (by simp only [List.getElem_map, Array.getElem_toList]; exact hbo.symm)).elim
          subst this
          rw [hb, hbt]
      · rw [hi3, hi2]
        exact left_less he
    rcases lkE_O es[i].1 fs with ⟨h1, h2'⟩ | ⟨f, hf, h1, h2'⟩
    · rw [h1]
      refine ⟨⟨none, 0, 0⟩, rfl, fun x h' => x = true ∧ h' = h3, ⟨fun _ => ⟨rfl, rfl⟩, fun e => by simp at e⟩, ?_⟩
      rintro _ h4 ⟨rfl, e4⟩
      exact hfin false (by unfold sameE; rw [h2']) h4 e4
    · rw [h1]
      refine ⟨f.2.1, rfl, fun x h' => x = (!(es[i].2.2 == f.2.2)) ∧ h' = h3, ⟨fun e => by simp at e, fun _ => ?_⟩, ?_⟩
      · refine ⟨_, _, rfl, ⟨Try.f15, Try.func15, by kernel_rfl, by kernel_rfl⟩, ?_⟩
        obtain ⟨js, jlen⟩ := hfs f hf
        refine cal_of (eqInts_spec (is.fr g3 fun _ _ h => h).ints (js.fr g3 fun _ _ h => h).ints (by omega)) ?_
        rintro _ _ ⟨rfl, rfl⟩
        exact ⟨_, rfl, rfl, rfl⟩
      · rintro _ h4 ⟨rfl, e4⟩
        exact hfin (es[i].2.2 == f.2.2) (by unfold sameE; rw [h2']) h4 e4
end Go.Proofs.Yteaidgpiolakcaa

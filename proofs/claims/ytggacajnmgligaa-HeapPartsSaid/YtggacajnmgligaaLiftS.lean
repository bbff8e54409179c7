/-
  What arguments hold, by their types: ints, bools, slices of ints, slices of these, fields of structs.
-/
import Derived.Test.YtggacajnmgligaaLiftR
import Derived.Test.YtggacajnmgligaaLiftL
namespace Go.Lf
open Go

section
variable {P : Program} {h : Heap} {t e e2 : TypeId} {fuel : Nat}
theorem okWide_arr {w : World} {r : Reach} {base n : Nat} {v : Value} (ht : P.underlying t = some (.array n e)) (h : Value.okWide P w r base t v) : ∃ cs, v = .agg cs ∧ cs.size = P.cellsOf t := by
  unfold Value.okWide at h
  rw [ht] at h
  obtain ⟨cs, h1, h2, _⟩ := h
  exact ⟨cs, h1, h2⟩
theorem okWide_str {w : World} {r : Reach} {base : Nat} {v : Value} {fs : Array Field} (ht : P.underlying t = some (.struct fs)) (h : Value.okWide P w r base t v) : ∃ cs, v = .agg cs ∧ cs.size = P.cellsOf t := by
  unfold Value.okWide at h
  rw [ht] at h
  obtain ⟨cs, h1, h2, _⟩ := h
  exact ⟨cs, h1, h2⟩
theorem rd_int {k : IntKind} {cs : List Value} (hu : P.underlying t = some (.int k)) (hr : rd P h fuel t cs) : ∃ x, cs = [.int k x] ∧ (Lit.int k x).wf = true := by
  cases fuel with
  | zero => exact hr.elim
  | succ fuel =>
    unfold rd at hr
    rw [hu] at hr
    exact hr
theorem rd_bool {cs : List Value} (hu : P.underlying t = some .bool) (hr : rd P h fuel t cs) : ∃ x, cs = [.bool x] := by
  cases fuel with
  | zero => exact hr.elim
  | succ fuel =>
    unfold rd at hr
    rw [hu] at hr
    exact hr
theorem rd_slice {cs : List Value} (hu : P.underlying t = some (.slice e)) (hr : rd P h fuel t cs) : ∃ s : Sv, cs = [s.v] := by
  cases fuel with
  | zero => exact hr.elim
  | succ fuel =>
    unfold rd at hr
    rw [hu] at hr
    rcases hr with hr | ⟨a, n, c, hr, _⟩
    · exact ⟨⟨none, 0, 0⟩, hr⟩
    · exact ⟨⟨some a, n, c⟩, hr⟩
/-- each element of a slice, cell by cell -/
theorem rd_elems {s : Sv} (hu : P.underlying t = some (.slice e)) (hr : rd P h fuel t [s.v]) : s.n ≤ maxLen ∧ ∀ i, i < s.n → ∃ a, s.a = some a ∧ ∃ cs' : List Value, cs'.length = P.cellsOf e ∧ (∀ j, j < P.cellsOf e → cl h ((a.add (i * P.cellsOf e)).add j) = cs'[j]?) ∧ ∃ fuel', rd P h fuel' e cs' := by
  cases fuel with
  | zero => exact hr.elim
  | succ fuel =>
    unfold rd at hr
    rw [hu] at hr
    obtain ⟨sa, sn, sc⟩ := s
    rcases hr with hr | ⟨a, n, c, hr, h1, h2, hall⟩
    · simp [Sv.v] at hr
      obtain ⟨rfl, rfl, rfl⟩ := hr
      exact ⟨Nat.zero_le _, fun i hi => by simp at hi⟩
    · simp [Sv.v] at hr
      obtain ⟨rfl, rfl, rfl⟩ := hr
      refine ⟨Nat.le_trans h1 h2, fun i hi => ⟨a, rfl, ?_⟩⟩
      obtain ⟨cs', q1, q2, q3⟩ := hall i (by simp at hi; omega)
      exact ⟨cs', q1, q2, fuel, q3⟩
theorem add_zero (a : Addr) : a.add 0 = a := by
  obtain ⟨b, o, m⟩ := a
  unfold Addr.add
  split <;> simp_all
theorem rd_ints {s : Sv} (hu : P.underlying t = some (.slice e)) (he : P.underlying e = some (.int .i64)) (hc : P.cellsOf e = 1) (hr : rd P h fuel t [s.v]) : ∃ xs, IntsAt h s xs := by
  obtain ⟨-, hall⟩ := rd_elems hu hr
  have key : ∀ i, i < s.n → ∃ x : Int, ∃ p, s.a = some p ∧ cl h (p.add (i * 1)) = some (.int .i64 x) := by
    intro i hi
    obtain ⟨a, ea, cs', hlen, hcl, fuel', hr'⟩ := hall i hi
    obtain ⟨x, rfl, _⟩ := rd_int he hr'
    rw [hc] at hcl
    have := hcl 0 (by omega)
    rw [add_zero] at this
    exact ⟨x, a, ea, this⟩
  obtain ⟨f, hf⟩ := Go.Deep.choose_lt (α := Int) key
  refine ⟨(List.range s.n).map f, by simp, fun i hi => ?_⟩
  have hi' : i < s.n := by simpa using hi
  obtain ⟨p, e1, e2⟩ := hf i hi'
  exact ⟨p, e1, by simpa [hi'] using e2⟩
theorem rd_lists {s : Sv} (hu : P.underlying t = some (.slice e)) (he : P.underlying e = some (.slice e2)) (he2 : P.underlying e2 = some (.int .i64)) (hc : P.cellsOf e = 1) (hc2 : P.cellsOf e2 = 1) (hr : rd P h fuel t [s.v]) : ∃ ls, ListsAt h s ls := by
  obtain ⟨-, hall⟩ := rd_elems hu hr
  have key : ∀ i, i < s.n → ∃ xs : List Int, ∃ p, s.a = some p ∧ ∃ t : Sv, cl h (p.add (i * 1)) = some t.v ∧ IntsAt h t xs := by
    intro i hi
    obtain ⟨a, ea, cs', hlen, hcl, fuel', hr'⟩ := hall i hi
    obtain ⟨t, rfl⟩ := rd_slice he hr'
    obtain ⟨xs, hx⟩ := rd_ints he he2 hc2 hr'
    rw [hc] at hcl
    have := hcl 0 (by omega)
    rw [add_zero] at this
    exact ⟨xs, a, ea, t, this, hx⟩
  obtain ⟨f, hf⟩ := Go.Deep.choose_lt (α := List Int) key
  refine ⟨(List.range s.n).map f, by simp, fun i hi => ?_⟩
  have hi' : i < s.n := by simpa using hi
  obtain ⟨p, e1, t, e2, e3⟩ := hf i hi'
  exact ⟨p, e1, t, e2, by simpa [hi'] using e3⟩
theorem rd_len {cs : List Value} {fs : Array Field} (hu : P.underlying t = some (.struct fs)) (hr : rd P h fuel t cs) : cs.length = P.cellsOf t := by
  cases fuel with
  | zero => exact hr.elim
  | succ fuel =>
    unfold rd at hr
    rw [hu] at hr
    exact hr.1
theorem rd_field {cs : List Value} {fs : Array Field} (hu : P.underlying t = some (.struct fs)) (hr : rd P h fuel t cs) (i : Nat) {f : Field} (hf : fs[i]? = some f) {n : Nat} (hn : P.cellsOf f.type = n) : ∃ fuel', rd P h fuel' f.type ((cs.drop f.offset).take n) := by
  cases fuel with
  | zero => exact hr.elim
  | succ fuel =>
    unfold rd at hr
    rw [hu] at hr
    exact ⟨fuel, by rw [← hn]; exact hr.2 i f hf⟩
theorem rd_alen {cs : List Value} {n : Nat} (hu : P.underlying t = some (.array n e)) (hr : rd P h fuel t cs) : cs.length = P.cellsOf t := by
  cases fuel with
  | zero => exact hr.elim
  | succ fuel =>
    unfold rd at hr
    rw [hu] at hr
    exact hr.1
theorem rd_at {cs : List Value} {n : Nat} (hu : P.underlying t = some (.array n e)) (hr : rd P h fuel t cs) (i : Nat) (hi : i < n) {c : Nat} (hc : P.cellsOf e = c) : ∃ fuel', rd P h fuel' e ((cs.drop (i * c)).take c) := by
  cases fuel with
  | zero => exact hr.elim
  | succ fuel =>
    unfold rd at hr
    rw [hu] at hr
    exact ⟨fuel, by rw [← hc]; exact hr.2 i hi⟩
end
end Go.Lf

/-
  Rows: what the arguments hold.
-/
import Derived.Test.YthpfblimfaefhaaRows
import Derived.Test.YthpfblimfaefhaaS4
import Derived.Test.YthpfblimfaefhaaLiftR
namespace Go.Proofs.Ythpfblimfaefhaa.row
open Go Go.Lf Go.ChangeShapes Go.WideShapes Go.ChangeAt Go.RowKit

theorem own : ownKnob Try.prog.godebug = none := by kernel_rfl
theorem laidOut : laidOutB Try.prog = true := by kernel_rfl
theorem c33 : Try.prog.cellsOf 33 = 2 := by kernel_rfl
theorem c30 : Try.prog.cellsOf 30 = 3 := by kernel_rfl
theorem c3 : Try.prog.cellsOf 3 = 1 := by kernel_rfl

theorem okWide_array {P : Program} {w : World} {r : Reach} {base n : Nat} {t e : TypeId} {v : Value} (ht : P.underlying t = some (.array n e)) (h : Value.okWide P w r base t v) : ∃ cs, v = .agg cs ∧ cs.size = P.cellsOf t := by
  unfold Value.okWide at h
  rw [ht] at h
  obtain ⟨cs, h1, h2, _⟩ := h
  exact ⟨cs, h1, h2⟩

/-- a slice of pairs reads as pairs -/
theorem pairs_rd {h : Heap} {fuel : Nat} {a : Option Addr} {n c : Nat} (hr : rd Try.prog h fuel 22 [.slice a n c]) : ∃ ps, PairsAt h ⟨a, n, c⟩ ps := by
  cases fuel with
  | zero => exact hr.elim
  | succ fuel =>
    unfold rd at hr
    rw [Try.underlying22] at hr
    rcases hr with hr | ⟨a', n', c', e, hl, _, hall⟩
    · simp at hr
      obtain ⟨rfl, rfl, rfl⟩ := hr
      exact ⟨[], rfl, fun i hi => by simp at hi⟩
    · simp at e
      obtain ⟨rfl, rfl, rfl⟩ := e
      have key : ∀ i, i < n → ∃ x : Int × Int, cl h (a'.add (i * 2)) = some (.int .i64 x.1) ∧ cl h ((a'.add (i * 2)).add 1) = some (.int .i64 x.2) := by
        intro i hi
        obtain ⟨cs, hlen, hc, hr⟩ := hall i (by omega)
        rw [c33] at hlen hc
        cases fuel with
        | zero => exact hr.elim
        | succ fuel =>
          unfold rd at hr
          rw [Try.underlying33] at hr
          obtain ⟨_, hall'⟩ := hr
          have r0 := hall' 0 (by omega)
          have r1 := hall' 1 (by omega)
          cases fuel with
          | zero => exact r0.elim
          | succ fuel =>
            unfold rd at r0 r1
            rw [Try.underlying3] at r0 r1
            rw [c3] at r0 r1
            obtain ⟨x, e0, _⟩ := r0
            obtain ⟨y, e1, _⟩ := r1
            match cs, hlen with
            | [u, v], _ =>
              simp at e0 e1
              subst e0; subst e1
              have h0 := hc 0 (by omega)
              have h1 := hc 1 (by omega)
              exact ⟨(x, y), by simpa [Addr.add] using h0, by simpa using h1⟩
      obtain ⟨f, hf⟩ := Go.Deep.choose_lt (α := Int × Int) key
      refine ⟨(List.range n).map f, by simp, fun i hi => ⟨a', rfl, ?_⟩⟩
      have hi' : i < n := by simpa using hi
      have := hf i hi'
      simpa [hi'] using this


theorem arr_rd {h : Heap} {n fuel : Nat} {t : TypeId} (hu : Try.prog.underlying t = some (.array n 3)) (hc : Try.prog.cellsOf t = n) {cs : List Value} (hr : rd Try.prog h fuel t cs) : cs.length = n ∧ ∀ i, i < n → ∃ x, cs[i]? = some (.int .i64 x) := by
  cases fuel with
  | zero => exact hr.elim
  | succ fuel =>
    unfold rd at hr
    rw [hu] at hr
    obtain ⟨hl, hall⟩ := hr
    rw [hc] at hl
    refine ⟨hl, fun i hi => ?_⟩
    have k := hall i hi
    rw [c3, Nat.mul_one] at k
    cases fuel with
    | zero => exact k.elim
    | succ fuel =>
      unfold rd at k
      rw [Try.underlying3] at k
      obtain ⟨x, e, _⟩ := k
      refine ⟨x, ?_⟩
      have := congrArg (fun l => l[0]?) e
      simpa using this
end Go.Proofs.Ythpfblimfaefhaa.row

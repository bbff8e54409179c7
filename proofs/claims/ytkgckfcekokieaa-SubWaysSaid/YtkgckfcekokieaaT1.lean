/-
  Rows: what a case as an argument holds.
-/
import Derived.Test.YtkgckfcekokieaaT0
import Derived.Test.YtkgckfcekokieaaS8
namespace Go.Proofs.Ytkgckfcekokieaa.row
open Go Go.Lf Go.ChangeShapes Go.WideShapes Go.ChangeAt Go.RowKit

theorem c26 : Try.prog.cellsOf 26 = 1 := by kernel_rfl
theorem c37 : Try.prog.cellsOf 37 = 8 := by kernel_rfl
theorem c39 : Try.prog.cellsOf 39 = 18 := by kernel_rfl
theorem arr_rdk {P : Program} {h : Heap} {fuel : Nat} {t e n : Nat} {k : IntKind} {cs : List Value} (hu : P.underlying t = some (.array n e)) (he : P.underlying e = some (.int k)) (hc : P.cellsOf e = 1) (ht : P.cellsOf t = n) (hr : rd P h fuel t cs) : cs.length = n ∧ ∀ i, i < n → ∃ x, cs[i]? = some (.int k x) := by
  cases fuel with
  | zero => exact hr.elim
  | succ fuel =>
    unfold rd at hr
    rw [hu] at hr
    obtain ⟨h1, h2⟩ := hr
    refine ⟨by rw [h1, ht], fun i hi => ?_⟩
    have := h2 i hi
    rw [hc, Nat.mul_one] at this
    obtain ⟨x, e, _⟩ := rd_int he this
    refine ⟨x, ?_⟩
    have e0 := congrArg (fun l => l[0]?) e
    simpa [List.getElem?_take, List.getElem?_drop] using e0
theorem case39 {h : Heap} {fuel : Nat} {cs : Array Value} (hr : rd Try.prog h fuel 39 (Value.agg cs).cells.toList) :
    ∃ (v : Tv) (t : Ty) (sx sy sz : Sv) (xs ys zs : List Int) (b0 b1 b2 b3 b4 b5 b6 b7 f : Int), cs = caseC v sx sy sz b0 b1 b2 b3 b4 b5 b6 b7 f ∧ TyAt (fun b => b < h.size) h t v ∧ IntsAt h sx xs ∧ IntsAt h sy ys ∧ IntsAt h sz zs ∧ (0 ≤ f ∧ f ≤ 18446744073709551615) := by
  have hl := rd_len Try.underlying39 hr
  rw [c39] at hl
  obtain ⟨l⟩ := cs
  simp only [Value.cells] at hr hl
  obtain ⟨_, r0⟩ := rd_field Try.underlying39 hr 0 rfl c25
  obtain ⟨_, r1⟩ := rd_field Try.underlying39 hr 1 rfl c22
  obtain ⟨_, r2⟩ := rd_field Try.underlying39 hr 2 rfl c22
  obtain ⟨_, r3⟩ := rd_field Try.underlying39 hr 3 rfl c22
  obtain ⟨_, r4⟩ := rd_field Try.underlying39 hr 4 rfl c37
  obtain ⟨_, r5⟩ := rd_field Try.underlying39 hr 5 rfl c26
  obtain ⟨v, t, e0, ht⟩ := ty25l r0
  obtain ⟨sx, e1⟩ := rd_slice Try.underlying22 r1
  obtain ⟨sy, e2⟩ := rd_slice Try.underlying22 r2
  obtain ⟨sz, e3⟩ := rd_slice Try.underlying22 r3
  obtain ⟨hl4, e4⟩ := arr_rdk Try.underlying37 Try.underlying26 c26 c37 r4
  obtain ⟨f, e5, hw⟩ := rd_int Try.underlying26 r5
  match l, hl with
  | [u0, u1, u2, u3, u4, u5, u6, u7, u8, u9, u10, u11, u12, u13, u14, u15, u16, u17], _ =>
    simp at e0 e1 e2 e3 e5
    replace r1 : rd Try.prog h _ 22 [u6] := r1
    replace r2 : rd Try.prog h _ 22 [u7] := r2
    replace r3 : rd Try.prog h _ 22 [u8] := r3
    obtain ⟨b0, g0⟩ := e4 0 (by omega)
    obtain ⟨b1, g1⟩ := e4 1 (by omega)
    obtain ⟨b2, g2⟩ := e4 2 (by omega)
    obtain ⟨b3, g3⟩ := e4 3 (by omega)
    obtain ⟨b4, g4⟩ := e4 4 (by omega)
    obtain ⟨b5, g5⟩ := e4 5 (by omega)
    obtain ⟨b6, g6⟩ := e4 6 (by omega)
    obtain ⟨b7, g7⟩ := e4 7 (by omega)
    simp at g0 g1 g2 g3 g4 g5 g6 g7
    obtain ⟨rfl, rfl, rfl, rfl, rfl, rfl⟩ := e0
    subst e1 e2 e3 e5 g0 g1 g2 g3 g4 g5 g6 g7
    obtain ⟨xs, hx⟩ := rd_ints Try.underlying22 Try.underlying3 c3 r1
    obtain ⟨ys, hy⟩ := rd_ints Try.underlying22 Try.underlying3 c3 r2
    obtain ⟨zs, hz⟩ := rd_ints Try.underlying22 Try.underlying3 c3 r3
    refine ⟨v, t, sx, sy, sz, xs, ys, zs, b0, b1, b2, b3, b4, b5, b6, b7, f, rfl, ht, hx, hy, hz, ?_⟩
    simp only [Lit.wf, Bool.and_eq_true, decide_eq_true_eq] at hw
    have h1 : IntKind.u64.min = 0 := rfl
    have h2 : IntKind.u64.max = 18446744073709551615 := rfl
    omega
end Go.Proofs.Ytkgckfcekokieaa.row

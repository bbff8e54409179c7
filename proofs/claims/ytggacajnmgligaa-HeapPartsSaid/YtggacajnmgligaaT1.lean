/-
  Values and pointers, as arguments hold them.
-/
import Derived.Test.YtggacajnmgligaaT0
import Derived.Test.YtggacajnmgligaaH7
import Derived.Test.YtggacajnmgligaaLiftS
namespace Go.Proofs.Ytggacajnmgligaa.row
open Go Go.Lf Go.ChangeShapes Go.WideShapes Go.ChangeAt Go.RowKit Go.Proofs.Ytggacajnmgligaa
set_option linter.unusedVariables false
set_option maxRecDepth 20000

theorem cI : Try.prog.cellsOf 3 = 1 := by kernel_rfl
theorem cU : Try.prog.cellsOf 22 = 1 := by kernel_rfl
theorem cB : Try.prog.cellsOf 4 = 1 := by kernel_rfl
theorem cS : Try.prog.cellsOf 9 = 1 := by kernel_rfl
theorem cIs : Try.prog.cellsOf 26 = 1 := by kernel_rfl
theorem cVs : Try.prog.cellsOf 31 = 1 := by kernel_rfl
theorem cV : Try.prog.cellsOf 33 = 7 := by kernel_rfl
theorem cP : Try.prog.cellsOf 28 = 3 := by kernel_rfl
section
variable {h : Heap}
theorem pt_rd {fuel : Nat} {cs : List Value} (hr : rd Try.prog h fuel 28 cs) : ∃ (al : Int) (s : Sv) (tg : Int) (xs : List Int), cs = (pvs al s tg).toList ∧ IntsC (fun b => b < h.size) h s xs := by
  have hln := rd_len Try.underlying28 hr
  rw [cP] at hln
  match cs, hln with
  | [u0, u1, u2], _ =>
    obtain ⟨_, r0⟩ := rd_field Try.underlying28 hr 0 rfl cI
    obtain ⟨_, r1⟩ := rd_field Try.underlying28 hr 1 rfl cIs
    obtain ⟨_, r2⟩ := rd_field Try.underlying28 hr 2 rfl cI
    obtain ⟨al, e0, _⟩ := rd_int Try.underlying3 r0
    obtain ⟨s, e1⟩ := rd_slice Try.underlying26 r1
    obtain ⟨tg, e2, _⟩ := rd_int Try.underlying3 r2
    simp at e0 e1 e2
    subst e0 e1 e2
    obtain ⟨xs, hx⟩ := rd_ints Try.underlying26 Try.underlying3 cI r1
    exact ⟨al, s, tg, xs, rfl, IntsQ.of hx fun b _ hb => hb, rd_cap Try.underlying26 r1⟩
theorem vl_rd : ∀ (fuel : Nat) (cs : List Value), rd Try.prog h fuel 33 cs → ∃ (v : Vv) (y : Vl), cs = (vvs v).toList ∧ VAt false (fun b => b < h.size) h y (anyA fun b => b < h.size) v := by
  intro fuel
  induction fuel using Nat.strongRecOn with
  | _ fuel ih =>
    intro cs hr
    cases fuel with
    | zero => exact hr.elim
    | succ f =>
      have hln := rd_len Try.underlying33 hr
      rw [cV] at hln
      match cs, hln with
      | [u0, u1, u2, u3, u4, u5, u6], _ =>
        have r0 := rd_fieldS Try.underlying33 hr 0 rfl cI
        have r1 := rd_fieldS Try.underlying33 hr 1 rfl cU
        have r2 := rd_fieldS Try.underlying33 hr 2 rfl cS
        have r3 := rd_fieldS Try.underlying33 hr 3 rfl cVs
        have r4 := rd_fieldS Try.underlying33 hr 4 rfl cP
        obtain ⟨k, e0, _⟩ := rd_int Try.underlying3 r0
        obtain ⟨n, e1, _⟩ := rd_int Try.underlying22 r1
        obtain ⟨nm, e2⟩ := rd_string Try.underlying9 r2
        obtain ⟨az, e3⟩ := rd_slice Try.underlying31 r3
        obtain ⟨al, pa, tg, xs, e4, hx⟩ := pt_rd r4
        simp at e0 e1 e2 e3 e4
        obtain ⟨e4, e5, e6⟩ := e4
        subst e0 e1 e2 e3 e4 e5 e6
        cases f with
        | zero => exact r3.elim
        | succ g =>
          have hel := rd_elemsS Try.underlying31 r3
          have key : ∀ i, i < az.n → ∃ y : Vl, ∃ p v, az.a = some p ∧ p.block < h.size ∧ Vv7 h (p.add (i * 7)) v ∧ VAt false (fun b => b < h.size) h y (anyA fun b => b < h.size) v := by
            intro i hi'
            obtain ⟨a, ea, cs', q1, q2, q3⟩ := hel i hi'
            obtain ⟨v, y, rfl, hy⟩ := ih g (by omega) cs' q3
            rw [cV] at q2
            have T7 : Vv7 h (a.add (i * 7)) v := by
              intro j u hu
              have hj : j < 7 := (Array.getElem?_eq_some_iff.1 hu).1
              rw [q2 j hj, Array.getElem?_toList]
              exact hu
            exact ⟨y, a, v, ea, by have := T7.lt; rwa [add_block] at this, T7, hy⟩
          have : ∃ ys : List Vl, ys.length = az.n ∧ ∀ j (hj : j < ys.length), ∃ p u, az.a = some p ∧ p.block < h.size ∧ Vv7 h (p.add (j * 7)) u ∧ VAt false (fun b => b < h.size) h ys[j] (anyA fun b => b < h.size) u := by
            refine ⟨(List.range az.n).attach.map fun i => Classical.choose (key i.1 (by simpa using i.2)), by simp, fun j hj => ?_⟩
            simp only [List.getElem_map, List.getElem_attach, List.getElem_range]
            exact Classical.choose_spec (key j (by simpa using hj))
          obtain ⟨ys, hy1, hy2⟩ := this
          refine ⟨⟨k, n, nm, az, al, pa, tg⟩, .mk k n nm ys al xs tg, rfl, vAt_iff.2 ⟨rfl, rfl, rfl, rfl, rfl, hx, hy1.symm, fun j hj => ?_⟩⟩
          obtain ⟨p, u, a1, a2, a3, a4⟩ := hy2 j hj
          exact ⟨p, u, a1, a2, fun e => (by cases e), a3, a4⟩
theorem vlR {fuel : Nat} {cs : Array Value} (hr : rd Try.prog h fuel 33 (Value.agg cs).cells.toList) : ∃ (v : Vv) (y : Vl), cs = vvs v ∧ VAt false (fun b => b < h.size) h y (anyA fun b => b < h.size) v := by
  obtain ⟨v, y, e, hy⟩ := vl_rd _ _ hr
  exact ⟨v, y, by apply Array.ext'; simpa [Value.cells] using e, hy⟩
theorem ptR {fuel : Nat} {cs : Array Value} (hr : rd Try.prog h fuel 28 (Value.agg cs).cells.toList) : ∃ (al : Int) (s : Sv) (tg : Int), cs = pvs al s tg := by
  obtain ⟨al, s, tg, xs, e, hy⟩ := pt_rd hr
  exact ⟨al, s, tg, by apply Array.ext'; simpa [Value.cells] using e⟩
/-- two numbers, two flags, and a number -/
theorem rightsR {fuel : Nat} {cs : Array Value} (hr : rd Try.prog h fuel 44 (Value.agg cs).cells.toList) : ∃ (a b : Int) (c d : Bool) (e : Int), cs = #[.int .u64 a, .int .u64 b, .bool c, .bool d, .int .i64 e] := by
  have hln := rd_len Try.underlying44 hr
  rw [show Try.prog.cellsOf 44 = 5 by kernel_rfl] at hln
  obtain ⟨cs⟩ := cs
  simp only [Value.cells] at hr hln
  match cs, hln with
  | [u0, u1, u2, u3, u4], _ =>
    obtain ⟨_, r0⟩ := rd_field Try.underlying44 hr 0 rfl cU
    obtain ⟨_, r1⟩ := rd_field Try.underlying44 hr 1 rfl cU
    obtain ⟨_, r2⟩ := rd_field Try.underlying44 hr 2 rfl cB
    obtain ⟨_, r3⟩ := rd_field Try.underlying44 hr 3 rfl cB
    obtain ⟨_, r4⟩ := rd_field Try.underlying44 hr 4 rfl cI
    obtain ⟨a, e0, _⟩ := rd_int Try.underlying22 r0
    obtain ⟨b, e1, _⟩ := rd_int Try.underlying22 r1
    obtain ⟨c, e2⟩ := rd_bool Try.underlying4 r2
    obtain ⟨d, e3⟩ := rd_bool Try.underlying4 r3
    obtain ⟨e, e4, _⟩ := rd_int Try.underlying3 r4
    simp at e0 e1 e2 e3 e4
    subst e0 e1 e2 e3 e4
    exact ⟨a, b, c, d, e, rfl⟩
theorem partsR {fuel : Nat} {cs : Array Value} (hr : rd Try.prog h fuel 49 (Value.agg cs).cells.toList) : ∃ (a b : Int) (c d : Bool), cs = #[.int .u64 a, .int .u64 b, .bool c, .bool d] := by
  have hln := rd_len Try.underlying49 hr
  rw [show Try.prog.cellsOf 49 = 4 by kernel_rfl] at hln
  obtain ⟨cs⟩ := cs
  simp only [Value.cells] at hr hln
  match cs, hln with
  | [u0, u1, u2, u3], _ =>
    obtain ⟨_, r0⟩ := rd_field Try.underlying49 hr 0 rfl cU
    obtain ⟨_, r1⟩ := rd_field Try.underlying49 hr 1 rfl cU
    obtain ⟨_, r2⟩ := rd_field Try.underlying49 hr 2 rfl cB
    obtain ⟨_, r3⟩ := rd_field Try.underlying49 hr 3 rfl cB
    obtain ⟨a, e0, _⟩ := rd_int Try.underlying22 r0
    obtain ⟨b, e1, _⟩ := rd_int Try.underlying22 r1
    obtain ⟨c, e2⟩ := rd_bool Try.underlying4 r2
    obtain ⟨d, e3⟩ := rd_bool Try.underlying4 r3
    simp at e0 e1 e2 e3
    subst e0 e1 e2 e3
    exact ⟨a, b, c, d, rfl⟩
end
end Go.Proofs.Ytggacajnmgligaa.row

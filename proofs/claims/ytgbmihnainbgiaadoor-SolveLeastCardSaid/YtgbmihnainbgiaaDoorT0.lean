/-
  Rows: what the arguments hold; the table of the variable that the rows list.
-/
import Derived.Test.YtgbmihnainbgiaaDoorRows
import Derived.Test.YtgbmihnainbgiaaDoorS8
import Derived.LaidMore
import Derived.Stop.Joined
namespace Go.Proofs.YtgbmihnainbgiaaDoor.row
open Go Go.Lf Go.ChangeShapes Go.WideShapes Go.ChangeAt Go.RowKit

theorem own : ownKnob Tryd.prog.godebug = none := by kernel_rfl
theorem laidOut : laidOutB Tryd.prog = true := by kernel_rfl
theorem c42 : Tryd.prog.cellsOf 42 = 3 := by kernel_rfl
theorem c35 : Tryd.prog.cellsOf 35 = 4 := by kernel_rfl
theorem c3 : Tryd.prog.cellsOf 3 = 1 := by kernel_rfl
theorem c4 : Tryd.prog.cellsOf 4 = 1 := by kernel_rfl

def laidL {H : Type} : List (String × DataW H) := [("math/bits.deBruijn64tab", Rows.laid_math_bits_deBruijn64tab)]
/-- The door's own heap meets the condition. -/
theorem door_met (os : Os) (args : Array Value) : laidMetH Tryd.prog laidL ((World.doorLaid Tryd.prog 400 os).forCall (fun _ _ => 0) ⟨#[], args, []⟩).memory :=
  laidMetH_of_parts3 (fuel := 8) (laidMet_of_run' 8 (by kernel_rfl) (by kernel_rfl)) (by kernel_rfl) (by kernel_rfl)

theorem case_rd {h : Heap} {fuel : Nat} {cs : Array Value} (hr : rd Tryd.prog h fuel 35 (Value.agg cs).cells.toList) : ∃ a b c d : Int, cs = #[.int .i64 a, .int .i64 b, .int .i64 c, .int .i64 d] := by
  have hl := rd_len Tryd.underlying35 hr
  rw [c35] at hl
  obtain ⟨l⟩ := cs
  simp only [Value.cells] at hr hl
  match l, hl with
  | [u0, u1, u2, u3], _ =>
    obtain ⟨_, r0⟩ := rd_field Tryd.underlying35 hr 0 rfl c3
    obtain ⟨_, r1⟩ := rd_field Tryd.underlying35 hr 1 rfl c3
    obtain ⟨_, r2⟩ := rd_field Tryd.underlying35 hr 2 rfl c3
    obtain ⟨_, r3⟩ := rd_field Tryd.underlying35 hr 3 rfl c3
    obtain ⟨a, e0, _⟩ := rd_int Tryd.underlying3 r0
    obtain ⟨b, e1, _⟩ := rd_int Tryd.underlying3 r1
    obtain ⟨c, e2, _⟩ := rd_int Tryd.underlying3 r2
    obtain ⟨d, e3, _⟩ := rd_int Tryd.underlying3 r3
    simp at e0 e1 e2 e3
    subst e0 e1 e2 e3
    exact ⟨a, b, c, d, rfl⟩
theorem ops22 {h : Heap} {fuel : Nat} {cs : List Value} (hr : rd Tryd.prog h fuel 22 cs) : ∃ s xs, cs = [.slice s.a s.n s.c] ∧ OpsAt h s xs := by
  obtain ⟨s, rfl⟩ := rd_slice Tryd.underlying22 hr
  obtain ⟨-, hall⟩ := rd_elems Tryd.underlying22 hr
  have key : ∀ i, i < s.n → ∃ o : Opn, ∃ p, s.a = some p ∧ cl h (p.add (i * 3)) = some (.bool o.1) ∧ cl h ((p.add (i * 3)).add 1) = some (.int .i64 o.2.1) ∧ cl h ((p.add (i * 3)).add 2) = some (.int .i64 o.2.2) := by
    intro i hi
    obtain ⟨a, ea, cs', hlen, hcl, fuel', hr'⟩ := hall i hi
    rw [c42] at hlen hcl
    obtain ⟨_, r0⟩ := rd_field Tryd.underlying42 hr' 0 rfl c4
    obtain ⟨_, r1⟩ := rd_field Tryd.underlying42 hr' 1 rfl c3
    obtain ⟨_, r2⟩ := rd_field Tryd.underlying42 hr' 2 rfl c3
    obtain ⟨x0, e0⟩ := rd_bool Tryd.underlying4 r0
    obtain ⟨x1, e1, _⟩ := rd_int Tryd.underlying3 r1
    obtain ⟨x2, e2, _⟩ := rd_int Tryd.underlying3 r2
    match cs', hlen with
    | [u0, u1, u2], _ =>
      simp at e0 e1 e2
      subst e0 e1 e2
      have h0 := hcl 0 (by omega)
      rw [add_zero] at h0
      exact ⟨(x0, x1, x2), a, ea, h0, hcl 1 (by omega), hcl 2 (by omega)⟩
  obtain ⟨f, hf⟩ := Go.Deep.choose_lt (α := Opn) key
  refine ⟨s, (List.range s.n).map f, rfl, by simp, rd_cap Tryd.underlying22 hr, fun i hi => ?_⟩
  have hi' : i < s.n := by simpa using hi
  obtain ⟨p, e1, e2, e3, e4⟩ := hf i hi'
  exact ⟨p, e1, by simpa [hi'] using e2, by simpa [hi'] using e3, by simpa [hi'] using e4⟩
end Go.Proofs.YtgbmihnainbgiaaDoor.row

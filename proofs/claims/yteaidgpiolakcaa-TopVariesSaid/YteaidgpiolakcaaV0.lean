/-
  Small types: the one of wip/vary's V0 over ty/TyA.
-/
import Derived.Test.YteaidgpiolakcaaTyA
namespace Go.Proofs.Yteaidgpiolakcaa
open Go Go.Lf
set_option linter.unusedVariables false

theorem small_up : ∀ (n : Nat) (t : Ty), small n t = true → small (n + 1) t = true := by
  intro n
  induction n with
  | zero => intro t h; cases t; cases h
  | succ n ih =>
    intro t h
    obtain ⟨k, nm, mu, r, rs, az⟩ := t
    have h' : (decide (az.length ≤ 4) && decide (rs.length ≤ 6) && decide (nm.size ≤ 60) && az.all (small n)) = true := h
    show (decide (az.length ≤ 4) && decide (rs.length ≤ 6) && decide (nm.size ≤ 60) && az.all (small (n + 1))) = true
    simp only [Bool.and_eq_true, List.all_eq_true] at h' ⊢
    exact ⟨h'.1, fun a ha => ih a (h'.2 a ha)⟩
theorem small_ups (n m : Nat) (t : Ty) (h : small n t = true) : small (n + m) t = true := by
  induction m with
  | zero => exact h
  | succ m ih => exact small_up _ _ ih
end Go.Proofs.Yteaidgpiolakcaa

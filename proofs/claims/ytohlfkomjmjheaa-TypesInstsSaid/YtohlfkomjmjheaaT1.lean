/-
  Rows: slices of types.
-/
import Derived.Test.YtohlfkomjmjheaaT0
import Derived.Test.YtohlfkomjmjheaaTyM
namespace Go.Proofs.Ytohlfkomjmjheaa.row
open Go Go.Lf Go.ChangeShapes Go.WideShapes Go.ChangeAt Go.RowKit

theorem typesR {h : Heap} {fuel : Nat} {cs : List Value} (hr : rd Try.prog h fuel 23 cs) : ∃ (s : Sv) (bs : List Ty), cs = [.slice s.a s.n s.c] ∧ TyAt (fun b => b < h.size) h (tNil bs) ⟨0, ⟨#[]⟩, false, 0, ⟨none, 0, 0⟩, s⟩ := by
  obtain ⟨s, rfl⟩ := rd_slice Try.underlying23 hr
  obtain ⟨-, hall⟩ := rd_elems Try.underlying23 hr
  have key : ∀ i, i < s.n → ∃ y : Ty, ∃ p u, s.a = some p ∧ p.block < h.size ∧ Tv6 h (p.add (i * 6)) u ∧ TyAt (fun b => b < h.size) h y u := by
    intro i hi
    obtain ⟨a, ea, cs', hlen, hcl, fuel', hr'⟩ := hall i hi
    rw [cT] at hlen hcl
    obtain ⟨v, y, e, hy⟩ := ty25l hr'
    subst e
    have h0 := hcl 0 (by omega)
    have h1 := hcl 1 (by omega)
    have h2 := hcl 2 (by omega)
    have h3 := hcl 3 (by omega)
    have h4 := hcl 4 (by omega)
    have h5 := hcl 5 (by omega)
    rw [add_zero] at h0
    exact ⟨y, a, v, ea, by rw [← add_block a (i * 6)]; exact cl_lt h0, ⟨h0, h1, h2, h3, h4, h5⟩, hy⟩
  have : Inhabited Ty := ⟨tNil []⟩
  obtain ⟨f, hf⟩ := Go.Deep.choose_lt (α := Ty) key
  refine ⟨s, (List.range s.n).map f, rfl, ?_⟩
  unfold tNil
  refine tyAt_iff.2 ⟨rfl, rfl, rfl, rfl, IntsC.nil _ _, by simp, ?_⟩
  intro i hi
  have hi' : i < s.n := by simpa using hi
  obtain ⟨p, u, e1, e2, e3, e4⟩ := hf i hi'
  exact ⟨p, u, e1, e2, e3, by simpa [hi'] using e4⟩
end Go.Proofs.Ytohlfkomjmjheaa.row

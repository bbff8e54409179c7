/-
  Rows: types, structs.
-/
import Derived.Test.YtomafdhiflbgcaaT0
import Derived.Test.YtomafdhiflbgcaaW5
import Derived.Test.YtomafdhiflbgcaaLiftV
namespace Go.Proofs.Ytomafdhiflbgcaa.row
open Go Go.Lf Go.ChangeShapes Go.WideShapes Go.ChangeAt Go.RowKit

theorem cT : Try.prog.cellsOf 34 = 6 := by kernel_rfl
theorem cIs : Try.prog.cellsOf 26 = 1 := by kernel_rfl
theorem cTs : Try.prog.cellsOf 32 = 1 := by kernel_rfl
theorem cB : Try.prog.cellsOf 4 = 1 := by kernel_rfl
theorem cS : Try.prog.cellsOf 9 = 1 := by kernel_rfl
theorem cSs : Try.prog.cellsOf 37 = 1 := by kernel_rfl
theorem cD : Try.prog.cellsOf 39 = 4 := by kernel_rfl
theorem ty25l {h : Heap} {fuel : Nat} {cs : List Value} (hr : rd Try.prog h fuel 34 cs) : ∃ (v : Tv) (y : Ty), cs = (tvs v).toList ∧ TyAt (fun b => b < h.size) h y v :=
  ty_rd Try.underlying34 cT ⟨_, rfl, rfl, rfl⟩ ⟨_, rfl, rfl, rfl⟩ ⟨_, rfl, rfl, rfl⟩ ⟨_, rfl, rfl, rfl⟩ ⟨_, rfl, rfl, rfl⟩ ⟨_, rfl, rfl, rfl⟩ Try.underlying3 Try.underlying9 Try.underlying4 Try.underlying26 Try.underlying32 cI cS cB cIs cTs fuel cs hr
theorem tyR {h : Heap} {fuel : Nat} {cs : Array Value} (hr : rd Try.prog h fuel 34 (Value.agg cs).cells.toList) : ∃ (v : Tv) (y : Ty), cs = tvs v ∧ TyAt (fun b => b < h.size) h y v := by
  obtain ⟨v, y, e, hy⟩ := ty25l hr
  exact ⟨v, y, by apply Array.ext'; simpa [Value.cells] using e, hy⟩
theorem typesR {h : Heap} {fuel : Nat} {cs : List Value} (hr : rd Try.prog h fuel 32 cs) : ∃ (s : Sv) (bs : List Ty), cs = [.slice s.a s.n s.c] ∧ TyAt (fun b => b < h.size) h (tNil bs) ⟨0, ⟨#[]⟩, false, 0, ⟨none, 0, 0⟩, s⟩ := by
  obtain ⟨s, rfl⟩ := rd_slice Try.underlying32 hr
  obtain ⟨-, hall⟩ := rd_elems Try.underlying32 hr
  have key : ∀ i, i < s.n → ∃ y : Ty, ∃ p u, s.a = some p ∧ p.block < h.size ∧ Tv6 h (p.add (i * 6)) u ∧ TyAt (fun b => b < h.size) h y u := by
    intro i hi
    obtain ⟨a, ea, cs', hlen, hcl, fuel', hr'⟩ := hall i hi
    rw [cT] at hlen hcl
    obtain ⟨v, y, e, hy⟩ := ty25l hr'
    subst e
    have h0 := hcl 0 (by omega)
    have h1 := hcl 1 (by omega)
    have h2 := hcl 2 (by omega)
    have h3 := hcl 3 (by omega)
    have h4 := hcl 4 (by omega)
    have h5 := hcl 5 (by omega)
    rw [add_zero] at h0
    exact ⟨y, a, v, ea, by rw [← add_block a (i * 6)]; exact cl_lt h0, ⟨h0, h1, h2, h3, h4, h5⟩, hy⟩
  have : Inhabited Ty := ⟨tNil []⟩
  obtain ⟨f, hf⟩ := Go.Deep.choose_lt (α := Ty) key
  refine ⟨s, (List.range s.n).map f, rfl, ?_⟩
  unfold tNil
  refine tyAt_iff.2 ⟨rfl, rfl, rfl, rfl, IntsC.nil _ _, by simp, ?_⟩
  intro i hi
  have hi' : i < s.n := by simpa using hi
  obtain ⟨p, u, e1, e2, e3, e4⟩ := hf i hi'
  exact ⟨p, u, e1, e2, e3, by simpa [hi'] using e4⟩
theorem namesR {h : Heap} {fuel : Nat} {cs : List Value} (hr : rd Try.prog h fuel 37 cs) : ∃ (s : Sv) (l : List ByteArray), cs = [.slice s.a s.n s.c] ∧ NamesQ (fun b => b < h.size) h s l := by
  obtain ⟨s, rfl⟩ := rd_slice Try.underlying37 hr
  obtain ⟨-, hall⟩ := rd_elems Try.underlying37 hr
  have key : ∀ i, i < s.n → ∃ y : ByteArray, ∃ p, s.a = some p ∧ p.block < h.size ∧ cl h (p.add (i * 1)) = some (.string y) := by
    intro i hi
    obtain ⟨a, ea, cs', hlen, hcl, fuel', hr'⟩ := hall i hi
    rw [cS] at hlen hcl
    obtain ⟨y, e⟩ := rd_string Try.underlying9 hr'
    subst e
    have h0 := hcl 0 (by omega)
    rw [add_zero] at h0
    exact ⟨y, a, ea, by rw [← add_block a (i * 1)]; exact cl_lt h0, h0⟩
  have : Inhabited ByteArray := ⟨⟨#[]⟩⟩
  obtain ⟨f, hf⟩ := Go.Deep.choose_lt (α := ByteArray) key
  refine ⟨s, (List.range s.n).map f, rfl, by simp, fun i hi => ?_⟩
  have hi' : i < s.n := by simpa using hi
  obtain ⟨p, e1, e2, e3⟩ := hf i hi'
  exact ⟨p, e1, e2, by simpa [hi'] using e3⟩
theorem defR {h : Heap} {fuel : Nat} {cs : List Value} (hr : rd Try.prog h fuel 39 cs) : ∃ (v : Dv) (d : Df), cs = (dvs v).toList ∧ DfAt (fun b => b < h.size) h v d := by
  have hl := rd_len Try.underlying39 hr
  rw [cD] at hl
  obtain ⟨f0, r0⟩ := rd_field Try.underlying39 hr 0 rfl cS
  obtain ⟨f1, r1⟩ := rd_field Try.underlying39 hr 1 rfl cI
  obtain ⟨f2, r2⟩ := rd_field Try.underlying39 hr 2 rfl cSs
  obtain ⟨f3, r3⟩ := rd_field Try.underlying39 hr 3 rfl cTs
  match cs, hl with
  | [u0, u1, u2, u3], _ =>
    obtain ⟨nm, e0⟩ := rd_string Try.underlying9 r0
    obtain ⟨lf, e1, _⟩ := rd_int Try.underlying3 r1
    obtain ⟨ts, tys, e2, h2⟩ := namesR r2
    obtain ⟨fs, fl, e3, h3⟩ := typesR r3
    simp at e0 e1 e2 e3
    subst e0 e1 e2 e3
    exact ⟨⟨nm, lf, ts, fs⟩, ⟨nm, lf, tys, fl⟩, rfl, ⟨rfl, rfl, h2, h3⟩⟩
theorem defsR {h : Heap} {fuel : Nat} {cs : List Value} (hr : rd Try.prog h fuel 31 cs) : ∃ (s : Sv) (ds : List Df), cs = [.slice s.a s.n s.c] ∧ DsAt (fun b => b < h.size) h s ds := by
  obtain ⟨s, rfl⟩ := rd_slice Try.underlying31 hr
  obtain ⟨-, hall⟩ := rd_elems Try.underlying31 hr
  have key : ∀ i, i < s.n → ∃ y : Df, ∃ p v, s.a = some p ∧ p.block < h.size ∧ Dv4 h (p.add (i * 4)) v ∧ DfAt (fun b => b < h.size) h v y := by
    intro i hi
    obtain ⟨a, ea, cs', hlen, hcl, fuel', hr'⟩ := hall i hi
    rw [cD] at hlen hcl
    obtain ⟨v, y, e, hy⟩ := defR hr'
    subst e
    have h0 := hcl 0 (by omega)
    have h1 := hcl 1 (by omega)
    have h2 := hcl 2 (by omega)
    have h3 := hcl 3 (by omega)
    rw [add_zero] at h0
    exact ⟨y, a, v, ea, by rw [← add_block a (i * 4)]; exact cl_lt h0, ⟨h0, h1, h2, h3⟩, hy⟩
  have : Inhabited Df := ⟨⟨⟨#[]⟩, 0, [], []⟩⟩
  obtain ⟨f, hf⟩ := Go.Deep.choose_lt (α := Df) key
  refine ⟨s, (List.range s.n).map f, rfl, by simp, fun i hi => ?_⟩
  have hi' : i < s.n := by simpa using hi
  obtain ⟨p, v, e1, e2, e3, e4⟩ := hf i hi'
  exact ⟨p, v, e1, e2, e3, by simpa [hi'] using e4⟩
end Go.Proofs.Ytomafdhiflbgcaa.row

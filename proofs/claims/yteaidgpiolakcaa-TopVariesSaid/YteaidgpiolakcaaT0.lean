/-
  Rows: what the argument holds.
-/
import Derived.Test.YteaidgpiolakcaaRows
import Derived.Test.YteaidgpiolakcaaU2
import Derived.Test.YteaidgpiolakcaaLiftV
import Derived.Test.YteaidgpiolakcaaLiftS
namespace Go.Proofs.Yteaidgpiolakcaa.row
open Go Go.Lf Go.ChangeShapes Go.WideShapes Go.ChangeAt Go.RowKit

theorem own : ownKnob Try.prog.godebug = none := by kernel_rfl
theorem laidOut : laidOutB Try.prog = true := by kernel_rfl
theorem cI : Try.prog.cellsOf 3 = 1 := by kernel_rfl
theorem cT : Try.prog.cellsOf 32 = 6 := by kernel_rfl
theorem cIs : Try.prog.cellsOf 30 = 1 := by kernel_rfl
theorem cTs : Try.prog.cellsOf 22 = 1 := by kernel_rfl
theorem cB : Try.prog.cellsOf 4 = 1 := by kernel_rfl
theorem cS : Try.prog.cellsOf 9 = 1 := by kernel_rfl
theorem ty25l {h : Heap} {fuel : Nat} {cs : List Value} (hr : rd Try.prog h fuel 32 cs) : ∃ (v : Tv) (y : Ty), cs = (tvs v).toList ∧ TyAt (fun b => b < h.size) h y v :=
  ty_rd Try.underlying32 cT ⟨_, rfl, rfl, rfl⟩ ⟨_, rfl, rfl, rfl⟩ ⟨_, rfl, rfl, rfl⟩ ⟨_, rfl, rfl, rfl⟩ ⟨_, rfl, rfl, rfl⟩ ⟨_, rfl, rfl, rfl⟩ Try.underlying3 Try.underlying9 Try.underlying4 Try.underlying30 Try.underlying22 cI cS cB cIs cTs fuel cs hr
theorem tyR {h : Heap} {fuel : Nat} {cs : Array Value} (hr : rd Try.prog h fuel 32 (Value.agg cs).cells.toList) : ∃ (v : Tv) (y : Ty), cs = tvs v ∧ TyAt (fun b => b < h.size) h y v := by
  obtain ⟨v, y, e, hy⟩ := ty25l hr
  exact ⟨v, y, by apply Array.ext'; simpa [Value.cells] using e, hy⟩
theorem typesR {h : Heap} {fuel : Nat} {cs : List Value} (hr : rd Try.prog h fuel 22 cs) : ∃ (s : Sv) (bs : List Ty), cs = [.slice s.a s.n s.c] ∧ TyAt (fun b => b < h.size) h (tNil bs) ⟨0, ⟨#[]⟩, false, 0, ⟨none, 0, 0⟩, s⟩ := by
  obtain ⟨s, rfl⟩ := rd_slice Try.underlying22 hr
  obtain ⟨-, hall⟩ := rd_elems Try.underlying22 hr
  have key : ∀ i, i < s.n → ∃ y : Ty, ∃ p u, s.a = some p ∧ p.block < h.size ∧ Tv6 h (p.add (i * 6)) u ∧ TyAt (fun b => b < h.size) h y u := by
    intro i hi
    obtain ⟨a, ea, cs', hlen, hcl, fuel', hr'⟩ := hall i hi
    rw [cT] at hlen hcl
    obtain ⟨v, y, e, hy⟩ := ty25l hr'
    subst e
    have h0 := hcl 0 (by omega)
    have h1 := hcl 1 (by omega)
    have h2 := hcl 2 (by omega)
    have h3 := hcl 3 (by omega)
    have h4 := hcl 4 (by omega)
    have h5 := hcl 5 (by omega)
    rw [add_zero] at h0
    exact ⟨y, a, v, ea, by rw [← add_block a (i * 6)]; exact cl_lt h0, ⟨h0, h1, h2, h3, h4, h5⟩, hy⟩
  have : Inhabited Ty := ⟨tNil []⟩
  obtain ⟨f, hf⟩ := Go.Deep.choose_lt (α := Ty) key
  refine ⟨s, (List.range s.n).map f, rfl, ?_⟩
  unfold tNil
  refine tyAt_iff.2 ⟨rfl, rfl, rfl, rfl, IntsC.nil _ _, by simp, ?_⟩
  intro i hi
  have hi' : i < s.n := by simpa using hi
  obtain ⟨p, u, e1, e2, e3, e4⟩ := hf i hi'
  exact ⟨p, u, e1, e2, e3, by simpa [hi'] using e4⟩
theorem cU : Try.prog.cellsOf 24 = 1 := by kernel_rfl
theorem c4 : Try.prog.cellsOf 23 = 4 := by kernel_rfl
theorem c8 : Try.prog.cellsOf 25 = 8 := by kernel_rfl
theorem cF : Try.prog.cellsOf 27 = 17 := by kernel_rfl
theorem arr_rdk {P : Program} {h : Heap} {fuel : Nat} {t e n : Nat} {k : IntKind} {cs : List Value} (hu : P.underlying t = some (.array n e)) (he : P.underlying e = some (.int k)) (hc : P.cellsOf e = 1) (ht : P.cellsOf t = n) (hr : rd P h fuel t cs) : cs.length = n ∧ ∀ i, i < n → ∃ x : Int, cs[i]? = some (.int k x) := by
  cases fuel with
  | zero => exact hr.elim
  | succ fuel =>
    unfold rd at hr
    rw [hu] at hr
    obtain ⟨h1, h2⟩ := hr
    refine ⟨by rw [h1, ht], fun i hi => ?_⟩
    have := h2 i hi
    rw [hc, Nat.mul_one] at this
    obtain ⟨x, e, _⟩ := rd_int he this
    refine ⟨x, ?_⟩
    have e0 := congrArg (fun l => l[0]?) e
    simpa [List.getElem?_take, List.getElem?_drop] using e0
theorem fieldsR {h : Heap} {fuel : Nat} {cs : Array Value} (hr : rd Try.prog h fuel 27 (Value.agg cs).cells.toList) :
    ∃ (l : Sv) (x0 x1 x2 x3 y0 y1 y2 y3 u0 u1 u2 u3 u4 u5 u6 u7 : Int) (fs : List Ty), cs = fvs l x0 x1 x2 x3 y0 y1 y2 y3 u0 u1 u2 u3 u4 u5 u6 u7 ∧ TyAt (fun b => b < h.size) h (tNil fs) ⟨0, ⟨#[]⟩, false, 0, ⟨none, 0, 0⟩, l⟩ := by
  have hl := rd_len Try.underlying27 hr
  rw [cF] at hl
  obtain ⟨l⟩ := cs
  simp only [Value.cells] at hr hl
  obtain ⟨_, r0⟩ := rd_field Try.underlying27 hr 0 rfl cTs
  obtain ⟨_, r1⟩ := rd_field Try.underlying27 hr 1 rfl c4
  obtain ⟨_, r2⟩ := rd_field Try.underlying27 hr 2 rfl c4
  obtain ⟨_, r3⟩ := rd_field Try.underlying27 hr 3 rfl c8
  obtain ⟨s, fs, e0, ht⟩ := typesR r0
  obtain ⟨hl1, e1⟩ := arr_rdk Try.underlying23 Try.underlying3 cI c4 r1
  obtain ⟨hl2, e2⟩ := arr_rdk Try.underlying23 Try.underlying3 cI c4 r2
  obtain ⟨hl3, e3⟩ := arr_rdk Try.underlying25 Try.underlying24 cU c8 r3
  match l, hl with
  | [v0, v1, v2, v3, v4, v5, v6, v7, v8, v9, v10, v11, v12, v13, v14, v15, v16], _ =>
    simp at e0
    obtain ⟨x0, g1⟩ := e1 0 (by omega)
    obtain ⟨x1, g2⟩ := e1 1 (by omega)
    obtain ⟨x2, g3⟩ := e1 2 (by omega)
    obtain ⟨x3, g4⟩ := e1 3 (by omega)
    obtain ⟨y0, g5⟩ := e2 0 (by omega)
    obtain ⟨y1, g6⟩ := e2 1 (by omega)
    obtain ⟨y2, g7⟩ := e2 2 (by omega)
    obtain ⟨y3, g8⟩ := e2 3 (by omega)
    obtain ⟨u0, g9⟩ := e3 0 (by omega)
    obtain ⟨u1, g10⟩ := e3 1 (by omega)
    obtain ⟨u2, g11⟩ := e3 2 (by omega)
    obtain ⟨u3, g12⟩ := e3 3 (by omega)
    obtain ⟨u4, g13⟩ := e3 4 (by omega)
    obtain ⟨u5, g14⟩ := e3 5 (by omega)
    obtain ⟨u6, g15⟩ := e3 6 (by omega)
    obtain ⟨u7, g16⟩ := e3 7 (by omega)
    simp at g1 g2 g3 g4 g5 g6 g7 g8 g9 g10 g11 g12 g13 g14 g15 g16
    subst e0 g1 g2 g3 g4 g5 g6 g7 g8 g9 g10 g11 g12 g13 g14 g15 g16
    exact ⟨s, x0, x1, x2, x3, y0, y1, y2, y3, u0, u1, u2, u3, u4, u5, u6, u7, fs, rfl, ht⟩
end Go.Proofs.Yteaidgpiolakcaa.row

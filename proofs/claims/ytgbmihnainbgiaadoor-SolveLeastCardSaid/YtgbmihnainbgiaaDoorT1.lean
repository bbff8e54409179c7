/-
  The library's table, as the row's condition lays it.
-/
import Derived.Test.YtgbmihnainbgiaaDoorT0
import Derived.Test.YtgbmihnainbgiaaDoorE4
namespace Go.Proofs.YtgbmihnainbgiaaDoor.row
open Go Go.Lf Go.ChangeShapes Go.WideShapes Go.ChangeAt Go.RowKit

theorem glob : Tryd.prog.globalNamed "math/bits.deBruijn64tab" = some 0 := by kernel_rfl
theorem globT : (Tryd.prog.globals[0]?).map (·.type) = some 54 := by kernel_rfl
theorem under54 : Tryd.prog.underlying 54 = some (.array 64 5) := by kernel_rfl
theorem under5 : Tryd.prog.underlying 5 = some (.int .u8) := by kernel_rfl
theorem cells5 : Tryd.prog.cellsOf 5 = 1 := by kernel_rfl
theorem cells54 : Tryd.prog.cellsOf 54 = 64 := by kernel_rfl
theorem no_handle : (laidL (H := Unit)).filter (fun x => x.2.handleName?.isSome) = [] := rfl
theorem datum : (Rows.laid_math_bits_deBruijn64tab : DataW Unit) = .agg (tabL.map fun x => .lit (.int .u8 x)) := rfl
theorem tab_met {w : World} (hX : laidMetH Tryd.prog laidL w) : TabAt w.heap := by
  unfold laidMetH at hX
  rw [no_handle] at hX
  obtain ⟨ps, hl, -, hp⟩ := hX
  obtain ⟨g, t, cs, fuel, p, q, e1, e2, e3, e4, -, e6⟩ := hl
  rw [glob] at e1
  obtain rfl : 0 = g := by simpa using e1
  rw [globT] at e2
  obtain rfl : 54 = t := by simpa using e2
  obtain ⟨xs, m, hf, hx, hlen, hxl, hall⟩ := DataW.trod_array under54 e4
  rw [cells54] at hlen
  rw [datum] at hx
  simp only [Prod.mk.injEq, DataW.agg.injEq] at hx
  have hcell : MemPlace.cell 0 0 ∈ ps := by
    rw [e6]
    refine List.mem_append_left _ (List.mem_append_left _ ?_)
    unfold MemPlace.row
    refine List.mem_map.2 ⟨0, List.mem_range.2 ?_, rfl⟩
    rw [← Array.length_toList]; omega
  obtain ⟨⟨c, t, hb⟩, -⟩ := hp 0 0 hcell
  have hvar : w.var? Tryd.prog "math/bits.deBruijn64tab" = some c := by
    unfold World.var?
    rw [glob]
    simp only [Option.bind_some, hb]
  rw [hvar] at e3
  obtain rfl : c = cs := by simpa using e3
  have kb : blk w.heap 0 c := ⟨t, hb⟩
  refine ⟨kb.lt, fun i hi => ?_⟩
  have hi64 : i < 64 := hi
  have h1 := hall i hi64
  have hxi : i < xs.length := by omega
  rw [List.getElem?_eq_getElem hxi, cells5] at h1
  obtain ⟨n, c1, c2, -⟩ := DataW.trod_int under5 h1
  have h3 : xs[i].1 = .lit (.int .u8 tabL[i]) := by
    have := congrArg (·[i]?) hx.1
    simp only [List.getElem?_map, List.getElem?_eq_getElem hxi, List.getElem?_eq_getElem hi, Option.map_some, Option.some.injEq] at this
    exact this.symm
  rw [c2] at h3
  have hn : n = tabL[i] := by simpa using h3
  subst hn
  rw [kb.cl]
  have e0 := congrArg (fun l => l[0]?) c1
  have : c.toList[i]? = some (.int .u8 tabL[i]) := by simpa [List.getElem?_take, List.getElem?_drop] using e0
  rw [Array.getElem?_toList] at this
  exact this
end Go.Proofs.YtgbmihnainbgiaaDoor.row

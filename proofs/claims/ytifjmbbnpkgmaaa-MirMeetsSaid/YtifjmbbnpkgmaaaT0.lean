/-
  Rows: places, bodies, as arguments hold them.
-/
import Derived.Test.YtifjmbbnpkgmaaaRows
import Derived.Test.YtifjmbbnpkgmaaaM11
import Derived.Test.YtifjmbbnpkgmaaaLiftV
import Derived.Test.YtifjmbbnpkgmaaaLiftS
import Derived.Test.YtifjmbbnpkgmaaaLiftX
import Derived.SizedLaws
namespace Go.Proofs.Ytifjmbbnpkgmaaa.row
open Go Go.Lf Go.ChangeShapes Go.WideShapes Go.ChangeAt Go.RowKit
set_option linter.unusedVariables false

theorem own : ownKnob Try.prog.godebug = none := by kernel_rfl
theorem laidOut : laidOutB Try.prog = true := by kernel_rfl
theorem cI : Try.prog.cellsOf 3 = 1 := by kernel_rfl
theorem cU : Try.prog.cellsOf 57 = 1 := by kernel_rfl
theorem cB : Try.prog.cellsOf 4 = 1 := by kernel_rfl
theorem cS : Try.prog.cellsOf 9 = 1 := by kernel_rfl
theorem cIs : Try.prog.cellsOf 22 = 1 := by kernel_rfl
theorem cTs : Try.prog.cellsOf 47 = 1 := by kernel_rfl
theorem cOs : Try.prog.cellsOf 54 = 1 := by kernel_rfl
theorem cLs : Try.prog.cellsOf 30 = 1 := by kernel_rfl
theorem cCs : Try.prog.cellsOf 31 = 1 := by kernel_rfl
theorem cP : Try.prog.cellsOf 24 = 2 := by kernel_rfl
theorem cR : Try.prog.cellsOf 56 = 8 := by kernel_rfl
theorem cO : Try.prog.cellsOf 59 = 5 := by kernel_rfl
theorem cPos : Try.prog.cellsOf 51 = 2 := by kernel_rfl
theorem cC : Try.prog.cellsOf 61 = 21 := by kernel_rfl
theorem cBd : Try.prog.cellsOf 33 = 4 := by kernel_rfl
theorem cG : Try.prog.cellsOf 26 = 6 := by kernel_rfl
theorem intsR {h : Heap} {fuel : Nat} {cs : List Value} (hr : rd Try.prog h fuel 22 cs) : ∃ (s : Sv) (l : List Int), cs = [.slice s.a s.n s.c] ∧ IntsAt h s l ∧ s.n ≤ s.c := by
  obtain ⟨s, rfl⟩ := rd_slice Try.underlying22 hr
  obtain ⟨xs, hx⟩ := rd_ints Try.underlying22 Try.underlying3 cI hr
  exact ⟨s, xs, rfl, hx, rd_cap Try.underlying22 hr⟩
theorem placeL {h : Heap} {fuel : Nat} {cs : List Value} (hr : rd Try.prog h fuel 24 cs) : ∃ (x : Int) (s : Sv) (xs : List Int), cs = (plc x s).toList ∧ IntsAt h s xs ∧ s.n ≤ s.c := by
  have hl := rd_len Try.underlying24 hr
  rw [cP] at hl
  obtain ⟨_, r0⟩ := rd_field Try.underlying24 hr 0 rfl cI
  obtain ⟨_, r1⟩ := rd_field Try.underlying24 hr 1 rfl cIs
  obtain ⟨x, e0, _⟩ := rd_int Try.underlying3 r0
  obtain ⟨s, xs, e1, hx, hc⟩ := intsR r1
  match cs, hl with
  | [u0, u1], _ =>
    simp at e0 e1
    subst e0 e1
    exact ⟨x, s, xs, rfl, hx, hc⟩
theorem placeR {h : Heap} {fuel : Nat} {cs : Array Value} (hr : rd Try.prog h fuel 24 (Value.agg cs).cells.toList) : ∃ (x : Int) (s : Sv) (xs : List Int), cs = plc x s ∧ IntsAt h s xs ∧ s.n ≤ s.c := by
  obtain ⟨x, s, xs, e, h1, h2⟩ := placeL hr
  exact ⟨x, s, xs, by apply Array.ext'; simpa [Value.cells] using e, h1, h2⟩
theorem operandL {h : Heap} {fuel : Nat} {cs : List Value} (hr : rd Try.prog h fuel 59 cs) : ∃ (k x : Int) (s : Sv) (t n : Int), cs = [.int .i64 k, .int .i64 x, .slice s.a s.n s.c, .int .i64 t, .int .u64 n] := by
  have hl := rd_len Try.underlying59 hr
  rw [cO] at hl
  obtain ⟨_, r0⟩ := rd_field Try.underlying59 hr 0 rfl cI
  obtain ⟨_, r1⟩ := rd_field Try.underlying59 hr 1 rfl cP
  obtain ⟨_, r2⟩ := rd_field Try.underlying59 hr 2 rfl cI
  obtain ⟨_, r3⟩ := rd_field Try.underlying59 hr 3 rfl cU
  obtain ⟨k, e0, _⟩ := rd_int Try.underlying3 r0
  obtain ⟨x, s, xs, e1, -, -⟩ := placeL r1
  obtain ⟨t, e2, _⟩ := rd_int Try.underlying3 r2
  obtain ⟨n, e3, _⟩ := rd_int Try.underlying57 r3
  match cs, hl with
  | [u0, u1, u2, u3, u4], _ =>
    simp at e0 e1 e2 e3
    obtain ⟨rfl, rfl⟩ := e1
    subst e0 e2 e3
    exact ⟨k, x, s, t, n, rfl⟩
theorem operandsR {h : Heap} {fuel : Nat} {cs : List Value} (hr : rd Try.prog h fuel 54 cs) : ∃ s : Sv, cs = [.slice s.a s.n s.c] ∧ OpsAt h s := by
  obtain ⟨s, rfl⟩ := rd_slice Try.underlying54 hr
  obtain ⟨-, hall⟩ := rd_elems Try.underlying54 hr
  refine ⟨s, rfl, fun k hk => ?_⟩
  obtain ⟨a, ea, cs', hlen, hcl, fuel', hr'⟩ := hall k hk
  rw [cO] at hlen hcl
  obtain ⟨k', x, t, ty, n, e⟩ := operandL hr'
  subst e
  have h2 := hcl 2 (by omega)
  exact ⟨a, t, ea, by rw [add_add]; exact h2⟩
theorem rightL {h : Heap} {fuel : Nat} {cs : List Value} (hr : rd Try.prog h fuel 56 cs) : ∃ (k : Int) (ra : Sv) (x : Int) (s : Sv) (m : Bool) (nm : ByteArray) (n : Int) (ts : Sv),
    cs = [.int .i64 k, .slice ra.a ra.n ra.c, .int .i64 x, .slice s.a s.n s.c, .bool m, .string nm, .int .i64 n, .slice ts.a ts.n ts.c] ∧ OpsAt h ra := by
  have hl := rd_len Try.underlying56 hr
  rw [cR] at hl
  obtain ⟨_, r0⟩ := rd_field Try.underlying56 hr 0 rfl cI
  obtain ⟨_, r1⟩ := rd_field Try.underlying56 hr 1 rfl cOs
  obtain ⟨_, r2⟩ := rd_field Try.underlying56 hr 2 rfl cP
  obtain ⟨_, r3⟩ := rd_field Try.underlying56 hr 3 rfl cB
  obtain ⟨_, r4⟩ := rd_field Try.underlying56 hr 4 rfl cS
  obtain ⟨_, r5⟩ := rd_field Try.underlying56 hr 5 rfl cI
  obtain ⟨_, r6⟩ := rd_field Try.underlying56 hr 6 rfl cTs
  obtain ⟨k, e0, _⟩ := rd_int Try.underlying3 r0
  obtain ⟨ra, e1, ho⟩ := operandsR r1
  obtain ⟨x, s, xs, e2, -, -⟩ := placeL r2
  obtain ⟨m, e3⟩ := rd_bool Try.underlying4 r3
  obtain ⟨nm, e4⟩ := rd_string Try.underlying9 r4
  obtain ⟨n, e5, _⟩ := rd_int Try.underlying3 r5
  obtain ⟨ts, e6⟩ := rd_slice Try.underlying47 r6
  match cs, hl with
  | [u0, u1, u2, u3, u4, u5, u6, u7], _ =>
    simp [Sv.v] at e0 e1 e2 e3 e4 e5 e6
    obtain ⟨rfl, rfl⟩ := e2
    subst e0 e1 e3 e4 e5 e6
    exact ⟨k, ra, x, s, m, nm, n, ts, rfl, ho⟩
theorem instrL {h : Heap} {fuel : Nat} {cs : List Value} (hr : rd Try.prog h fuel 61 cs) : ∃ v : Iv, cs = (ivs v).toList ∧ OpsAt h v.ra := by
  have hl := rd_len Try.underlying61 hr
  rw [cC] at hl
  obtain ⟨_, r0⟩ := rd_field Try.underlying61 hr 0 rfl cI
  obtain ⟨_, r1⟩ := rd_field Try.underlying61 hr 1 rfl cI
  obtain ⟨_, r2⟩ := rd_field Try.underlying61 hr 2 rfl cP
  obtain ⟨_, r3⟩ := rd_field Try.underlying61 hr 3 rfl cR
  obtain ⟨_, r4⟩ := rd_field Try.underlying61 hr 4 rfl cO
  obtain ⟨_, r5⟩ := rd_field Try.underlying61 hr 5 rfl cI
  obtain ⟨_, r6⟩ := rd_field Try.underlying61 hr 6 rfl cI
  obtain ⟨_, r7⟩ := rd_field Try.underlying61 hr 7 rfl cPos
  obtain ⟨_, q0⟩ := rd_field Try.underlying51 r7 0 rfl cI
  obtain ⟨_, q1⟩ := rd_field Try.underlying51 r7 1 rfl cI
  obtain ⟨k, e0, _⟩ := rd_int Try.underlying3 r0
  obtain ⟨lc, e1, _⟩ := rd_int Try.underlying3 r1
  obtain ⟨d0, dp, _, e2, -, -⟩ := placeL r2
  obtain ⟨rk, ra, rp, rq, rm, rn, rN, rt, e3, ho⟩ := rightL r3
  obtain ⟨ck, c0, cp, ct, cn, e4⟩ := operandL r4
  obtain ⟨to, e5, _⟩ := rd_int Try.underlying3 r5
  obtain ⟨el, e6, _⟩ := rd_int Try.underlying3 r6
  obtain ⟨a1, e7, _⟩ := rd_int Try.underlying3 q0
  obtain ⟨a2, e8, _⟩ := rd_int Try.underlying3 q1
  match cs, hl with
  | [u0, u1, u2, u3, u4, u5, u6, u7, u8, u9, u10, u11, u12, u13, u14, u15, u16, u17, u18, u19, u20], _ =>
    simp at e0 e1 e2 e3 e4 e5 e6 e7 e8
    obtain ⟨rfl, rfl⟩ := e2
    obtain ⟨rfl, rfl, rfl, rfl, rfl, rfl, rfl, rfl⟩ := e3
    obtain ⟨rfl, rfl, rfl, rfl, rfl⟩ := e4
    subst e0 e1 e5 e6 e7 e8
    exact ⟨⟨k, lc, d0, dp, rk, ra, rp, rq, rm, rn, rN, rt, ck, c0, cp, ct, cn, to, el, a1, a2⟩, rfl, ho⟩
theorem codeR {h : Heap} {fuel : Nat} {cs : List Value} (hr : rd Try.prog h fuel 31 cs) : ∃ (co : Sv) (l : List Iv), cs = [.slice co.a co.n co.c] ∧ co.n = l.length ∧ (∀ i (hi : i < l.length), ∃ p, co.a = some p ∧ Iv21 h (p.add (i * 21)) l[i]) ∧ ∀ v ∈ l, OpsAt h v.ra := by
  obtain ⟨s, rfl⟩ := rd_slice Try.underlying31 hr
  obtain ⟨-, hall⟩ := rd_elems Try.underlying31 hr
  have key : ∀ i, i < s.n → ∃ v : Iv, ∃ p, s.a = some p ∧ Iv21 h (p.add (i * 21)) v ∧ OpsAt h v.ra := by
    intro i hi
    obtain ⟨a, ea, cs', hlen, hcl, fuel', hr'⟩ := hall i hi
    rw [cC] at hlen hcl
    obtain ⟨v, e, ho⟩ := instrL hr'
    subst e
    refine ⟨v, a, ea, fun j u hu => ?_, ho⟩
    have hj : j < 21 := ivs_lt hu
    have := hcl j hj
    rw [this, Array.getElem?_toList]; exact hu
  have : Inhabited Iv := ⟨zIv⟩
  obtain ⟨f, hf⟩ := Go.Deep.choose_lt (α := Iv) key
  refine ⟨s, (List.range s.n).map f, rfl, by simp, fun i hi => ?_, fun v hv => ?_⟩
  · have hi' : i < s.n := by simpa using hi
    obtain ⟨p, e1, e2, -⟩ := hf i hi'
    exact ⟨p, e1, by simpa using e2⟩
  · obtain ⟨i, hi, rfl⟩ := List.mem_map.1 hv
    obtain ⟨p, -, -, e3⟩ := hf i (by simpa using hi)
    exact e3
theorem bodyR {h : Heap} {fuel : Nat} {cs : Array Value} (hr : rd Try.prog h fuel 33 (Value.agg cs).cells.toList) :
    ∃ (nm : ByteArray) (pa : Int) (lo co : Sv) (l : List Iv), cs = bvs nm pa lo co ∧ co.n = l.length ∧ (∀ i (hi : i < l.length), ∃ p, co.a = some p ∧ Iv21 h (p.add (i * 21)) l[i]) ∧ ∀ v ∈ l, OpsAt h v.ra := by
  have hl := rd_len Try.underlying33 hr
  rw [cBd] at hl
  obtain ⟨_, r0⟩ := rd_field Try.underlying33 hr 0 rfl cS
  obtain ⟨_, r1⟩ := rd_field Try.underlying33 hr 1 rfl cI
  obtain ⟨_, r2⟩ := rd_field Try.underlying33 hr 2 rfl cLs
  obtain ⟨_, r3⟩ := rd_field Try.underlying33 hr 3 rfl cCs
  obtain ⟨nm, e0⟩ := rd_string Try.underlying9 r0
  obtain ⟨pa, e1, _⟩ := rd_int Try.underlying3 r1
  obtain ⟨lo, e2⟩ := rd_slice Try.underlying30 r2
  obtain ⟨co, l, e3, h1, h2, h3⟩ := codeR r3
  obtain ⟨cs⟩ := cs
  simp only [Value.cells] at hl e0 e1 e2 e3
  match cs, hl with
  | [u0, u1, u2, u3], _ =>
    simp [Sv.v] at e0 e1 e2 e3
    subst e0 e1 e2 e3
    exact ⟨nm, pa, lo, co, l, rfl, h1, h2, h3⟩
theorem caseR {h : Heap} {fuel : Nat} {cs : Array Value} (hr : rd Try.prog h fuel 26 (Value.agg cs).cells.toList) :
    ∃ (a : Int) (sa : Sv) (b : Int) (sb sx sy : Sv) (xs ys us vs : List Int), cs = gvs a sa b sb sx sy ∧ IntsAt h sa xs ∧ sa.n ≤ sa.c ∧ IntsAt h sb ys ∧ sb.n ≤ sb.c ∧ IntsAt h sx us ∧ IntsAt h sy vs := by
  have hl := rd_len Try.underlying26 hr
  rw [cG] at hl
  obtain ⟨_, r0⟩ := rd_field Try.underlying26 hr 0 rfl cP
  obtain ⟨_, r1⟩ := rd_field Try.underlying26 hr 1 rfl cP
  obtain ⟨_, r2⟩ := rd_field Try.underlying26 hr 2 rfl cIs
  obtain ⟨_, r3⟩ := rd_field Try.underlying26 hr 3 rfl cIs
  obtain ⟨a, sa, xs, e0, h0, c0⟩ := placeL r0
  obtain ⟨b, sb, ys, e1, h1, c1⟩ := placeL r1
  obtain ⟨sx, us, e2, h2, -⟩ := intsR r2
  obtain ⟨sy, vs, e3, h3, -⟩ := intsR r3
  obtain ⟨cs⟩ := cs
  simp only [Value.cells] at hl e0 e1 e2 e3
  match cs, hl with
  | [u0, u1, u2, u3, u4, u5], _ =>
    simp at e0 e1 e2 e3
    obtain ⟨rfl, rfl⟩ := e0
    obtain ⟨rfl, rfl⟩ := e1
    subst e2 e3
    exact ⟨a, sa, b, sb, sx, sy, xs, ys, us, vs, rfl, h0, c0, h1, c1, h2, h3⟩

/-! ### how long slices may be -/
section
variable {H : Type} {enc : TypeId × Value → H} {w : World} {fuel : Nat} {cs : List Value} {d : DataW H} {p : List MemPlace}
theorem b8 : Try.prog.bytesOf 3 = 8 := by kernel_rfl
theorem slice_len (h : DataW.trod enc Try.prog w 0 (fun _ => true) true fuel 22 cs = some (d, p)) (hw : ∀ n ∈ d.weights Try.prog 22, n ≤ reachBytes) : ∀ s : Sv, cs = [.slice s.a s.n s.c] → s.n ≤ 17592186044416 := by
  intro s hs
  rcases DataW.trod_slice Try.underlying22 h with ⟨e, _⟩ | ⟨a, len, cap, elems, rest, n, _, e, hx, _, _, _, hl, _⟩
  · rw [hs] at e
    simp at e
    omega
  · rw [hs] at e
    simp at e
    simp only [Prod.mk.injEq] at hx
    have := hw ((elems.length + rest.length) * 8) (by rw [hx.1]; simp [DataW.weights, Try.underlying22, b8])
    have hr := reachBytes_lt
    omega
theorem struct_part {t : TypeId} {fs : Array Field} (ht : Try.prog.underlying t = some (.struct fs)) (h : DataW.trod enc Try.prog w 0 (fun _ => true) true fuel t cs = some (d, p)) (hw : ∀ n ∈ d.weights Try.prog t, n ≤ reachBytes) (i : Nat) {f : Field} (hf : fs[i]? = some f) {c : Nat} (hc : Try.prog.cellsOf f.type = c) :
    ∃ fuel' d' p', DataW.trod enc Try.prog w 0 (fun _ => true) true fuel' f.type ((cs.drop f.offset).take c) = some (d', p') ∧ ∀ n ∈ d'.weights Try.prog f.type, n ≤ reachBytes := by
  obtain ⟨xs, n, _, hx, _, hl, hall⟩ := DataW.trod_struct ht h
  simp only [Prod.mk.injEq] at hx
  have hi : i < xs.length := by rw [hl]; exact (Array.getElem?_eq_some_iff.1 hf).1
  have h1 := hall i f hf
  rw [List.getElem?_eq_getElem hi, hc] at h1
  refine ⟨n, xs[i].1, xs[i].2, h1, fun m hm => hw m ?_⟩
  rw [hx.1]
  have e : (DataW.agg (xs.map (·.1)) : DataW H).weights Try.prog t = DataW.weightsEach Try.prog (fs.toList.map (·.type)) (xs.map (·.1)) := by
    simp [DataW.weights, ht]
  rw [e]
  refine DataW.weights_mem_each (j := i) (t := f.type) (d := xs[i].1) ?_ ?_ m hm
  · rw [List.getElem?_map, Array.getElem?_toList, hf]; rfl
  · rw [List.getElem?_map, List.getElem?_eq_getElem hi]; rfl
theorem case_len {a : Int} {sa : Sv} {b : Int} {sb sx sy : Sv} (h : DataW.trod enc Try.prog w 0 (fun _ => true) true fuel 26 (gvs a sa b sb sx sy).toList = some (d, p)) (hw : ∀ n ∈ d.weights Try.prog 26, n ≤ reachBytes) :
    sa.n ≤ 17592186044416 ∧ sb.n ≤ 17592186044416 ∧ sx.n ≤ 17592186044416 ∧ sy.n ≤ 17592186044416 := by
  obtain ⟨_, d0, p0, h0, w0⟩ := struct_part Try.underlying26 h hw 0 rfl cP
  obtain ⟨_, d1, p1, h1, w1⟩ := struct_part Try.underlying26 h hw 1 rfl cP
  obtain ⟨_, d2, p2, h2, w2⟩ := struct_part Try.underlying26 h hw 2 rfl cIs
  obtain ⟨_, d3, p3, h3, w3⟩ := struct_part Try.underlying26 h hw 3 rfl cIs
  obtain ⟨_, q0, _, g0, v0⟩ := struct_part Try.underlying24 h0 w0 1 rfl cIs
  obtain ⟨_, q1, _, g1, v1⟩ := struct_part Try.underlying24 h1 w1 1 rfl cIs
  exact ⟨slice_len g0 v0 sa rfl, slice_len g1 v1 sb rfl, slice_len h2 w2 sx rfl, slice_len h3 w3 sy rfl⟩
end
end Go.Proofs.Ytifjmbbnpkgmaaa.row

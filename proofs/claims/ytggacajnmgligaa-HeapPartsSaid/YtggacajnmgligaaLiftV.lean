/-
  Arguments that are types: trees read off memory.
-/
import Derived.Test.YtggacajnmgligaaLiftT
import Derived.Test.YtggacajnmgligaaLiftN
namespace Go.Lf
open Go

section
variable {P : Program} {h : Heap} {t e tt ti tsn tb tl ta : TypeId} {fuel : Nat}
theorem rd_string {cs : List Value} (hu : P.underlying t = some .string) (hr : rd P h fuel t cs) : ∃ s, cs = [.string s] := by
  cases fuel with
  | zero => exact hr.elim
  | succ fuel =>
    unfold rd at hr
    rw [hu] at hr
    obtain ⟨s, e, _⟩ := hr
    exact ⟨s, e⟩
theorem rd_fieldS {cs : List Value} {fs : Array Field} (hu : P.underlying t = some (.struct fs)) (hr : rd P h (fuel + 1) t cs) (i : Nat) {f : Field} (hf : fs[i]? = some f) {n : Nat} (hn : P.cellsOf f.type = n) : rd P h fuel f.type ((cs.drop f.offset).take n) := by
  unfold rd at hr
  rw [hu] at hr
  rw [← hn]
  exact hr.2 i f hf
theorem rd_elemsS {s : Sv} (hu : P.underlying t = some (.slice e)) (hr : rd P h (fuel + 1) t [s.v]) : ∀ i, i < s.n → ∃ a, s.a = some a ∧ ∃ cs' : List Value, cs'.length = P.cellsOf e ∧ (∀ j, j < P.cellsOf e → cl h ((a.add (i * P.cellsOf e)).add j) = cs'[j]?) ∧ rd P h fuel e cs' := by
  unfold rd at hr
  rw [hu] at hr
  obtain ⟨sa, sn, sc⟩ := s
  rcases hr with hr | ⟨a, n, c, hr, h1, h2, hall⟩
  · simp [Sv.v] at hr
    obtain ⟨rfl, rfl, rfl⟩ := hr
    intro i hi
    simp at hi
  · simp [Sv.v] at hr
    obtain ⟨rfl, rfl, rfl⟩ := hr
    intro i hi
    refine ⟨a, rfl, ?_⟩
    obtain ⟨cs', q1, q2, q3⟩ := hall i (by simp at hi; omega)
    exact ⟨cs', q1, q2, q3⟩
theorem ty_rd {fs : Array Field} (hT : P.underlying tt = some (.struct fs)) (c6 : P.cellsOf tt = 6)
    (f0 : ∃ f, fs[0]? = some f ∧ f.offset = 0 ∧ f.type = ti) (f1 : ∃ f, fs[1]? = some f ∧ f.offset = 1 ∧ f.type = tsn) (f2 : ∃ f, fs[2]? = some f ∧ f.offset = 2 ∧ f.type = tb)
    (f3 : ∃ f, fs[3]? = some f ∧ f.offset = 3 ∧ f.type = ti) (f4 : ∃ f, fs[4]? = some f ∧ f.offset = 4 ∧ f.type = tl) (f5 : ∃ f, fs[5]? = some f ∧ f.offset = 5 ∧ f.type = ta)
    (hi : P.underlying ti = some (.int .i64)) (hs : P.underlying tsn = some .string) (hb : P.underlying tb = some .bool) (hl : P.underlying tl = some (.slice ti)) (ha : P.underlying ta = some (.slice tt))
    (ci : P.cellsOf ti = 1) (cs1 : P.cellsOf tsn = 1) (cb : P.cellsOf tb = 1) (cl1 : P.cellsOf tl = 1) (ca : P.cellsOf ta = 1) :
    ∀ (fuel : Nat) (cs : List Value), rd P h fuel tt cs → ∃ (v : Tv) (y : Ty), cs = (tvs v).toList ∧ TyAt (fun b => b < h.size) h y v := by
  obtain ⟨f0, g0, o0, t0⟩ := f0
  obtain ⟨f1, g1, o1, t1⟩ := f1
  obtain ⟨f2, g2, o2, t2⟩ := f2
  obtain ⟨f3, g3, o3, t3⟩ := f3
  obtain ⟨f4, g4, o4, t4⟩ := f4
  obtain ⟨f5, g5, o5, t5⟩ := f5
  intro fuel
  induction fuel using Nat.strongRecOn with
  | _ fuel ih =>
    intro cs hr
    cases fuel with
    | zero => exact hr.elim
    | succ f =>
      have hln := rd_len hT hr
      rw [c6] at hln
      match cs, hln with
      | [u0, u1, u2, u3, u4, u5], _ =>
        have r0 := rd_fieldS hT hr 0 g0 (n := 1) (by rw [t0]; exact ci)
        have r1 := rd_fieldS hT hr 1 g1 (n := 1) (by rw [t1]; exact cs1)
        have r2 := rd_fieldS hT hr 2 g2 (n := 1) (by rw [t2]; exact cb)
        have r3 := rd_fieldS hT hr 3 g3 (n := 1) (by rw [t3]; exact ci)
        have r4 := rd_fieldS hT hr 4 g4 (n := 1) (by rw [t4]; exact cl1)
        have r5 := rd_fieldS hT hr 5 g5 (n := 1) (by rw [t5]; exact ca)
        rw [t0, o0] at r0
        rw [t1, o1] at r1
        rw [t2, o2] at r2
        rw [t3, o3] at r3
        rw [t4, o4] at r4
        rw [t5, o5] at r5
        obtain ⟨k, e0, _⟩ := rd_int hi r0
        obtain ⟨nm, e1⟩ := rd_string hs r1
        obtain ⟨mu, e2⟩ := rd_bool hb r2
        obtain ⟨r, e3, _⟩ := rd_int hi r3
        obtain ⟨rs, e4⟩ := rd_slice hl r4
        obtain ⟨az, e5⟩ := rd_slice ha r5
        simp at e0 e1 e2 e3 e4 e5
        subst e0 e1 e2 e3 e4 e5
        obtain ⟨xs, hx⟩ := rd_ints hl hi ci r4
        cases f with
        | zero => exact r5.elim
        | succ g =>
          have hel := rd_elemsS ha r5
          have key : ∀ i, i < az.n → ∃ y : Ty, ∃ p v, az.a = some p ∧ p.block < h.size ∧ Tv6 h (p.add (i * 6)) v ∧ TyAt (fun b => b < h.size) h y v := by
            intro i hi'
            obtain ⟨a, ea, cs', q1, q2, q3⟩ := hel i hi'
            obtain ⟨v, y, rfl, hy⟩ := ih g (by omega) cs' q3
            rw [c6] at q2
            have T6 : Tv6 h (a.add (i * 6)) v := by
              have c0 := q2 0 (by omega)
              rw [add_zero] at c0
              exact ⟨c0, q2 1 (by omega), q2 2 (by omega), q2 3 (by omega), q2 4 (by omega), q2 5 (by omega)⟩
            exact ⟨y, a, v, ea, by have := T6.lt; rwa [add_block] at this, T6, hy⟩
          have : ∃ ys : List Ty, ys.length = az.n ∧ ∀ j (hj : j < ys.length), ∃ p u, az.a = some p ∧ p.block < h.size ∧ Tv6 h (p.add (j * 6)) u ∧ TyAt (fun b => b < h.size) h ys[j] u := by
            refine ⟨(List.range az.n).attach.map fun i => Classical.choose (key i.1 (by simpa using i.2)), by simp, fun j hj => ?_⟩
            simp only [List.getElem_map, List.getElem_attach, List.getElem_range]
            exact Classical.choose_spec (key j (by simpa using hj))
          obtain ⟨ys, hy1, hy2⟩ := this
          exact ⟨⟨k, nm, mu, r, rs, az⟩, .mk k nm mu r xs ys, rfl, tyAt_iff.2 ⟨rfl, rfl, rfl, rfl, ⟨IntsQ.of hx fun b _ hb => hb, rd_cap hl r4⟩, hy1.symm, hy2⟩⟩
end
end Go.Lf

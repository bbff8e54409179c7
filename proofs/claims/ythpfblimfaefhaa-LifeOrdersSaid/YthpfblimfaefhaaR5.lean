/-
  LifeOrders: the row.
-/
import Derived.Test.YthpfblimfaefhaaRows
import Derived.Test.YthpfblimfaefhaaS5
import Derived.Test.YthpfblimfaefhaaLiftR
namespace Go.Proofs.Ythpfblimfaefhaa.lifeOrders
open Go Go.Lf Go.ChangeShapes Go.WideShapes Go.ChangeAt Go.RowKit

theorem own : ownKnob Try.prog.godebug = none := by kernel_rfl
theorem laidOut : laidOutB Try.prog = true := by kernel_rfl
theorem c33 : Try.prog.cellsOf 33 = 2 := by kernel_rfl
theorem c30 : Try.prog.cellsOf 30 = 3 := by kernel_rfl
theorem c3 : Try.prog.cellsOf 3 = 1 := by kernel_rfl

theorem okWide_array {P : Program} {w : World} {r : Reach} {base n : Nat} {t e : TypeId} {v : Value} (ht : P.underlying t = some (.array n e)) (h : Value.okWide P w r base t v) : ∃ cs, v = .agg cs ∧ cs.size = P.cellsOf t := by
  unfold Value.okWide at h
  rw [ht] at h
  obtain ⟨cs, h1, h2, _⟩ := h
  exact ⟨cs, h1, h2⟩

/-- a slice of pairs reads as pairs -/
theorem pairs_rd {h : Heap} {fuel : Nat} {a : Option Addr} {n c : Nat} (hr : rd Try.prog h fuel 22 [.slice a n c]) : ∃ ps, PairsAt h ⟨a, n, c⟩ ps := by
  cases fuel with
  | zero => exact hr.elim
  | succ fuel =>
    unfold rd at hr
    rw [Try.underlying22] at hr
    rcases hr with hr | ⟨a', n', c', e, hl, _, hall⟩
    · simp at hr
      obtain ⟨rfl, rfl, rfl⟩ := hr
      exact ⟨[], rfl, fun i hi => by simp at hi⟩
    · simp at e
      obtain ⟨rfl, rfl, rfl⟩ := e
      have key : ∀ i, i < n → ∃ x : Int × Int, cl h (a'.add (i * 2)) = some (.int .i64 x.1) ∧ cl h ((a'.add (i * 2)).add 1) = some (.int .i64 x.2) := by
        intro i hi
        obtain ⟨cs, hlen, hc, hr⟩ := hall i (by omega)
        rw [c33] at hlen hc
        cases fuel with
        | zero => exact hr.elim
        | succ fuel =>
          unfold rd at hr
          rw [Try.underlying33] at hr
          obtain ⟨_, hall'⟩ := hr
          have r0 := hall' 0 (by omega)
          have r1 := hall' 1 (by omega)
          cases fuel with
          | zero => exact r0.elim
          | succ fuel =>
            unfold rd at r0 r1
            rw [Try.underlying3] at r0 r1
            rw [c3] at r0 r1
            obtain ⟨x, e0, _⟩ := r0
            obtain ⟨y, e1, _⟩ := r1
            match cs, hlen with
            | [u, v], _ =>
              simp at e0 e1
              subst e0; subst e1
              have h0 := hc 0 (by omega)
              have h1 := hc 1 (by omega)
              exact ⟨(x, y), by simpa [Addr.add] using h0, by simpa using h1⟩
      obtain ⟨f, hf⟩ := Go.Deep.choose_lt (α := Int × Int) key
      refine ⟨(List.range n).map f, by simp, fun i hi => ⟨a', rfl, ?_⟩⟩
      have hi' : i < n := by simpa using hi
      have := hf i hi'
      simpa [hi'] using this

set_option maxRecDepth 100000 in
theorem lifted (os : Os) (started : os.Started) (H : Type) (enc : TypeId × Value → H) :
    ReturnsInHanded {} Try.checked os 4 .any (Rows.lifeOrdersSpec.pre6 enc Try.prog Try.f4 Rows.lifeOrdersRow.domain false) (Rows.lifeOrdersSpec.post enc Try.prog Try.f4 false true false false) := by
  refine returnsInHanded_of_change (C := Try.checked) own started (by kernel_rfl) Try.func4
    (ChangeSpec.witness6 (enc := enc) (C := Try.checked) false ⟨#[], #[.int .i64 0, .slice none 0 0, .agg #[.int .i64 0, .int .i64 0, .int .i64 0]], []⟩ 8 (by kernel_rfl) (by kernel_rfl) (by kernel_rfl) (by kernel_rfl)) ?_
  intro W base args ds gs before hval0 hW hcnd _
  have hval : ∀ (j : Nat) t v, Try.f4.params[j]? = some t → args[j]? = some v → Value.okWide Try.prog W .any base t v := hval0
  have hW' := hW
  obtain ⟨p, q, hA0, hV, rfl, hfz, hnd⟩ := hW
  have hA : DataW.TrodAll enc Try.prog W 0 (fun _ => true) true Try.f4.params.toList args.toList ds p := hA0
  rw [Try.params4] at hA hval
  obtain ⟨v0, vs0, d0, ds0, p0, q0, hargs, rfl, rfl, h0, r0⟩ := trodAll_cons hA
  obtain ⟨v1, vs1, d1, ds1, p1, q1, rfl, rfl, rfl, h1, r1⟩ := trodAll_cons r0
  obtain ⟨v2, vs2, d2, ds2, p2, q2, rfl, rfl, rfl, h2, r2⟩ := trodAll_cons r1
  obtain ⟨rfl, rfl, rfl⟩ := trodAll_nil r2
  obtain rfl : args = #[v0, v1, v2] := by cases args; simp_all
  obtain ⟨rfl, rfl⟩ := trodVars_none hV
  have hlt : ∀ x ∈ p0 ++ (p1 ++ (p2 ++ [])) ++ [], x.block < W.heap.size := fun x hx => hW'.lt x hx
  obtain ⟨n, hn⟩ := okWide_int Try.underlying3 (hval 0 3 v0 rfl rfl)
  obtain ⟨a1, n1, c1, hs⟩ := okWide_slice Try.underlying22 (hval 1 22 v1 rfl rfl)
  obtain ⟨cs, hcs, hsz⟩ := okWide_array Try.underlying30 (hval 2 30 v2 rfl rfl)
  obtain ⟨x0, x1, x2, hx⟩ : ∃ x0 x1 x2, cs = #[.int .i64 x0, .int .i64 x1, .int .i64 x2] := by
    obtain ⟨fuel, h2⟩ := h2
    have hr := trod_rd _ _ _ _ h2
    rw [hcs] at hr
    cases fuel with
    | zero => exact hr.elim
    | succ fuel =>
      unfold rd at hr
      rw [Try.underlying30] at hr
      obtain ⟨hl, hall⟩ := hr
      have k0 := hall 0 (by omega)
      have k1 := hall 1 (by omega)
      have k2 := hall 2 (by omega)
      cases fuel with
      | zero => exact k0.elim
      | succ fuel =>
        unfold rd at k0 k1 k2
        rw [Try.underlying3] at k0 k1 k2
        rw [c3] at k0 k1 k2
        rw [c30] at hl
        obtain ⟨l⟩ := cs
        simp only [Value.cells] at hl k0 k1 k2
        match l, hl with
        | [u, v, w], _ =>
          simp at k0 k1 k2
          obtain ⟨x, rfl, _⟩ := k0
          obtain ⟨y, rfl, _⟩ := k1
          obtain ⟨z, rfl, _⟩ := k2
          exact ⟨x, y, z, rfl⟩
  obtain ⟨ps, hps⟩ : ∃ ps, PairsAt W.heap ⟨a1, n1, c1⟩ ps := by
    obtain ⟨fuel, h1⟩ := h1
    have hr := trod_rd _ _ _ _ h1
    rw [hs] at hr
    exact pairs_rd hr
  subst hx; subst hcs; subst hs; subst hn
  have hwalk := orders_walk n ⟨a1, n1, c1⟩ x0 x1 x2 ps W.heap hps W rfl
  refine hwalk.mono fun e W' ⟨v, he, ⟨hv, hg⟩, hr⟩ => ?_
  subst he; subst hv
  have hb : Below W.heap.size W W' := ⟨hr.os, hr.tape, hr.output, hg.size, fun k hk => hg.same k hk (fun h => h)⟩
  refine ⟨_, rfl, ⟨[d0, d1, d2], [], _, [], p0 ++ (p1 ++ (p2 ++ [])), [], hW', ?_, ?_, ?_, hb.frame _, fun h => by cases h⟩⟩
  · exact trodAll_cons_mk (shut_bool Try.underlying4 _) trodAll_mk0
  · exact trodAll_cons_mk (Below.trod laidOut (by kernel_rfl) (of_decide_eq_true (by kernel_rfl)) h0 hb (fun x hx => hlt x (by simp [hx])))
      (trodAll_cons_mk (Below.trod laidOut (by kernel_rfl) (of_decide_eq_true (by kernel_rfl)) h1 hb (fun x hx => hlt x (by simp [hx])))
      (trodAll_cons_mk (Below.trod laidOut (by kernel_rfl) (of_decide_eq_true (by kernel_rfl)) h2 hb (fun x hx => hlt x (by simp [hx]))) trodAll_mk0))
  · exact rfl

theorem over : Rows.lifeOrdersRow.holds Try.pinned (OpenSpec.ofChange Rows.lifeOrdersSpec) :=
  OpenClaim.holds_of_wide 4 Try.f4 rfl rfl rfl rfl rfl rfl rfl ⟨rfl, rfl, rfl, rfl, rfl⟩ rfl rfl rfl rfl rfl (by kernel_rfl) Try.func4 (by kernel_rfl)
    (of_decide_eq_true (by kernel_rfl)) (by unfold Func.isWrapper; first | (rw [if_pos (by decide +kernel)]; kernel_rfl) | (rw [if_neg (by decide +kernel)]; exact ⟨rfl, rfl⟩))
    (fun os started H enc _ => lifted os started H enc)

theorem proved : Rows.LifeOrdersSaid := over
#print axioms proved
end Go.Proofs.Ythpfblimfaefhaa.lifeOrders

/-
  LifeMore: the row.
-/
import Derived.Test.YthpfblimfaefhaaT0
import Derived.Test.YthpfblimfaefhaaS13
namespace Go.Proofs.Ythpfblimfaefhaa.lifeMore
open Go Go.Lf Go.ChangeShapes Go.WideShapes Go.ChangeAt Go.RowKit Go.Proofs.Ythpfblimfaefhaa.row

set_option maxRecDepth 100000 in
theorem lifted (os : Os) (started : os.Started) (H : Type) (enc : TypeId × Value → H) :
    ReturnsInHanded {} Try.checked os 5 .any (Rows.lifeMoreSpec.pre6 enc Try.prog Try.f5 Rows.lifeMoreRow.domain false) (Rows.lifeMoreSpec.post enc Try.prog Try.f5 false true false false) := by
  refine returnsInHanded_of_change (C := Try.checked) own started (by kernel_rfl) Try.func5
    (ChangeSpec.witness6 (enc := enc) (C := Try.checked) false ⟨#[], #[.int .i64 0, .slice none 0 0, .agg #[.int .i64 0, .int .i64 0]], []⟩ 8 (by kernel_rfl) (by kernel_rfl) (by kernel_rfl) (by kernel_rfl)) ?_
  intro W base args ds gs before hval0 hW hcnd _
  have hval : ∀ (j : Nat) t v, Try.f5.params[j]? = some t → args[j]? = some v → Value.okWide Try.prog W .any base t v := hval0
  have hW' := hW
  obtain ⟨p, q, hA0, hV, rfl, hfz, hnd⟩ := hW
  have hA : DataW.TrodAll enc Try.prog W 0 (fun _ => true) true Try.f5.params.toList args.toList ds p := hA0
  rw [Try.params5] at hA hval
  obtain ⟨v0, vs0, d0, ds0, p0, q0, hargs, rfl, rfl, h0, r0⟩ := trodAll_cons hA
  obtain ⟨v1, vs1, d1, ds1, p1, q1, rfl, rfl, rfl, h1, r1⟩ := trodAll_cons r0
  obtain ⟨v2, vs2, d2, ds2, p2, q2, rfl, rfl, rfl, h2, r2⟩ := trodAll_cons r1
  obtain ⟨rfl, rfl, rfl⟩ := trodAll_nil r2
  obtain rfl : args = #[v0, v1, v2] := by cases args; simp_all
  obtain ⟨rfl, rfl⟩ := trodVars_none hV
  have hlt : ∀ x ∈ p0 ++ (p1 ++ (p2 ++ [])) ++ [], x.block < W.heap.size := fun x hx => hW'.lt x hx
  obtain ⟨x0, hx0⟩ := okWide_int Try.underlying3 (hval 0 3 v0 rfl rfl)
  obtain ⟨a1, n1, c1, hx1⟩ := okWide_slice Try.underlying22 (hval 1 22 v1 rfl rfl)
  obtain ⟨ps1, hps1⟩ : ∃ ps, PairsAt W.heap ⟨a1, n1, c1⟩ ps := by
    obtain ⟨fuel, hf⟩ := h1
    have hr := trod_rd _ _ _ _ hf
    rw [hx1] at hr
    exact pairs_rd hr
  obtain ⟨cs2, hcs2, hsz2⟩ := okWide_array Try.underlying33 (hval 2 33 v2 rfl rfl)
  obtain ⟨y2_0, y2_1, hx2⟩ : ∃ y2_0 y2_1, cs2 = #[.int .i64 y2_0, .int .i64 y2_1] := by
    obtain ⟨fuel, hf⟩ := h2
    have hr := trod_rd _ _ _ _ hf
    rw [hcs2] at hr
    obtain ⟨hl, hall⟩ := arr_rd Try.underlying33 (by kernel_rfl) hr
    obtain ⟨l⟩ := cs2
    simp only [Value.cells] at hl hall
    match l, hl with
    | [u0, u1], _ =>
      obtain ⟨z0, e0⟩ := hall 0 (by omega)
      simp at e0
      subst e0
      obtain ⟨z1, e1⟩ := hall 1 (by omega)
      simp at e1
      subst e1
      exact ⟨z0, z1, rfl⟩
  subst hx0; subst hx1; subst hx2; subst hcs2
  have hwalk := more_walk x0 ⟨a1, n1, c1⟩ ps1 y2_0 y2_1 W.heap hps1 W rfl
  refine hwalk.mono fun e W' ⟨v, he, ⟨hv, hg⟩, hr⟩ => ?_
  subst he; subst hv
  have hb : Below W.heap.size W W' := ⟨hr.os, hr.tape, hr.output, hg.size, fun k hk => hg.same k hk (fun h => h)⟩
  refine ⟨_, rfl, ⟨[d0, d1, d2], [], _, [], p0 ++ (p1 ++ (p2 ++ [])), [], hW', ?_, ?_, ?_, hb.frame _, fun h => by cases h⟩⟩
  · exact trodAll_cons_mk (shut_bool Try.underlying4 _) trodAll_mk0
  · exact (trodAll_cons_mk (Below.trod laidOut (by kernel_rfl) (of_decide_eq_true (by kernel_rfl)) h0 hb (fun x hx => hlt x (by simp [hx]))) (trodAll_cons_mk (Below.trod laidOut (by kernel_rfl) (of_decide_eq_true (by kernel_rfl)) h1 hb (fun x hx => hlt x (by simp [hx]))) (trodAll_cons_mk (Below.trod laidOut (by kernel_rfl) (of_decide_eq_true (by kernel_rfl)) h2 hb (fun x hx => hlt x (by simp [hx]))) trodAll_mk0)))
  · exact rfl

theorem over : Rows.lifeMoreRow.holds Try.pinned (OpenSpec.ofChange Rows.lifeMoreSpec) :=
  OpenClaim.holds_of_wide 5 Try.f5 rfl rfl rfl rfl rfl rfl rfl ⟨rfl, rfl, rfl, rfl, rfl⟩ rfl rfl rfl rfl rfl (by kernel_rfl) Try.func5 (by kernel_rfl)
    (of_decide_eq_true (by kernel_rfl)) (by unfold Func.isWrapper; first | (rw [if_pos (by decide +kernel)]; kernel_rfl) | (rw [if_neg (by decide +kernel)]; exact ⟨rfl, rfl⟩))
    (fun os started H enc _ => lifted os started H enc)

theorem proved : Rows.LifeMoreSaid := over
#print axioms proved
end Go.Proofs.Ythpfblimfaefhaa.lifeMore

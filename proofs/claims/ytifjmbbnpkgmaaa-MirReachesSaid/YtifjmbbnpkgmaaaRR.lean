/-
  MirReaches: the row.
-/
import Derived.Test.YtifjmbbnpkgmaaaT0
import Derived.Test.YtifjmbbnpkgmaaaM11
namespace Go.Proofs.Ytifjmbbnpkgmaaa.mirReaches
open Go Go.Lf Go.ChangeShapes Go.WideShapes Go.ChangeAt Go.RowKit Go.Proofs.Ytifjmbbnpkgmaaa.row

set_option maxRecDepth 100000 in
theorem lifted (os : Os) (started : os.Started) (H : Type) (enc : TypeId × Value → H) :
    ReturnsInHanded {} Try.checked os 4 .any (Rows.mirReachesSpec.pre6 enc Try.prog Try.f4 Rows.mirReachesRow.domain false) (Rows.mirReachesSpec.post enc Try.prog Try.f4 false true false false) := by
  refine returnsInHanded_of_change (C := Try.checked) own started (by kernel_rfl) Try.func4
    (ChangeSpec.witness6 (enc := enc) (C := Try.checked) false ⟨#[], #[Value.agg #[Value.string (⟨#[]⟩ : ByteArray), Value.int .i64 0, Value.slice (⟨none, 0, 0⟩ : Sv).a (⟨none, 0, 0⟩ : Sv).n (⟨none, 0, 0⟩ : Sv).c, Value.slice (⟨none, 0, 0⟩ : Sv).a (⟨none, 0, 0⟩ : Sv).n (⟨none, 0, 0⟩ : Sv).c]], []⟩ 8 (by kernel_rfl) (by kernel_rfl) (by kernel_rfl) (by kernel_rfl)) ?_
  intro W base args ds gs before hval0 hW hcnd _
  have hval : ∀ (j : Nat) t v, Try.f4.params[j]? = some t → args[j]? = some v → Value.okWide Try.prog W .any base t v := hval0
  have hW' := hW
  obtain ⟨p, q, hA0, hV, rfl, hfz, hnd⟩ := hW
  have hA : DataW.TrodAll enc Try.prog W 0 (fun _ => true) true Try.f4.params.toList args.toList ds p := hA0
  rw [Try.params4] at hA hval
  obtain ⟨v0, vs0, d0, ds0, p0, q0, hargs, rfl, rfl, h0, r0⟩ := trodAll_cons hA
  obtain ⟨rfl, rfl, rfl⟩ := trodAll_nil r0
  obtain rfl : args = #[v0] := by cases args; simp_all
  obtain ⟨rfl, rfl⟩ := trodVars_none hV
  have hlt : ∀ x ∈ p0 ++ [] ++ [], x.block < W.heap.size := fun x hx => hW'.lt x hx
  obtain ⟨cs0, hcs0, hsz0⟩ := okWide_str Try.underlying33 (hval 0 33 v0 rfl rfl)
  have hq0 := h0
  obtain ⟨fuel0, hf0⟩ := hq0
  have hr0 := trod_rd _ _ _ _ hf0
  rw [hcs0] at hr0
  obtain ⟨nm_0, pa_0, lo_0, co_0, l_0, hx0, hp0_0, hp0_1, hp0_2⟩ := bodyR hr0
  clear hr0 hf0
  subst hx0; subst hcs0
  have hwalk := reaches_walk nm_0 pa_0 lo_0 co_0 l_0 W.heap hp0_0 hp0_1 hp0_2 W rfl
  refine hwalk.mono fun e W' ⟨v, he, ⟨hv, hg⟩, hr⟩ => ?_
  subst he; subst hv
  have hb : Below W.heap.size W W' := ⟨hr.os, hr.tape, hr.output, hg.size, fun k hk => hg.same k hk (fun h => h)⟩
  refine ⟨_, rfl, ⟨[d0], [], _, [], p0 ++ [], [], hW', ?_, ?_, ?_, hb.frame _, fun h => by cases h⟩⟩
  · exact trodAll_cons_mk (shut_bool Try.underlying4 _) trodAll_mk0
  · exact (trodAll_cons_mk (Below.trod laidOut (by kernel_rfl) (of_decide_eq_true (by kernel_rfl)) h0 hb (fun x hx => hlt x (by simp [hx]))) trodAll_mk0)
  · exact rfl

theorem over : Rows.mirReachesRow.holds Try.pinned (OpenSpec.ofChange Rows.mirReachesSpec) :=
  OpenClaim.holds_of_wide 4 Try.f4 rfl rfl rfl rfl rfl rfl rfl ⟨rfl, rfl, rfl, rfl, rfl⟩ rfl rfl rfl rfl rfl (by kernel_rfl) Try.func4 (by kernel_rfl)
    (of_decide_eq_true (by kernel_rfl)) (by unfold Func.isWrapper; first | (rw [if_pos (by decide +kernel)]; kernel_rfl) | (rw [if_neg (by decide +kernel)]; exact ⟨rfl, rfl⟩))
    (fun os started H enc _ => lifted os started H enc)

theorem proved : Rows.MirReachesSaid := over
#print axioms proved
end Go.Proofs.Ytifjmbbnpkgmaaa.mirReaches

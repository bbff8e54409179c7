/-
  MirMeets: the row.
-/
import Derived.Test.YtifjmbbnpkgmaaaT0
import Derived.Test.YtifjmbbnpkgmaaaM11
namespace Go.Proofs.Ytifjmbbnpkgmaaa.mirMeets
open Go Go.Lf Go.ChangeShapes Go.WideShapes Go.ChangeAt Go.RowKit Go.Proofs.Ytifjmbbnpkgmaaa.row

set_option maxRecDepth 100000 in
theorem lifted (os : Os) (started : os.Started) (H : Type) (enc : TypeId × Value → H) :
    ReturnsInHanded {} Try.checked os 3 .any (Rows.mirMeetsSpec.pre6 enc Try.prog Try.f3 Rows.mirMeetsRow.domain false) (Rows.mirMeetsSpec.post enc Try.prog Try.f3 false true false false) := by
  refine returnsInHanded_of_change_sized (C := Try.checked) own started (by kernel_rfl) Try.func3
    (ChangeSpec.witness6 (enc := enc) (C := Try.checked) false ⟨#[], #[Value.agg #[Value.int .i64 0, Value.slice (⟨none, 0, 0⟩ : Sv).a (⟨none, 0, 0⟩ : Sv).n (⟨none, 0, 0⟩ : Sv).c, Value.int .i64 0, Value.slice (⟨none, 0, 0⟩ : Sv).a (⟨none, 0, 0⟩ : Sv).n (⟨none, 0, 0⟩ : Sv).c, Value.slice (⟨none, 0, 0⟩ : Sv).a (⟨none, 0, 0⟩ : Sv).n (⟨none, 0, 0⟩ : Sv).c, Value.slice (⟨none, 0, 0⟩ : Sv).a (⟨none, 0, 0⟩ : Sv).n (⟨none, 0, 0⟩ : Sv).c]], []⟩ 8 (by kernel_rfl) (by kernel_rfl) (by kernel_rfl) (by kernel_rfl)) ?_
  intro W base args ds gs before hval0 hW hcnd hsz _
  have hval : ∀ (j : Nat) t v, Try.f3.params[j]? = some t → args[j]? = some v → Value.okWide Try.prog W .any base t v := hval0
  have hW' := hW
  obtain ⟨p, q, hA0, hV, rfl, hfz, hnd⟩ := hW
  have hA : DataW.TrodAll enc Try.prog W 0 (fun _ => true) true Try.f3.params.toList args.toList ds p := hA0
  rw [Try.params3] at hA hval
  obtain ⟨v0, vs0, d0, ds0, p0, q0, hargs, rfl, rfl, h0, r0⟩ := trodAll_cons hA
  obtain ⟨rfl, rfl, rfl⟩ := trodAll_nil r0
  obtain rfl : args = #[v0] := by cases args; simp_all
  obtain ⟨rfl, rfl⟩ := trodVars_none hV
  have hlt : ∀ x ∈ p0 ++ [] ++ [], x.block < W.heap.size := fun x hx => hW'.lt x hx
  obtain ⟨cs0, hcs0, hsz0⟩ := okWide_str Try.underlying26 (hval 0 26 v0 rfl rfl)
  have hq0 := h0
  obtain ⟨fuel0, hf0⟩ := hq0
  have hr0 := trod_rd _ _ _ _ hf0
  rw [hcs0] at hr0
  obtain ⟨a_0, sa_0, b_0, sb_0, sx_0, sy_0, xs_0, ys_0, us_0, vs_0, hx0, hp0_0, hp0_1, hp0_2, hp0_3, hp0_4, hp0_5⟩ := caseR hr0
  clear hr0
  subst hx0; subst hcs0
  have hws : ∀ n ∈ d0.weights Try.prog 26, n ≤ reachBytes := fun n hn => by
    have := List.all_eq_true.1 hsz n (DataW.weights_mem_each (j := 0) (t := 26) (d := d0) rfl rfl n hn)
    simpa using this
  have hlens := case_len hf0 hws
  rw [hp0_0.len, hp0_2.len, hp0_4.len, hp0_5.len] at hlens
  have hwalk := meets_walk a_0 sa_0 b_0 sb_0 sx_0 sy_0 xs_0 ys_0 us_0 vs_0 W.heap hp0_0 hp0_1 hp0_2 hp0_3 hp0_4 hp0_5 hlens W rfl
  refine hwalk.mono fun e W' ⟨v, he, ⟨hv, hg⟩, hr⟩ => ?_
  subst he; subst hv
  have hb : Below W.heap.size W W' := ⟨hr.os, hr.tape, hr.output, hg.size, fun k hk => hg.same k hk (fun h => h)⟩
  refine ⟨_, rfl, ⟨[d0], [], _, [], p0 ++ [], [], hW', ?_, ?_, ?_, hb.frame _, fun h => by cases h⟩⟩
  · exact trodAll_cons_mk (shut_bool Try.underlying4 _) trodAll_mk0
  · exact (trodAll_cons_mk (Below.trod laidOut (by kernel_rfl) (of_decide_eq_true (by kernel_rfl)) h0 hb (fun x hx => hlt x (by simp [hx]))) trodAll_mk0)
  · exact rfl

theorem over : Rows.mirMeetsRow.holds Try.pinned (OpenSpec.ofChange Rows.mirMeetsSpec) :=
  OpenClaim.holds_of_wide 3 Try.f3 rfl rfl rfl rfl rfl rfl rfl ⟨rfl, rfl, rfl, rfl, rfl⟩ rfl rfl rfl rfl rfl (by kernel_rfl) Try.func3 (by kernel_rfl)
    (of_decide_eq_true (by kernel_rfl)) (by unfold Func.isWrapper; first | (rw [if_pos (by decide +kernel)]; kernel_rfl) | (rw [if_neg (by decide +kernel)]; exact ⟨rfl, rfl⟩))
    (fun os started H enc _ => lifted os started H enc)

theorem proved : Rows.MirMeetsSaid := over
#print axioms proved
end Go.Proofs.Ytifjmbbnpkgmaaa.mirMeets

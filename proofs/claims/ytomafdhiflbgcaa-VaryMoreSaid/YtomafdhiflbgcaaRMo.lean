/-
  VaryMore: the row.
-/
import Derived.Test.YtomafdhiflbgcaaT1
import Derived.Test.YtomafdhiflbgcaaW5
namespace Go.Proofs.Ytomafdhiflbgcaa.varyMore
open Go Go.Lf Go.ChangeShapes Go.WideShapes Go.ChangeAt Go.RowKit Go.Proofs.Ytomafdhiflbgcaa.row

set_option maxRecDepth 100000 in
theorem lifted (os : Os) (started : os.Started) (H : Type) (enc : TypeId × Value → H) :
    ReturnsInHanded {} Try.checked os 5 .any (Rows.varyMoreSpec.pre6 enc Try.prog Try.f5 Rows.varyMoreRow.domain false) (Rows.varyMoreSpec.post enc Try.prog Try.f5 false true false false) := by
  refine returnsInHanded_of_change (C := Try.checked) own started (by kernel_rfl) Try.func5
    (ChangeSpec.witness6 (enc := enc) (C := Try.checked) false ⟨#[], #[.slice none 0 0, Value.agg #[Value.int .i64 0, Value.string (⟨#[]⟩ : ByteArray), Value.bool false, Value.int .i64 0, Value.slice (⟨none, 0, 0⟩ : Sv).a (⟨none, 0, 0⟩ : Sv).n (⟨none, 0, 0⟩ : Sv).c, Value.slice (⟨none, 0, 0⟩ : Sv).a (⟨none, 0, 0⟩ : Sv).n (⟨none, 0, 0⟩ : Sv).c], .int .i64 0], []⟩ 8 (by kernel_rfl) (by kernel_rfl) (by kernel_rfl) (by kernel_rfl)) ?_
  intro W base args ds gs before hval0 hW hcnd _
  have hval : ∀ (j : Nat) t v, Try.f5.params[j]? = some t → args[j]? = some v → Value.okWide Try.prog W .any base t v := hval0
  have hW' := hW
  obtain ⟨p, q, hA0, hV, rfl, hfz, hnd⟩ := hW
  have hA : DataW.TrodAll enc Try.prog W 0 (fun _ => true) true Try.f5.params.toList args.toList ds p := hA0
  rw [Try.params5] at hA hval
  obtain ⟨v0, vs0, d0, ds0, p0, q0, hargs, rfl, rfl, h0, r0⟩ := trodAll_cons hA
  obtain ⟨v1, vs1, d1, ds1, p1, q1, rfl, rfl, rfl, h1, r1⟩ := trodAll_cons r0
  obtain ⟨v2, vs2, d2, ds2, p2, q2, rfl, rfl, rfl, h2, r2⟩ := trodAll_cons r1
  obtain ⟨rfl, rfl, rfl⟩ := trodAll_nil r2
  obtain rfl : args = #[v0, v1, v2] := by cases args; simp_all
  obtain ⟨rfl, rfl⟩ := trodVars_none hV
  have hlt : ∀ x ∈ p0 ++ (p1 ++ (p2 ++ [])) ++ [], x.block < W.heap.size := fun x hx => hW'.lt x hx
  obtain ⟨a0, n0, c0, hx0⟩ := okWide_slice Try.underlying31 (hval 0 31 v0 rfl rfl)
  have hq0 := h0
  obtain ⟨fuel0, hf0⟩ := hq0
  have hr0 := trod_rd _ _ _ _ hf0
  rw [hx0] at hr0
  obtain ⟨⟨sa0, sn0, sc0⟩, ds_0, hs0, hp0_0⟩ := defsR hr0
  replace hs0 : [Value.slice a0 n0 c0] = [Value.slice sa0 sn0 sc0] := hs0
  simp at hs0
  obtain ⟨rfl, rfl, rfl⟩ := hs0
  clear hr0 hf0
  obtain ⟨cs1, hcs1, hsz1⟩ := okWide_str Try.underlying34 (hval 1 34 v1 rfl rfl)
  have hq1 := h1
  obtain ⟨fuel1, hf1⟩ := hq1
  have hr1 := trod_rd _ _ _ _ hf1
  rw [hcs1] at hr1
  obtain ⟨v_1, t_1, hx1, hp1_0⟩ := tyR hr1
  clear hr1 hf1
  obtain ⟨x2, hx2⟩ := okWide_int Try.underlying3 (hval 2 3 v2 rfl rfl)
  subst hx0; subst hx1; subst hcs1; subst hx2
  have hwalk := more_walk ⟨a0, n0, c0⟩ ds_0 v_1 t_1 x2 W.heap hp0_0 hp1_0 W rfl
  refine hwalk.mono fun e W' ⟨v, he, ⟨hv, hg⟩, hr⟩ => ?_
  subst he; subst hv
  have hb : Below W.heap.size W W' := ⟨hr.os, hr.tape, hr.output, hg.size, fun k hk => hg.same k hk (fun h => h)⟩
  refine ⟨_, rfl, ⟨[d0, d1, d2], [], _, [], p0 ++ (p1 ++ (p2 ++ [])), [], hW', ?_, ?_, ?_, hb.frame _, fun h => by cases h⟩⟩
  · exact trodAll_cons_mk (shut_bool Try.underlying4 _) trodAll_mk0
  · exact (trodAll_cons_mk (Below.trod laidOut (by kernel_rfl) (of_decide_eq_true (by kernel_rfl)) h0 hb (fun x hx => hlt x (by simp [hx]))) (trodAll_cons_mk (Below.trod laidOut (by kernel_rfl) (of_decide_eq_true (by kernel_rfl)) h1 hb (fun x hx => hlt x (by simp [hx]))) (trodAll_cons_mk (Below.trod laidOut (by kernel_rfl) (of_decide_eq_true (by kernel_rfl)) h2 hb (fun x hx => hlt x (by simp [hx]))) trodAll_mk0)))
  · exact rfl

theorem over : Rows.varyMoreRow.holds Try.pinned (OpenSpec.ofChange Rows.varyMoreSpec) :=
  OpenClaim.holds_of_wide 5 Try.f5 rfl rfl rfl rfl rfl rfl rfl ⟨rfl, rfl, rfl, rfl, rfl⟩ rfl rfl rfl rfl rfl (by kernel_rfl) Try.func5 (by kernel_rfl)
    (of_decide_eq_true (by kernel_rfl)) (by unfold Func.isWrapper; first | (rw [if_pos (by decide +kernel)]; kernel_rfl) | (rw [if_neg (by decide +kernel)]; exact ⟨rfl, rfl⟩))
    (fun os started H enc _ => lifted os started H enc)

theorem proved : Rows.VaryMoreSaid := over
#print axioms proved
end Go.Proofs.Ytomafdhiflbgcaa.varyMore

/-
  An allocation freed.
-/
import Derived.Test.YtggacajnmgligaaH11
namespace Go.Proofs.Ytggacajnmgligaa
open Go Go.Lf
set_option linter.unusedVariables false

theorem liveN_set {S : Hs} {j : Nat} (h : j < S.l.length) (hl : S.l[j].live = true) (x y : Int) : liveN { S with live := x, l := S.l.set j ⟨false, zVl, []⟩ } + 1 = liveN S := by
  unfold liveN
  have hpos : 0 < S.l.countP (fun a => a.live) := List.countP_pos_iff.2 ⟨_, List.getElem_mem h, hl⟩
  dsimp only
  rw [List.countP_set h]
  simp only [hl, if_true, Bool.false_eq_true, if_false]
  omega
section
variable {lab : Nat → Lb} {h0 h : Heap} {hp : Nat} {S : Hs}
/-- what an allocation had is nobody's now -/
def deadLab (lab : Nat → Lb) (j : Nat) : Nat → Lb := fun b => match lab b with
  | .pt i σ => if i = j then .q else .pt i σ
  | l => l
theorem dead_pt {j b : Nat} {σ : List Nat} (h : lab b = .pt j σ) : deadLab lab j b = .q := by
  unfold deadLab
  rw [h]
  exact if_pos rfl
theorem dead_not {j b : Nat} (h : ∀ σ, lab b ≠ .pt j σ) : deadLab lab j b = lab b := by
  unfold deadLab
  split
  · rename_i i σ e
    rw [if_neg (fun hij => h σ (by rw [e, hij])), e]
  · rfl
theorem free_ok (n : Nat) : FreeOk n := by
  induction n with
  | zero =>
    intro h0 lab h hp S i x hn hO
    have x0 := x
    obtain ⟨s, bs, xx, -⟩ := x
    apply F14
    unfold L14
    refine cal_of (at_spec xx i) ?_
    rintro _ _ ⟨rfl, ⟨hno, rfl⟩ | ⟨j, hj, hj2, rfl, hl, rfl⟩⟩
    · exact ⟨_, rfl, fun _ => ⟨lab, Stp.refl _ _, x0, rfl, Nat.le_refl _, hO⟩, fun e => (by cases e)⟩
    · have : 0 < liveN S := List.countP_pos_iff.2 ⟨_, List.getElem_mem hj2, hl⟩
      omega
  | succ n ih =>
    intro h0 lab h hp S i x hn hO
    have x0 := x
    obtain ⟨s, bs, xx, g0, l0⟩ := x
    apply F14
    unfold L14
    refine cal_of (at_spec xx i) ?_
    rintro _ _ ⟨rfl, ⟨hno, rfl⟩ | ⟨j, hj, hj2, rfl, hl, rfl⟩⟩
    · refine ⟨_, rfl, fun _ => ?_, fun e => (by cases e)⟩
      have e : freeS (n + 1) S i = (S, 1) := by rw [freeS, atS_not hno]
      rw [e]
      exact ⟨lab, Stp.refl _ _, x0, rfl, Nat.le_refl _, hO⟩
    have e : freeS (n + 1) S j = dropF (freeS n) S.l[j].v { S with live := S.live - 1, l := S.l.set j ⟨false, zVl, []⟩ } := by rw [freeS, atS_of hj2 hl, Int.toNat_natCast]
    rw [e]
    obtain ⟨lb, hfew, v, u, kb, hva, hst⟩ := xx.bx j hj hj2
    have hlN := liveN_set hj2 hl (S.live - 1) 0
    have hOl := hO.1
    have hOh := hO.2
    have hbh : bs[j] ≠ hp := fun e => by have := xx.lhp; rw [← e, lb] at this; cases this
    refine ⟨_, rfl, fun e => (by cases e), fun _ => ⟨_, rfl, ?_⟩⟩
    refine sto_i kb (by simp) ?_
    have kb2 : blk (sc h ⟨bs[j], 0, none⟩ (.bool false)) bs[j] (bxs false v u) := kb.sc 0 _
    have f2 : Fr (fun b => b = bs[j]) h (sc h ⟨bs[j], 0, none⟩ (.bool false)) := Fr.scb _ _ _ _
    generalize sc h ⟨bs[j], 0, none⟩ (.bool false) = h2 at *
    have hd2 := f2.blk xx.hd (fun e => hbh e.symm)
    refine ⟨_, rfl, ldI_i (x := S.live) (by rw [add_plain, hd2.cl]; rfl) ⟨_, rfl, ?_⟩⟩
    dsimp only
    rw [add_plain, wrap64_id (by omega) (by omega)]
    refine sto_i hd2 (by simp) ?_
    have hd3 : blk (sc h2 ⟨hp, 0 + 2, none⟩ (.int .i64 (S.live - 1))) hp (hps s S.tags (S.live - 1) S.most S.watch) := hd2.sc 2 _
    have f3 : Fr (fun b => b = hp) h2 (sc h2 ⟨hp, 0 + 2, none⟩ (.int .i64 (S.live - 1))) := Fr.scb _ _ _ _
    generalize sc h2 ⟨hp, 0 + 2, none⟩ (.int .i64 (S.live - 1)) = h3 at *
    have kb3 := f3.blk kb2 hbh
    refine ⟨_, rfl, rd7 (p := (⟨bs[j], 0, none⟩ : Addr).add 1) (by rw [add_plain]; exact bx7 kb3) ?_⟩
    refine mineV (v := v) fun h5 k5 g5 => ⟨_, rfl, ?_⟩
    have s2 := f2.size
    have s3 := f3.size
    have s5 := g5.size
    refine stoBx (v' := zVv) (g5.blk kb3 fun h => h) fun h6 kb6 f6 => ⟨_, rfl, ?_⟩
    dsimp only
    rw [add_plain]
    refine sto_i kb6 (by simp) ?_
    have kb7 : blk (sc h6 ⟨bs[j], 0 + 8, none⟩ (.slice none 0 0)) bs[j] (bxs false zVv ⟨none, 0, 0⟩) := kb6.sc 8 _
    have f7 : Fr (fun b => b = bs[j]) h6 (sc h6 ⟨bs[j], 0 + 8, none⟩ (.slice none 0 0)) := Fr.scb _ _ _ _
    generalize sc h6 ⟨bs[j], 0 + 8, none⟩ (.slice none 0 0) = h7 at *
    have bb := kb.lt
    have hne : ¬ h3.size = bs[j] := by omega
    have k7 := f7.blk (f6.blk k5 hne) hne
    refine rd7 (Vv7.blk k7) ?_
    have F7 : Fr (fun b => b = bs[j] ∨ b = hp) h h7 := ((((f2.mono fun _ _ h => .inl h).trans' f3 fun _ _ h => .inr h).trans' g5 fun _ _ h => h.elim).trans' f6 fun _ _ h => .inl h).trans' f7 fun _ _ h => .inl h
    have hd7 := f7.blk (f6.blk (g5.blk hd3 fun h => h) fun e => hbh e.symm) fun e => hbh e.symm
    have hTm : ∀ b, (b = bs[j] ∨ b = hp) → Mut (lab b) := by
      rintro b (rfl | rfl)
      · rw [lb]; exact ⟨Lb.noConfusion, Lb.noConfusion⟩
      · rw [xx.lhp]; exact ⟨Lb.noConfusion, Lb.noConfusion⟩
    have x7 : HpAt (deadLab lab j) h7 hp { S with tags := S.tags, live := S.live - 1, l := S.l.set j ⟨false, zVl, []⟩ } s bs := by
      refine xx.set2 (a' := ⟨false, zVl, []⟩) F7 (fun b hb _ => ?_) (fun b _ hb => dead_not fun σ e => hb (.inr (.inr ⟨σ, e⟩))) hd7 hj ⟨?_, ?_, zVv, ⟨none, 0, 0⟩, kb7, ?_, [], rfl, Own.nil _ _ _, fun b ⟨a, ea, _⟩ => (by cases ea), fun z hz => (by cases hz)⟩ fun b hb => ?_
      · rcases hb with rfl | rfl
        · exact .inr (.inl (.inl lb))
        · exact .inl rfl
      · rw [dead_not fun σ e => (by rw [lb] at e; cases e)]; exact lb
      · exact few_mk.2 ⟨by simp, by simp, fun a ha => by cases ha⟩
      · exact vAt_iff.2 ⟨rfl, rfl, rfl, rfl, rfl, IntsC.nil _ _, rfl, fun j hj => absurd hj (Nat.not_lt_zero _)⟩
      · have := xx.out b (by have := F7.size; omega)
        rw [dead_not fun σ e => (by rw [this] at e; cases e)]; exact this
    have st7 : Stp lab h (deadLab lab j) h7 := ⟨F7.mono fun b _ hb => hTm b hb, fun b _ hb => dead_not fun σ e => hb (by rw [e]; exact ⟨Lb.noConfusion, Lb.noConfusion⟩)⟩
    have xs : Ses h0 (deadLab lab j) h7 hp { S with live := S.live - 1, l := S.l.set j ⟨false, zVl, []⟩ } := ses_of x0 st7.1 (fun b _ e => by rw [dead_not fun σ e' => (by rw [e] at e'; cases e')]; exact e) x7
    have hcalm : Calm (deadLab lab j) h7 S.l[j].v v := by
      refine (hva.fr F7 (fun b hb e => (hTm b e).2 hb) fun σ b hb e => ?_).weak (fun b hb _ => ?_) (fun h => (by cases h)) fun σ b hb _ => ?_
      · rcases e with rfl | rfl
        · rw [lb] at hb; cases hb
        · rw [xx.lhp] at hb; cases hb
      · rw [dead_not fun σ e => (by rw [hb] at e; cases e), hb]; exact fun h => h.2 rfl
      · show ¬ Mut (deadLab lab j b)
        rw [dead_pt hb]; exact fun h => h.2 rfl
    have hO' : OkL { S with live := S.live - 1, l := S.l.set j ⟨false, zVl, []⟩ } := ⟨by show (liveN _ : Int) ≤ S.live - 1 + 1000000; omega, by show S.live - 1 ≤ _; omega⟩
    refine cal_of (drop_spec ih S.l[j].v h0 _ h7 hp _ v xs (by omega) hO' hfew hcalm) ?_
    rintro _ h8 ⟨lab8, st8, x8, rfl, hl8, hO8⟩
    exact ⟨_, rfl, lab8, st7.trans st8, x8, rfl, by omega, hO8⟩
end
end Go.Proofs.Ytggacajnmgligaa

/-
  Take and Write.
-/
import Derived.Test.YtggacajnmgligaaH12
import Derived.Test.YtggacajnmgligaaH13
namespace Go.Proofs.Ytggacajnmgligaa
open Go Go.Lf
set_option linter.unusedVariables false

noncomputable def takeS (S : Hs) (al : Int) (pa : List Int) (tg : Int) : Hs × Except Int Vl :=
  match useGet S al pa tg true with
  | (S1, .error f) => (S1, .error f)
  | (S1, .ok y) => match atS S1 al with
    | none => (S1, .error 1)
    | some a => ({ S1 with l := S1.l.set al.toNat { a with v := putV a.v (natsOf pa) zVl } }, .ok y)
noncomputable def writeS (n : Nat) (S : Hs) (al : Int) (pa : List Int) (tg : Int) (x : Vl) : Hs × Int :=
  match useS S al pa tg true with
  | .error f => (S, f)
  | .ok S1 => match atS S1 al with
    | none => (S1, 1)
    | some a => match getV a.v pa with
      | .error f => (S1, f)
      | .ok old => dropF (freeS n) old { S1 with l := S1.l.set al.toNat { a with v := putV a.v (natsOf pa) x } }
section
variable {lab : Nat → Lb} {h0 h : Heap} {hp : Nat} {S : Hs}
theorem few_zVl : few zVl := few_mk.2 ⟨by simp, by simp, fun a ha => by cases ha⟩
theorem zVl_at {o : Bool} {Q : Nat → Prop} {A : List Nat → Nat → Prop} : VAt o Q h zVl A zVv := vAt_iff.2 ⟨rfl, rfl, rfl, rfl, rfl, IntsC.nil _ _, rfl, fun j hj => absurd hj (Nat.not_lt_zero _)⟩
theorem cut_calm {j : Nat} {π : List Nat} {b : Nat} (h : ¬ Mut (lab b)) : cutLab lab j π b = lab b := cut_not fun σ e => absurd ⟨by rw [e]; exact Lb.noConfusion, by rw [e]; exact Lb.noConfusion⟩ h
theorem take_ses (x : Ses h0 lab h hp S) (hS : Few S) {al tg : Int} {sp : Sv} {pa : List Int} (hpt : IntsC (fun b => ¬ Mut (lab b)) h sp pa) (hpl : pa.length ≤ 1000000) :
    CallsH Try.prog 18 #[ptr hp, .agg (pvs al sp tg)] h (fun v h' => ∃ lab', Stp lab h lab' h' ∧ Ses h0 lab' h' hp (takeS S al pa tg).1 ∧ match (takeS S al pa tg).2 with
      | .error f => v = .tuple #[.agg (vvs zVv), .int .i64 f]
      | .ok y => ∃ u, v = .tuple #[.agg (vvs u), .int .i64 0] ∧ Quiet lab' h' y u) := by
  obtain ⟨f1', f2', f3', f4', f5', hst⟩ := hS
  have x0 := x
  obtain ⟨s, bs, xx, g0, l0⟩ := x
  apply F18
  unfold L18
  refine newPt fun h1 k1 f1 z1 => newV (v := zVv) fun h2 k2 f2 z2 => ?_
  have K1 := f2.blk k1 fun h => h
  have g2 := f1.trans f2
  have x2 := xx.grow g2
  refine rdPt K1 ?_
  have l1 : lab h.size = .no := xx.out _ (Nat.le_refl _)
  have l2 : lab h1.size = .no := xx.out _ (by omega)
  refine useGet_walk x2 (hpt.fr g2 fun _ _ h => h) hpl hst K1 l1 (fun f h' f' x' e hf => ?_) (fun S' j y p h' f' x' e ht hw hj hj2 e2 hl hg hplc => ?_)
  · have K2 := f'.blk k2 (nomut l2)
    have hb : takeS S al pa tg = ((useGet S al pa tg true).1, .error f) := by
      unfold takeS
      generalize hu : useGet S al pa tg true = r at *
      obtain ⟨r1, r2⟩ := r
      dsimp only at e
      subst e; rfl
    rw [hb]
    have fin : ∀ h4, blk h4 h1.size (vvs zVv) → Fr (fun i => i = h1.size) h' h4 → Stp lab h lab h4 ∧ Ses h0 lab h4 hp (useGet S al pa tg true).1 := fun h4 b4 f4 => by
      have F : Fr (fun b => Mut (lab b)) h h4 := ((toM g2).trans f').trans' f4 (fun i hi e => (by have := f1.size; omega))
      exact ⟨⟨F, fun _ _ _ => rfl⟩, ses_of x0 F (fun _ _ e => e) (x'.fr f4 fun b hb => by rw [hb]; exact l2)⟩
    constructor
    · refine stoV (v := zVv) K2 rfl fun h4 b4 f4 => rd7 (Vv7.blk b4) ⟨lab, (fin h4 b4 f4).1, (fin h4 b4 f4).2, rfl⟩
    · refine stoV (v := zVv) K2 rfl fun h4 b4 f4 => rd7 (Vv7.blk b4) ⟨lab, (fin h4 b4 f4).1, (fin h4 b4 f4).2, rfl⟩
  · subst e2
    have htk : takeS S j pa tg = ({ S' with l := S'.l.set j { S'.l[j] with v := putV S'.l[j].v (natsOf pa) zVl } }, .ok y) := by
      unfold takeS
      rw [e]
      dsimp only
      rw [atS_of hj2 hl, Int.toNat_natCast]
    rw [htk]
    obtain ⟨lb, hfew, v, u0, kb, hva, -⟩ := x'.bx j hj hj2
    have hgn := getV_getN pa _ _ hg
    obtain ⟨uo, huo, hyu, -⟩ := hplc.at_ (bx7 kb) hva hgn
    refine ⟨p, rfl, rd7 huo ?_⟩
    refine mineV (v := uo) fun h8 k8 g8 => ⟨p, rfl, ?_⟩
    have x8 := x'.grow g8
    have hpl8 : Pl h8 ⟨bs[j], 1, none⟩ (natsOf pa) p := by
      have : ∀ (π : List Nat) (p0 : Addr), Pl h' p0 π p → Pl h8 p0 π p := by
        intro π
        induction π with
        | nil => exact fun _ h => h
        | cons i π ih =>
          rintro p0 ⟨s, q, c, e, r⟩
          exact ⟨s, q, g8.clk c fun h => h, e, ih _ r⟩
      exact this _ _ hplc
    refine part_sto (lab' := cutLab lab j (natsOf pa)) (u := zVv) (uo := uo) x8 hj hj2 hpl8 hgn (fun b _ => rfl) (fun b hb => ?_) few_zVl zVl_at (hyu.grow g8) fun h9 f9 hm x9 hq => ?_
    · have := x8.out b hb
      rw [cut_calm (nomut this)]; exact this
    have sz2 := f1.size
    have sz3 := f'.size
    have sz8 := g8.size
    have npb : ∀ b, lab b = .no → ¬ b = p.block := fun b hb e => hm.1 (by rw [← e]; exact hb)
    have k9 := f9.blk k8 (npb _ (x'.out _ (Nat.le_refl _)))
    refine rd7 (Vv7.blk k9) ?_
    have k4 := f9.blk (g8.blk (f'.blk k2 (nomut l2)) fun h => h) (npb _ l2)
    have l2' : cutLab lab j (natsOf pa) h1.size = .no := by rw [cut_calm (nomut l2)]; exact l2
    refine stoV (v := uo) k4 rfl fun h10 k10 f10 => rd7 (Vv7.blk k10) ?_
    have F9 : Fr (fun b => Mut (lab b)) h h9 := (((toM g2).trans f').trans (toM g8)).trans' f9 fun i _ e => by rw [e]; exact hm
    have F10 : Fr (fun b => Mut (lab b)) h h10 := F9.trans' f10 fun i hi e => by omega
    refine ⟨cutLab lab j (natsOf pa), ⟨F10, fun b _ hb => cut_calm hb⟩, ses_of x0 F10 (fun b _ e => by rw [cut_calm (nomut e)]; exact e) (x9.fr f10 fun b hb => by rw [hb]; exact l2'), uo, rfl, ?_⟩
    refine VAt.fr f10 (fun b hb e => ?_) (fun σ b hb e => ?_) hq
    · rw [e, l2'] at hb; cases hb
    · have hb' : cutLab lab j (natsOf pa) b = .q := hb
      rw [e, l2'] at hb'; cases hb'
theorem write_ses (x : Ses h0 lab h hp S) (hS : Few S) {al tg : Int} {sp : Sv} {pa : List Int} (hpt : IntsC (fun b => ¬ Mut (lab b)) h sp pa) (hpl : pa.length ≤ 1000000) {xt : Vl} {xv : Vv} (hx : Calm lab h xt xv) (hfx : few xt) {n : Nat}
    (hN : ∀ S1 a, useS S al pa tg true = .ok S1 → atS S1 al = some a → liveN { S1 with l := S1.l.set al.toNat { a with v := putV a.v (natsOf pa) xt } } ≤ n ∧ OkL { S1 with l := S1.l.set al.toNat { a with v := putV a.v (natsOf pa) xt } }) :
    CallsH Try.prog 17 #[ptr hp, .agg (pvs al sp tg), .agg (vvs xv)] h (fun v h' => ∃ lab', Stp lab h lab' h' ∧ Ses h0 lab' h' hp (writeS n S al pa tg xt).1 ∧ v = .int .i64 (writeS n S al pa tg xt).2) := by
  obtain ⟨f1', f2', f3', f4', f5', hst⟩ := hS
  have x0 := x
  obtain ⟨s, bs, xx, g0, l0⟩ := x
  apply F17
  unfold L17
  refine newPt fun h1 k1 f1 z1 => newV (v := xv) fun h2 k2 f2 z2 => ?_
  have K1 := f2.blk k1 fun h => h
  have g2 := f1.trans f2
  have x2 := xx.grow g2
  refine rdPt K1 ?_
  have l1 : lab h.size = .no := xx.out _ (Nat.le_refl _)
  have l2 : lab h1.size = .no := xx.out _ (by omega)
  have hpt2 := hpt.fr g2 fun _ _ h => h
  refine cal_of (use_spec x2 hpt2 hpl hst true) ?_
  rintro v h3 ⟨f3, hm⟩
  have F3 : Fr (fun b => Mut (lab b)) h h3 := (toM g2).trans f3
  cases hu : useS S al pa tg true with
  | error f =>
    rw [hu] at hm
    obtain ⟨x3, rfl, hf⟩ := hm
    have hw : writeS n S al pa tg xt = (S, f) := by unfold writeS; rw [hu]
    rw [hw]
    exact ⟨_, rfl, _, rfl, _, rfl, _, rfl, _, rfl, fun _ => ⟨lab, ⟨F3, fun _ _ _ => rfl⟩, ses_of x0 F3 (fun _ _ e => e) x3, rfl⟩, fun e => absurd (by simpa using e) hf⟩
  | ok S1 =>
    rw [hu] at hm
    obtain ⟨x3, j, hj, rfl, rfl⟩ := hm
    refine ⟨_, rfl, _, rfl, _, rfl, _, rfl, _, rfl, fun e => (by simp at e), fun _ => ?_⟩
    obtain ⟨a, ha, -, -, -, -, -⟩ := useS_at hu
    obtain ⟨j', e, hj2, rfl, hl⟩ := atS_some ha
    obtain rfl : j = j' := by omega
    obtain ⟨hN1, hN2⟩ := hN S1 _ hu ha
    rw [Int.toNat_natCast] at hN1 hN2
    have hw : writeS n S j pa tg xt = match getV S1.l[j].v pa with
        | .error f => (S1, f)
        | .ok old => dropF (freeS n) old { S1 with l := S1.l.set j { S1.l[j] with v := putV S1.l[j].v (natsOf pa) xt } } := by
      unfold writeS
      rw [hu]
      dsimp only
      rw [ha, Int.toNat_natCast]
    rw [hw]
    obtain ⟨lb, hfew, v, u0, kb, hva, -⟩ := x3.bx j hj hj2
    have K13 := f3.blk K1 (nomut l1)
    have hpt3 := hpt2.fr f3 fun b hb h => hb h
    refine ldS_i (s := sp) (by rw [add_plain, K13.cl]; rfl) ?_
    refine cal_of (part_spec (p0 := ⟨bs[j], 0, none⟩) hva (by rw [add_plain]; exact bx7 kb) hpt3.ints hpl) ?_
    rintro w5 _ ⟨rfl, hm⟩
    cases hg : getV S1.l[j].v pa with
    | error f =>
      rw [hg] at hm
      have hm : w5 = .tuple #[.pointer none, .int .i64 f] := hm
      subst hm
      exact ⟨_, rfl, _, rfl, _, rfl, _, rfl, _, rfl, fun _ => ⟨lab, ⟨F3, fun _ _ _ => rfl⟩, ses_of x0 F3 (fun _ _ e => e) x3, rfl⟩, fun e => absurd (by simpa using e) (getV_err _ _ _ hg)⟩
    | ok old =>
      rw [hg] at hm
      obtain ⟨p, rfl, hplc⟩ := hm
      rw [add_plain] at hplc
      refine ⟨_, rfl, _, rfl, _, rfl, _, rfl, _, rfl, fun e => (by simp at e), fun _ => ⟨p, rfl, ?_⟩⟩
      have hgn := getV_getN pa _ _ hg
      obtain ⟨uo, huo, hyu, -⟩ := hplc.at_ (bx7 kb) hva hgn
      refine rd7 huo ?_
      refine mineV (v := uo) fun h6 k6 g6 => ?_
      have k56 := g6.blk (f3.blk k2 (nomut l2)) fun h => h
      have sz1 := f1.size
      have sz3 := f3.size
      have sz6 := g6.size
      refine rd7 (Vv7.blk k56) ?_
      have hx6 : Calm lab h6 xt xv := Calm.grow (Calm.op (Calm.grow hx g2) ⟨f3, fun _ _ _ => rfl⟩) g6
      refine cal_of (clone_spec xt false _ _ xv h6 hfx hx6) ?_
      rintro _ h7 ⟨g7, u', rfl, lbl, hlb, hva'⟩
      have sz7 := g7.size
      refine ⟨_, _, _, u'.ps, _, u'.pa, _, rfl, p, rfl, ?_⟩
      have x7 := (x3.grow g6).grow g7
      have hpl7 : Pl h7 ⟨bs[j], 1, none⟩ (natsOf pa) p := by
        have : ∀ (π : List Nat) (p0 : Addr), Pl h3 p0 π p → Pl h7 p0 π p := by
          intro π
          induction π with
          | nil => exact fun _ h => h
          | cons i π ih =>
            rintro p0 ⟨s, q, c, e, r⟩
            exact ⟨s, q, (g6.trans g7).clk c fun h => h, e, ih _ r⟩
        exact this _ _ hplc
      have hout : ∀ b, h6.size ≤ b → lab b = .no := fun b hb => (x3.grow g6).out b hb
      let lab' : Nat → Lb := fun b => if b < h6.size then cutLab lab j (natsOf pa) b else if b < h7.size then (match lbl b with | some σ => .pt j (natsOf pa ++ σ) | none => .q) else .no
      have L0 : ∀ b, b < h6.size → lab' b = cutLab lab j (natsOf pa) b := fun b hb => if_pos hb
      have L1 : ∀ b, h6.size ≤ b → b < h7.size → lab' b = match lbl b with | some σ => .pt j (natsOf pa ++ σ) | none => .q := fun b h1 h2 => by
        show (if b < h6.size then _ else _) = _
        rw [if_neg (by omega), if_pos h2]
      have L2 : ∀ b, h7.size ≤ b → lab' b = .no := fun b h1 => by
        show (if b < h6.size then _ else _) = _
        rw [if_neg (by omega), if_neg (by omega)]
      have hge : ∀ σ b, lbl b = some σ → h6.size ≤ b := fun σ b hb => by
        rcases Nat.lt_or_ge b h6.size with hl | hl
        · rw [hlb b (.inl hl)] at hb; cases hb
        · exact hl
      refine part_sto (lab' := lab') (u := u') (uo := uo) x7 hj hj2 hpl7 hgn (fun b hb => L0 b ?_) L2 hfx (hva'.weak (fun b hb hs => ?_) (fun h => h) fun σ b hb hs => ?_) ((hyu.grow g6).grow g7) fun h8 f8 hm x8 hq => ?_
      · rcases Nat.lt_or_ge b h6.size with h | h
        · exact h
        · exact absurd (hout b h) hb
      · show lab' b = .q
        rw [L1 b hb.1 hs, hb.2]
      · show lab' b = .pt j (natsOf pa ++ σ)
        have hb' : lbl b = some σ := hb
        rw [L1 b (hge σ b hb') hs, hb']
      have npb : ∀ b, lab b = .no → ¬ b = p.block := fun b hb e => hm.1 (by rw [← e]; exact hb)
      have k68 := f8.blk (g7.blk k6 fun h => h) (npb _ (x3.out _ (Nat.le_refl _)))
      refine rd7 (Vv7.blk k68) ?_
      have F8 : Fr (fun b => Mut (lab b)) h h8 := ((F3.trans (toM g6)).trans (toM g7)).trans' f8 fun i _ e => by rw [e]; exact hm
      have st8 : Stp lab h lab' h8 := ⟨F8, fun b hb hnm => by rw [L0 b (by omega)]; exact cut_calm hnm⟩
      have xs8 : Ses h0 lab' h8 hp { S1 with l := S1.l.set j { S1.l[j] with v := putV S1.l[j].v (natsOf pa) xt } } := ses_of x0 F8 (fun b hb e => by rw [L0 b (by omega), cut_calm (nomut e)]; exact e) x8
      refine cal_of (drop_spec (free_ok n) old h0 lab' h8 hp _ uo xs8 hN1 hN2 (getV_few pa _ _ hg hfew) hq.calm) ?_
      rintro _ h9 ⟨lab9, st9, x9, rfl, -, -⟩
      exact ⟨_, rfl, lab9, st8.trans st9, x9, rfl⟩
end
end Go.Proofs.Ytggacajnmgligaa

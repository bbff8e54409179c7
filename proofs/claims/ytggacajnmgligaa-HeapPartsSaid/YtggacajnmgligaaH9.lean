/-
  A new allocation.
-/
import Derived.Test.YtggacajnmgligaaH8
namespace Go.Proofs.Ytggacajnmgligaa
open Go Go.Lf
set_option linter.unusedVariables false

def allocS (S : Hs) (t : Vl) : Hs := { S with tags := S.tags + 1, live := S.live + 1, l := S.l ++ [⟨true, t, if S.watch = true then [⟨S.tags + 1, [], true⟩] else []⟩] }
section
variable {lab : Nat → Lb} {h : Heap} {hp : Nat} {S : Hs} {s : Sv} {bs : List Nat}
theorem alloc_spec (x : HpAt lab h hp S s bs) {t : Vl} {v : Vv} (hv : VAt false (fun b => ¬ Mut (lab b)) h t (anyA fun b => ¬ Mut (lab b)) v) (hf : few t) (hsl : S.l.length ≤ 1000000) (ht0 : 0 ≤ S.tags) (ht1 : S.tags ≤ 1000000) (hl0 : -1000000 ≤ S.live) (hl1 : S.live ≤ 1000000) :
    CallsH Try.prog 10 #[ptr hp, .agg (vvs v)] h (fun r h' => ∃ lab' s' bs', Fr (fun b => Mut (lab b)) h h' ∧ (∀ b, b < h.size → lab' b = lab b) ∧
      if S.live ≥ S.most then HpAt lab' h' hp S s' bs' ∧ r = .tuple #[.agg (pvs 0 ⟨none, 0, 0⟩ 0), .bool false]
      else HpAt lab' h' hp (allocS S t) s' bs' ∧ r = .tuple #[.agg (pvs S.l.length ⟨none, 0, 0⟩ (S.tags + 1)), .bool true]) := by
  apply F10
  unfold L10
  refine newV (v := v) fun h1 k1 f1 z1 => newPt (al := 0) (sp := ⟨none, 0, 0⟩) (tg := 0) fun h2 k2 f2 z2 => ?_
  have K1 := f2.blk k1 fun h => h
  have g2 := f1.trans f2
  have x2 := x.grow g2
  have hlive : cl h2 ((⟨hp, 0, none⟩ : Addr).add 2) = some (.int .i64 S.live) := by rw [add_plain, x2.hd.cl]; rfl
  have hmost : cl h2 ((⟨hp, 0, none⟩ : Addr).add 3) = some (.int .i64 S.most) := by rw [add_plain, x2.hd.cl]; rfl
  refine ⟨fun b => b = decide (S.live ≥ S.most), ⟨fun e => (by cases e), fun _ => ⟨_, rfl, ldI_i hlive ⟨_, rfl, ldI_i hmost rfl⟩⟩⟩, ?_⟩
  intro x19 h19
  refine ifb_iff (q := S.live ≥ S.most) (by rw [h19]; exact decide_eq_true_iff) (fun hfull => ?_) (fun hroom => ?_)
  · refine stoPt (al := 0) (sp := ⟨none, 0, 0⟩) (tg := 0) k2 rfl fun h3 k3 f3 => rdPt k3 ?_
    refine ⟨lab, s, bs, ((toM g2).trans' f3 fun i hi e => by omega), fun _ _ => rfl, ?_⟩
    rw [if_pos hfull]
    exact ⟨x2.fr f3 fun b hb => by rw [hb]; exact x.out _ (by omega), rfl⟩
  -- the numbers
  refine ⟨_, rfl, ldI_i (x := S.tags) (by rw [add_plain, x2.hd.cl]; rfl) ⟨_, rfl, ?_⟩⟩
  rw [add_plain, wrap64_id (by omega) (by omega)]
  refine sto_i x2.hd (by simp) ?_
  have K3 : blk (sc h2 ⟨hp, 0 + 1, none⟩ (.int .i64 (S.tags + 1))) hp (hps s (S.tags + 1) S.live S.most S.watch) := x2.hd.sc 1 _
  have f3 : Fr (fun b => b = hp) h2 (sc h2 ⟨hp, 0 + 1, none⟩ (.int .i64 (S.tags + 1))) := Fr.scb _ _ _ _
  have s3 := f3.size
  generalize sc h2 ⟨hp, 0 + 1, none⟩ (.int .i64 (S.tags + 1)) = h3 at *
  refine ⟨_, rfl, ldI_i (x := S.live) (by rw [add_plain, K3.cl]; rfl) ⟨_, rfl, ?_⟩⟩
  rw [add_plain, wrap64_id (by omega) (by omega)]
  refine sto_i K3 (by simp) ?_
  have K4 : blk (sc h3 ⟨hp, 0 + 2, none⟩ (.int .i64 (S.live + 1))) hp (hps s (S.tags + 1) (S.live + 1) S.most S.watch) := K3.sc 2 _
  have f4 : Fr (fun b => b = hp) h2 (sc h3 ⟨hp, 0 + 2, none⟩ (.int .i64 (S.live + 1))) := f3.trans (Fr.scb _ _ _ _)
  generalize sc h3 ⟨hp, 0 + 2, none⟩ (.int .i64 (S.live + 1)) = h4 at *
  have x4 : HpAt lab h4 hp { S with tags := S.tags + 1, live := S.live + 1 } s bs := x2.hdr f4 K4
  have hhp : hp < h.size := x.hd.lt
  have n1 : ¬ h.size = hp := by omega
  have n2 : ¬ h1.size = hp := by omega
  have s4 := f4.size
  -- the value
  have F4 : Fr (fun b => b = hp ∨ s.own b) h h4 := (g2.mono fun _ _ h => h.elim).trans' f4 fun i _ e => .inl e
  have hhm : Mut (lab hp) := by rw [x.lhp]; exact ⟨Lb.noConfusion, Lb.noConfusion⟩
  have hv4 := (hv.grow g2).fr f4 (fun b hb e => hb (by rw [e]; exact hhm)) fun σ b hb e => hb (by rw [e]; exact hhm)
  refine rd7 (Vv7.blk (f4.blk K1 n1)) ?_
  refine cal_of (clone_spec t false _ _ v h4 hf hv4) ?_
  rintro _ h6 ⟨f6, v', rfl, lb, hlb, hva⟩
  refine ⟨_, _, _, v'.ps, _, v'.pa, _, rfl, ?_⟩
  have s6 := f6.size
  rintro p38 h7 rfl rfl
  have f7 : Grow h6 (h6.push (.cells (bxs true v' ⟨none, 0, 0⟩) 78)) := Fr.push _ _ _
  have k7 : blk (h6.push (.cells (bxs true v' ⟨none, 0, 0⟩) 78)) h6.size (bxs true v' ⟨none, 0, 0⟩) := blk.new _ _ _
  have s7 : (h6.push (.cells (bxs true v' ⟨none, 0, 0⟩) 78)).size = h6.size + 1 := by simp
  generalize h6.push (.cells (bxs true v' ⟨none, 0, 0⟩) 78) = h7 at *
  have x7 := (x4.grow f6).grow f7
  refine ⟨fun h10 => ∃ u, blk h10 h6.size (bxs true v' u) ∧ Own h10 0 3 u (c3 (if S.watch = true then [⟨S.tags + 1, ⟨none, 0, 0⟩, true⟩] else [])) ∧ (∀ b, u.own b → h7.size ≤ b) ∧ Fr (fun b => b = h6.size) h7 h10, ⟨_, rfl, S.watch, by rw [add_plain, x7.hd.cl]; rfl, fun hw => ⟨_, rfl, ldI_i (x := S.tags + 1) (by rw [add_plain, x7.hd.cl]; rfl) ?_⟩, fun hw => ?_⟩, ?_⟩
  · rintro s49 h8 rfl rfl
    have f8 : Grow h7 (h7.push (.cells (hvs ⟨S.tags + 1, ⟨none, 0, 0⟩, true⟩) 80)) := Fr.push _ _ _
    have k8 : blk (h7.push (.cells (hvs ⟨S.tags + 1, ⟨none, 0, 0⟩, true⟩) 80)) h7.size (hvs ⟨S.tags + 1, ⟨none, 0, 0⟩, true⟩) := blk.new _ _ _
    generalize h7.push (.cells (hvs ⟨S.tags + 1, ⟨none, 0, 0⟩, true⟩) 80) = h8 at *
    rw [add_plain]
    refine sto_i (f8.blk k7 fun h => h) (by simp) ?_
    have f9 : Fr (fun b => b = h6.size) h8 (sc h8 ⟨h6.size, 0 + 8, none⟩ (.slice (some ⟨h7.size, 0, none⟩) 1 1)) := Fr.scb _ _ _ _
    refine ⟨⟨some ⟨h7.size, 0, none⟩, 1, 1⟩, (f8.blk k7 fun h => h).sc 8 _, ⟨?_, .inr ⟨h7.size, _, rfl, Nat.zero_le _, f9.blk k8 (by omega), Nat.le_refl _, rfl, ?_⟩⟩, ?_, (f8.mono fun _ _ h => h.elim).trans f9⟩
    · rw [if_pos hw]; rfl
    · rw [if_pos hw]; rfl
    · rintro b ⟨a, ea, rfl⟩
      simp only [Option.some.injEq] at ea
      subst ea; exact Nat.le_refl _
  · refine ⟨⟨none, 0, 0⟩, k7, ?_, fun b ⟨a, ea, _⟩ => (by cases ea), Fr.refl _ _⟩
    rw [hw]
    exact Own.nil _ _ _
  rintro h10 ⟨u, kb, ou, hu, f10⟩
  have s10 := f10.size
  have n6 : ∀ b, b < h.size → ¬ b = h6.size := fun b hb => by omega
  have x10 := x7.fr f10 fun b hb => by rw [hb]; exact x.out _ (by omega)
  refine ⟨_, rfl, ldS_i (s := s) (by rw [x10.hd.cl]; rfl) ?_⟩
  have hn : s.n = bs.length := by have := x.al.len; simpa using this.symm
  have hbl := x.len
  refine app1 (vs := #[ptr h6.size]) (z := (Value.pointer none).cells) rfl x10.al rfl (by intro w hw; simp only [List.mem_cons, List.not_mem_nil, or_false] at hw; rw [hw]; rfl) (Nat.zero_le _) (by omega) (by omega) ?_
  intro s' h12 e1 o12 f12 e3
  have s12 := f12.size
  have nal : ¬ s.own hp := fun hb => by have := x.lal _ hb; rw [x.lhp] at this; cases this
  have nown : ∀ b, h.size ≤ b → ¬ s.own b := fun b hb ho => by have := (x.al.ge ho).2; omega
  refine ⟨_, rfl, ?_⟩
  dsimp only
  have K12 := f12.blk x10.hd nal
  refine sto_i K12 (by simp) ?_
  have K13 : blk (sc h12 ⟨hp, 0, none⟩ (.slice s'.a s'.n s'.c)) hp (hps s' (S.tags + 1) (S.live + 1) S.most S.watch) := K12.sc 0 _
  have f13 : Fr (fun b => b = hp) h12 (sc h12 ⟨hp, 0, none⟩ (.slice s'.a s'.n s'.c)) := Fr.scb _ _ _ _
  have s13 := f13.size
  generalize sc h12 ⟨hp, 0, none⟩ (.slice s'.a s'.n s'.c) = h13 at *
  refine ⟨_, rfl, ldS_i (s := s') (by rw [K13.cl]; rfl) ⟨_, rfl, ldI_i (x := S.tags + 1) (by rw [add_plain, K13.cl]; rfl) ?_⟩⟩
  have hw1 : IntKind.i64.wrap ((s'.n : Int) - 1) = (S.l.length : Int) := by
    rw [wrap64_id (by omega) (by omega)]
    omega
  rw [hw1]
  have s1 := f1.size
  refine stoPt (al := S.l.length) (sp := ⟨none, 0, 0⟩) (tg := S.tags + 1) (f13.blk (f12.blk (f10.blk (f7.blk (f6.blk (f4.blk k2 n2) fun h => h) fun h => h) (by omega)) (nown _ s1)) n2) rfl fun h14 k14 f14 => rdPt k14 ?_
  have s14 := f14.size
  have F14 : Fr (fun b => b = hp ∨ s.own b) h h14 := (((((F4.trans' f6 fun _ _ h => h.elim).trans' f7 fun _ _ h => h.elim).trans' f10 fun i hi e => by omega).trans' f12 fun i _ e => .inr e).trans' f13 fun i _ e => .inl e).trans' f14 fun i hi e => by omega
  have F6 : Fr (fun b => b = h6.size ∨ s.own b ∨ b = hp ∨ b = h1.size) h6 h14 := ((((f7.mono fun _ _ h => h.elim).trans' f10 fun _ _ e => .inl e).trans' f12 fun _ _ e => .inr (.inl e)).trans' f13 fun _ _ e => .inr (.inr (.inl e))).trans' f14 fun _ _ e => .inr (.inr (.inr e))
  have F10 : Fr (fun b => s.own b ∨ b = hp ∨ b = h1.size) h10 h14 := ((f12.mono fun _ _ h => .inl h).trans' f13 fun _ _ e => .inr (.inl e)).trans' f14 fun _ _ e => .inr (.inr e)
  -- what the blocks are now
  let lab' : Nat → Lb := fun b => if b < h.size then lab b else if b < h4.size then .no else if b < h6.size then (match lb b with | some σ => .pt S.l.length σ | none => .q) else if b = h6.size then .bx S.l.length else if b < h10.size then .st S.l.length else if b < h14.size then .al else .no
  have L0 : ∀ b, b < h.size → lab' b = lab b := fun b hb => if_pos hb
  have L1 : ∀ b, h4.size ≤ b → b < h6.size → lab' b = match lb b with | some σ => .pt S.l.length σ | none => .q := fun b h1 h2 => by
    show (if b < h.size then lab b else _) = _
    rw [if_neg (by omega), if_neg (by omega), if_pos h2]
  have L2 : lab' h6.size = .bx S.l.length := by
    show (if h6.size < h.size then lab h6.size else _) = _
    rw [if_neg (by omega), if_neg (by omega), if_neg (by omega), if_pos rfl]
  have L3 : ∀ b, h6.size < b → b < h10.size → lab' b = .st S.l.length := fun b h1 h2 => by
    show (if b < h.size then lab b else _) = _
    rw [if_neg (by omega), if_neg (by omega), if_neg (by omega), if_neg (by omega), if_pos h2]
  have L4 : ∀ b, h10.size ≤ b → b < h14.size → lab' b = .al := fun b h1 h2 => by
    show (if b < h.size then lab b else _) = _
    rw [if_neg (by omega), if_neg (by omega), if_neg (by omega), if_neg (by omega), if_neg (by omega), if_pos h2]
  have L5 : ∀ b, h14.size ≤ b → lab' b = .no := fun b h1 => by
    show (if b < h.size then lab b else _) = _
    rw [if_neg (by omega), if_neg (by omega), if_neg (by omega), if_neg (by omega), if_neg (by omega), if_neg (by omega)]
  refine ⟨lab', s', bs ++ [h6.size], F14.mono fun b _ hb => ?_, L0, ?_⟩
  · rcases hb with rfl | hb
    · exact hhm
    · rw [x.lal b hb]; exact ⟨Lb.noConfusion, Lb.noConfusion⟩
  rw [if_neg hroom]
  refine ⟨⟨f14.blk K13 (by omega), by rw [L0 _ hhp]; exact x.lhp, by simp [allocS, hbl], ?_, fun b hb => ?_, fun i i1 i2 => ?_, L5⟩, rfl⟩
  · rw [List.map_append]
    refine (o12.frame f13 fun b hb e => ?_).frame f14 fun b hb e => ?_
    · rcases e3 b hb with h | h
      · rw [e] at h; exact nal h
      · omega
    · rcases e3 b hb with h | h
      · exact nown b (by omega) h
      · omega
  · rcases e3 b hb with h | h
    · rw [L0 b (x.al.ge h).2]; exact x.lal b h
    · exact L4 b h (by have := (o12.ge hb).2; omega)
  · by_cases hi : i < bs.length
    · have hi2 : i < S.l.length := by omega
      have hb := x.bx i hi hi2
      have e1 : (bs ++ [h6.size])[i] = bs[i] := List.getElem_append_left hi
      have e2 : (allocS S t).l[i] = S.l[i] := List.getElem_append_left hi2
      rw [e1, e2]
      refine hb.to F14 (fun c hc e => ?_) fun c hc _ => L0 c hc
      have : lab c = .hp ∨ lab c = .al := by
        rcases e with rfl | e
        · exact .inl x.lhp
        · exact .inr (x.lal c e)
      rcases hc with (hc | hc | ⟨σ, hc⟩) | hc <;> rw [hc] at this <;> rcases this with h | h <;> cases h
    · have hin : i = bs.length := by simp at i1; omega
      subst hin
      have e1 : (bs ++ [h6.size])[bs.length] = h6.size := by simp
      have e2 : (allocS S t).l[bs.length] = ⟨true, t, if S.watch = true then [⟨S.tags + 1, [], true⟩] else []⟩ := by simp [allocS, hbl]
      rw [e1, e2]
      refine ⟨by rw [L2, hbl], hf, v', u, F10.blk kb (fun e => ?_), ?_, ?_⟩
      · rcases e with e | e | e
        · exact nown _ (by omega) e
        · omega
        · omega
      · have h6' : VAt true (fun b => (h4.size ≤ b ∧ lb b = none) ∧ b < h6.size) h6 t (fun σ b => lb b = some σ ∧ b < h6.size) v' := hva.weak (fun b hb hs => ⟨hb, hs⟩) (fun h => h) fun σ b hb hs => ⟨hb, hs⟩
        have hge : ∀ σ b, lb b = some σ → h4.size ≤ b := fun σ b hb => by
          rcases Nat.lt_or_ge b h4.size with hl | hl
          · rw [hlb b (.inl hl)] at hb; cases hb
          · exact hl
        have nT : ∀ b, h4.size ≤ b → b < h6.size → ¬ (b = h6.size ∨ s.own b ∨ b = hp ∨ b = h1.size) := fun b h1 h2 e => by
          rcases e with e | e | e | e
          · omega
          · exact nown b (by omega) e
          · omega
          · omega
        refine (h6'.fr F6 (fun b hb => nT b hb.1.1 hb.2) fun σ b hb => nT b (hge σ b hb.1) hb.2).weak (fun b hb _ => ?_) (fun h => h) fun σ b hb _ => ?_
        · rw [L1 b hb.1.1 hb.2, hb.1.2]
        · rw [L1 b (hge σ b hb.1) hb.2, hb.1, hbl]
      · refine ⟨if S.watch = true then [(⟨S.tags + 1, ⟨none, 0, 0⟩, true⟩, ⟨S.tags + 1, [], true⟩)] else [], ?_, ?_, fun b hb => ?_, fun z hz => ?_⟩
        · split <;> rfl
        · have : (if S.watch = true then [((⟨S.tags + 1, ⟨none, 0, 0⟩, true⟩ : Hr), (⟨S.tags + 1, [], true⟩ : Hd))] else []).map (·.1) = if S.watch = true then [⟨S.tags + 1, ⟨none, 0, 0⟩, true⟩] else [] := by split <;> rfl
          rw [this]
          refine ou.frame F10 fun b hb e => ?_
          have := hu b hb
          rcases e with e | e | e
          · exact nown _ (by omega) e
          · omega
          · omega
        · have := hu b hb
          rw [L3 b (by omega) (ou.ge hb).2, hbl]
        · split at hz
          · simp only [List.mem_cons, List.not_mem_nil, or_false] at hz
            subst hz
            exact ⟨rfl, rfl, IntsC.nil _ _, by simp⟩
          · cases hz
end
end Go.Proofs.Ytggacajnmgligaa

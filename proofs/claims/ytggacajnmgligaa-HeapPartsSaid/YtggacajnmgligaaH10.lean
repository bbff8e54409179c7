/-
  A borrow.
-/
import Derived.Test.YtggacajnmgligaaH9
namespace Go.Proofs.Ytggacajnmgligaa
open Go Go.Lf
set_option linter.unusedVariables false

theorem app1q {E : TypeId} {z vs : Array Value} {sz bytes : Nat} {h : Heap} {B : Nat} {s : Sv} {xs : List Value} {Sq : Heap → Prop} {K : Sv → Heap → Prop} (hsz : z.size = sz) (o : Own h B sz s xs)
    (hl : vs.size = sz) (h1 : ∀ u ∈ vs.toList, u.oneCell' = true) (hB : B ≤ h.size) (h63 : s.n + 1 ≤ 9223372036854775807) (hb : (s.n + 1) * bytes ≤ 140737488355328) (hS : ∀ h', Grow h h' → Sq h')
    (k : ∀ s' h', s'.n = s.n + 1 → Own h' B sz s' (xs ++ vs.toList) → Fr s.own h h' → (∀ b, s'.own b → s.own b ∨ h.size ≤ b) → K s' h') :
    newS E vs 1 h fun s1 h1 => Sq h1 ∧ appS E z sz bytes h1 s s1 K := by
  have H := app1 (E := E) (z := z) (bytes := bytes) hsz o hl h1 hB h63 hb k
  intro s1 h1 e1 e2
  exact ⟨hS _ (by rw [e2]; exact Fr.push _ _ _), H s1 h1 e1 e2⟩
noncomputable def borrowS (S : Hs) (al : Int) (pa : List Int) (tg : Int) (u : Bool) : Hs × Except Int Int :=
  match useGet S al pa tg u with
  | (S1, .error f) => (S1, .error f)
  | (S1, .ok _) => if S1.watch = true then (match S1.l[al.toNat]? with
    | some a => ({ S1 with tags := S1.tags + 1, l := S1.l.set al.toNat { a with st := a.st ++ [⟨S1.tags + 1, pa, u⟩] } }, .ok (S1.tags + 1))
    | none => (S1, .error 1)) else (S1, .ok 0)
theorem useS_st {S S' : Hs} {al tg : Int} {pa : List Int} {w : Bool} {N : Nat} (h : useS S al pa tg w = .ok S') (hst : ∀ a ∈ S.l, a.st.length ≤ N) : ∀ a ∈ S'.l, a.st.length ≤ N := by
  unfold useS at h
  split at h
  · cases h
  · rename_i a ha
    split at h
    · simp only [Except.ok.injEq] at h
      subst h; exact hst
    · split at h
      · cases h
      · rename_i a' ha'
        simp only [Except.ok.injEq] at h
        subst h
        obtain ⟨j, rfl, h2, rfl, hl⟩ := atS_some ha
        intro b hb
        rcases List.mem_or_eq_of_mem_set hb with hb | rfl
        · exact hst b hb
        · have h0 := hst _ (List.getElem_mem h2)
          unfold useAl at ha'
          split at ha'
          · cases ha'
          · rename_i k hk
            split at ha'
            · cases ha'
            · split at ha'
              · cases ha'
              · simp only [Option.some.injEq] at ha'
                subst ha'
                have h1 := List.length_filter_le (keepB pa w) (S.l[j].st.drop (k + 1))
                simp only [List.length_append, List.length_take, List.length_drop] at h1 ⊢
                omega
section
variable {lab : Nat → Lb} {h : Heap} {hp : Nat} {S : Hs} {s : Sv} {bs : List Nat}
theorem borrow_spec (x : HpAt lab h hp S s bs) {al tg : Int} {sp : Sv} {pa : List Int} (hpt : IntsC (fun b => ¬ Mut (lab b)) h sp pa) (hpl : pa.length ≤ 1000000) (hst : ∀ a ∈ S.l, a.st.length ≤ 1000000) (ht0 : 0 ≤ S.tags) (ht1 : S.tags ≤ 1000000) (uq : Bool) :
    CallsH Try.prog 12 #[ptr hp, .agg (pvs al sp tg), .bool uq] h (fun v h' => ∃ lab', Fr (fun b => Mut (lab b)) h h' ∧ (∀ b, b < h.size → lab' b = lab b) ∧ HpAt lab' h' hp (borrowS S al pa tg uq).1 s bs ∧ match (borrowS S al pa tg uq).2 with
      | .error f => v = .tuple #[.agg (pvs 0 ⟨none, 0, 0⟩ 0), .int .i64 f]
      | .ok tg' => ∃ so, v = .tuple #[.agg (pvs al so tg'), .int .i64 0] ∧ IntsC (Till lab' h.size) h' so pa) := by
  apply F12
  unfold L12
  refine newPt fun h1 k1 f1 z1 => newPt (al := 0) (sp := ⟨none, 0, 0⟩) (tg := 0) fun h2 k2 f2 z2 => ?_
  have K1 := f2.blk k1 fun h => h
  have g2 := f1.trans f2
  have x2 := x.grow g2
  refine rdPt K1 ?_
  have l1 : lab h.size = .no := x.out _ (Nat.le_refl _)
  have l2 : lab h1.size = .no := x.out _ (by omega)
  have nm1 : ¬ Mut (lab h.size) := by rw [l1]; exact fun h => h.1 rfl
  have nm2 : ¬ Mut (lab h1.size) := by rw [l2]; exact fun h => h.1 rfl
  have hps2 := hpt.fr g2 fun _ _ h => h
  refine useGet_walk x2 hps2 hpl hst K1 l1 (fun f h' f' x' e hf => ?_) (fun S' j y p h5 f5 x5 e ht hw hj hj2 e2 hl hg hplc => ?_)
  · have K2 := f'.blk k2 nm2
    have fin : ∀ h4, blk h4 h1.size (pvs 0 ⟨none, 0, 0⟩ 0) → Fr (fun i => i = h1.size) h' h4 → Fr (fun b => Mut (lab b)) h h4 ∧ HpAt lab h4 hp (useGet S al pa tg uq).1 s bs := fun h4 b4 f4 =>
      ⟨((toM g2).trans f').trans' f4 (fun i hi e => (by have := f1.size; omega)), x'.fr f4 fun b hb => by rw [hb]; exact l2⟩
    have hb : borrowS S al pa tg uq = ((useGet S al pa tg uq).1, .error f) := by
      unfold borrowS
      generalize hu : useGet S al pa tg uq = r at *
      obtain ⟨r1, r2⟩ := r
      dsimp only at e
      subst e; rfl
    rw [hb]
    constructor
    · refine stoPt (al := 0) (sp := ⟨none, 0, 0⟩) (tg := 0) K2 rfl fun h4 b4 f4 => rdPt b4 ⟨lab, (fin h4 b4 f4).1, fun _ _ => rfl, (fin h4 b4 f4).2, rfl⟩
    · refine stoPt (al := 0) (sp := ⟨none, 0, 0⟩) (tg := 0) K2 rfl fun h4 b4 f4 => rdPt b4 ⟨lab, (fin h4 b4 f4).1, fun _ _ => rfl, (fin h4 b4 f4).2, rfl⟩
  · subst e2
    have s5 := f5.size
    have s2 := g2.size
    have K1' := f5.blk K1 nm1
    have K2' := f5.blk k2 nm2
    have hps5 := hps2.fr f5 fun b hb h => hb h
    have F5 : Fr (fun b => Mut (lab b)) h h5 := (toM g2).trans f5
    refine ⟨fun out h13 => ∃ b12 so, out = ⟨b12, 0, none⟩ ∧ h5.size ≤ b12 ∧ blk h13 b12 (pvs j so 0) ∧ IntsC (fun b => h5.size ≤ b ∧ b ≠ b12) h13 so pa ∧ Grow h5 h13, ⟨fun h' => Grow h5 h', Fr.refl _ _, j, fun h' hs => by rw [(hs.blk K1' fun h => h).cl]; rfl, sp, fun h' hs => by rw [add_plain, (hs.blk K1' fun h => h).cl]; rfl, ?_, ?_⟩, ?_⟩
    · refine cal_of (cloneI_spec hps5.ints hpl) ?_
      rintro _ h7 ⟨f7, so, rfl, io⟩
      refine ⟨so, rfl, f7, newPt (al := 0) (sp := ⟨none, 0, 0⟩) (tg := 0) fun h8 k8 f8 z8 => ⟨f7.trans f8, stoPt (al := j) (sp := so) (tg := 0) k8 rfl fun h9 k9 f9 => ⟨h7.size, so, rfl, f7.size, k9, ?_, (f7.trans f8).trans' f9 fun i hi e => by have := f7.size; omega⟩⟩⟩
      have io' : IntsC (fun b => h5.size ≤ b ∧ b ≠ h7.size) h7 so pa := io.weak fun b hb hs => ⟨hb, by omega⟩
      exact (io'.fr f8 fun _ _ h => h).fr f9 fun b hb e => hb.2 e
    · refine newPt (al := 0) (sp := ⟨none, 0, 0⟩) (tg := 0) fun h8 k8 f8 z8 => ⟨f8, ?_⟩
      refine cal_of (cloneI_spec (hps5.fr f8 fun _ _ h => h).ints hpl) ?_
      rintro _ h7 ⟨f7, so, rfl, io⟩
      refine ⟨so, rfl, f8.trans f7, stoPt (al := j) (sp := so) (tg := 0) (f7.blk k8 fun h => h) rfl fun h9 k9 f9 => ⟨h5.size, so, rfl, Nat.le_refl _, k9, ?_, (f8.trans f7).trans' f9 fun i hi e => by omega⟩⟩
      have io' : IntsC (fun b => h5.size ≤ b ∧ b ≠ h5.size) h7 so pa := io.weak fun b hb hs => ⟨by omega, by omega⟩
      exact io'.fr f9 fun b hb e => hb.2 e
    rintro _ h13 ⟨b12, so, rfl, hb12, k12, io, g13⟩
    have s13 := g13.size
    have x13 := x5.grow g13
    have F13 : Fr (fun b => Mut (lab b)) h h13 := F5.trans (toM g13)
    have k2_13 := g13.blk K2' fun h => h
    have k1_13 := g13.blk K1' fun h => h
    have bb12 : b12 < h13.size := k12.lt
    have l12 : lab b12 = .no := x.out _ (by omega)
    -- at last
    have fin : ∀ (lab' : Nat → Lb) (tg' : Int) h20, Fr (fun b => Mut (lab b)) h h20 → (∀ b, b < h13.size → lab' b = lab b) → HpAt lab' h20 hp (borrowS S j pa tg uq).1 s bs → (borrowS S j pa tg uq).2 = .ok tg' → blk h20 b12 (pvs j so tg') → blk h20 h1.size (pvs 0 ⟨none, 0, 0⟩ 0) → IntsC (fun b => h5.size ≤ b ∧ b ≠ b12 ∧ b < h13.size) h20 so pa →
        ∃ (y75 : Int) (y75_1 : Sv) (y75_2 : Int), cl h20 ⟨b12, 0, none⟩ = some (.int .i64 y75) ∧ cl h20 ((⟨b12, 0, none⟩ : Addr).add 1) = some (.slice y75_1.a y75_1.n y75_1.c) ∧ cl h20 ((⟨b12, 0, none⟩ : Addr).add 2) = some (.int .i64 y75_2) ∧
          stoA h20 ⟨h1.size, 0, none⟩ [.int .i64 y75, .slice y75_1.a y75_1.n y75_1.c, .int .i64 y75_2] fun h21 =>
          ∃ (y_6 : Int) (y_7 : Sv) (y_8 : Int), cl h21 ⟨h1.size, 0, none⟩ = some (.int .i64 y_6) ∧ cl h21 ((⟨h1.size, 0, none⟩ : Addr).add 1) = some (.slice y_7.a y_7.n y_7.c) ∧ cl h21 ((⟨h1.size, 0, none⟩ : Addr).add 2) = some (.int .i64 y_8) ∧
          (∃ lab', Fr (fun b => Mut (lab b)) h h21 ∧ (∀ b, b < h.size → lab' b = lab b) ∧ HpAt lab' h21 hp (borrowS S j pa tg uq).1 s bs ∧ match (borrowS S j pa tg uq).2 with
            | .error f => Value.tuple #[Value.agg #[.int .i64 y_6, .slice y_7.a y_7.n y_7.c, .int .i64 y_8], .int .i64 0] = .tuple #[.agg (pvs 0 ⟨none, 0, 0⟩ 0), .int .i64 f]
            | .ok tg' => ∃ so, Value.tuple #[Value.agg #[.int .i64 y_6, .slice y_7.a y_7.n y_7.c, .int .i64 y_8], .int .i64 0] = .tuple #[.agg (pvs j so tg'), .int .i64 0] ∧ IntsC (Till lab' h.size) h21 so pa) := by
      intro lab' tg' h20 F20 L20 x20 e20 k20 k2_20 io20
      refine rdPt k20 (stoPt (al := j) (sp := so) (tg := tg') k2_20 rfl fun h21 k21 f21 => rdPt k21 ⟨lab', F20.trans' f21 (fun i hi e => by have := f1.size; omega), fun b hb => L20 b (by omega), x20.fr f21 (fun b hb => by rw [hb, L20 _ (by omega)]; exact l2), ?_⟩)
      rw [e20]
      refine ⟨so, rfl, (io20.fr f21 fun b hb e => by omega).weak fun b hb _ => .inr ⟨by omega, ?_⟩⟩
      rw [L20 b hb.2.2]
      exact x.out b (by omega)
    have io13 : IntsC (fun b => h5.size ≤ b ∧ b ≠ b12 ∧ b < h13.size) h13 so pa := io.weak fun b hb hs => ⟨hb.1, hb.2, hs⟩
    have hbor : borrowS S j pa tg uq = if S'.watch = true then ({ S' with tags := S'.tags + 1, l := S'.l.set j { S'.l[j] with st := S'.l[j].st ++ [⟨S'.tags + 1, pa, uq⟩] } }, .ok (S'.tags + 1)) else (S', .ok 0) := by
      unfold borrowS
      rw [e]
      dsimp only
      rw [Int.toNat_natCast, List.getElem?_eq_getElem hj2]
    refine ⟨fun h20 => ∃ lab' tg', Fr (fun b => Mut (lab b)) h h20 ∧ (∀ b, b < h13.size → lab' b = lab b) ∧ HpAt lab' h20 hp (borrowS S j pa tg uq).1 s bs ∧ (borrowS S j pa tg uq).2 = .ok tg' ∧ blk h20 b12 (pvs j so tg') ∧ blk h20 h1.size (pvs 0 ⟨none, 0, 0⟩ 0) ∧ IntsC (fun b => h5.size ≤ b ∧ b ≠ b12 ∧ b < h13.size) h20 so pa, ?_, ?_⟩
    rotate_left
    · rintro h20 ⟨lab', tg', a1, a2, a3, a4, a5, a6, a7⟩
      exact fin lab' tg' h20 a1 a2 a3 a4 a5 a6 a7
    refine ⟨_, rfl, S'.watch, by rw [add_plain, x13.hd.cl]; rfl, fun hwt => ?_, fun hwf => ?_⟩
    rotate_left
    · rw [hwf] at hbor
      rw [hbor]
      exact ⟨lab, 0, F13, fun _ _ => rfl, x13, rfl, k12, k2_13, io13⟩
    rw [if_pos hwt] at hbor
    rw [hbor]
    -- the tags
    refine ⟨_, rfl, ldI_i (x := S'.tags) (by rw [add_plain, x13.hd.cl]; rfl) ⟨_, rfl, ?_⟩⟩
    rw [add_plain, wrap64_id (by omega) (by omega)]
    refine sto_i x13.hd (by simp) ?_
    have K14 : blk (sc h13 ⟨hp, 0 + 1, none⟩ (.int .i64 (S'.tags + 1))) hp (hps s (S'.tags + 1) S'.live S'.most S'.watch) := x13.hd.sc 1 _
    have f14 : Fr (fun b => b = hp) h13 (sc h13 ⟨hp, 0 + 1, none⟩ (.int .i64 (S'.tags + 1))) := Fr.scb _ _ _ _
    have s14 := f14.size
    generalize sc h13 ⟨hp, 0 + 1, none⟩ (.int .i64 (S'.tags + 1)) = h14 at *
    have x14 : HpAt lab h14 hp { S' with tags := S'.tags + 1, live := S'.live } s bs := x13.hdr f14 K14
    have hhp : hp < h.size := x.hd.lt
    have hhm : Mut (lab hp) := by rw [x.lhp]; exact ⟨Lb.noConfusion, Lb.noConfusion⟩
    have k12_14 := f14.blk k12 (by omega)
    refine ⟨_, rfl, ldI_i (x := S'.tags + 1) (by rw [add_plain, K14.cl]; rfl) ?_⟩
    rw [add_plain]
    refine sto_i k12_14 (by simp) ?_
    have K15 : blk (sc h14 ⟨b12, 0 + 2, none⟩ (.int .i64 (S'.tags + 1))) b12 (pvs j so (S'.tags + 1)) := k12_14.sc 2 _
    have f15 : Fr (fun b => b = b12) h14 (sc h14 ⟨b12, 0 + 2, none⟩ (.int .i64 (S'.tags + 1))) := Fr.scb _ _ _ _
    have s15 := f15.size
    generalize sc h14 ⟨b12, 0 + 2, none⟩ (.int .i64 (S'.tags + 1)) = h15 at *
    have x15 := x14.fr f15 fun b hb => by rw [hb]; exact l12
    have F15 : Fr (fun b => Mut (lab b)) h h15 := (F13.trans' f14 fun i _ e => by rw [e]; exact hhm).trans' f15 fun i hi e => by omega
    have k1_15 := f15.blk (f14.blk k1_13 (by omega)) (by omega)
    have k2_15 := f15.blk (f14.blk k2_13 (by omega)) (by omega)
    have io15 := (io13.fr f14 fun b hb e => by omega).fr f15 fun b hb e => hb.2.1 e
    obtain ⟨lb, hfew, v, u, kb, hva, zs, ezs, o, lo, hz⟩ := x15.bx j hj hj2
    have hzl : zs.length = S'.l[j].st.length := by rw [← ezs, List.length_map]
    have hun : u.n = zs.length := by have := o.len; rw [c3_len] at this; simp at this; omega
    have hzb : zs.length ≤ 1000000 := by
      rw [hzl]
      have hus : ∃ S1, useS S j pa tg uq = .ok S1 ∧ S1 = S' := by
        unfold useGet at e
        split at e
        · cases e
        · rename_i S1 h1
          simp only [Prod.mk.injEq] at e
          exact ⟨S1, h1, e.1⟩
      obtain ⟨S1, e1, rfl⟩ := hus
      exact useS_st e1 hst _ (List.getElem_mem hj2)
    refine ⟨fun h' => Grow h15 h', Fr.refl _ _, _, rfl, _, rfl, ldS_i (s := sp) (by rw [k1_15.cl]; rfl) ⟨u, fun h' hs => by rw [add_plain, (hs.blk kb fun h => h).cl]; rfl, S'.tags + 1, fun h' hs => by rw [add_plain, (hs.blk x15.hd fun h => h).cl]; rfl, ?_⟩⟩
    have hps15' : IntsAt h15 sp pa := by
      have : IntsC (fun b => ¬ Mut (lab b) ∧ b < h5.size) h5 sp pa := hps5.weak fun b hb hs => ⟨hb, hs⟩
      exact (((this.fr g13 fun _ _ h => h).fr f14 fun b hb e => hb.1 (by rw [e]; exact hhm)).fr f15 fun b hb e => by omega).ints
    refine cal_of (cloneI_spec hps15' hpl) ?_
    rintro _ h16 ⟨f16, s68, rfl, i16⟩
    have s16 := f16.size
    refine ⟨s68, rfl, f16, ?_⟩
    refine app1q (vs := hvs ⟨S'.tags + 1, s68, uq⟩) (z := (Value.agg #[Value.int .i64 0, .slice (⟨none, 0, 0⟩ : Sv).a (⟨none, 0, 0⟩ : Sv).n (⟨none, 0, 0⟩ : Sv).c, .bool false]).cells) rfl (o.frame f16 fun _ _ h => h) rfl (one_hv _) (Nat.zero_le _) (by omega) (by omega) (fun h' g => f16.trans g) ?_
    intro s72 h18 e1 o18 f18 e3
    have s18 := f18.size
    have nb : ¬ u.own bs[j] := fun hb => by have := lo _ hb; rw [lb] at this; cases this
    refine ⟨_, rfl, ?_⟩
    dsimp only
    rw [add_plain]
    have kb18 := f18.blk (f16.blk kb fun h => h) nb
    refine sto_i kb18 (by simp) ?_
    have K19 := kb18.sc (0 + 8) (.slice s72.a s72.n s72.c)
    have f19 : Fr (fun b => b = bs[j]) h18 (sc h18 ⟨bs[j], 0 + 8, none⟩ (.slice s72.a s72.n s72.c)) := Fr.scb _ _ _ _
    have s19 := f19.size
    generalize sc h18 ⟨bs[j], 0 + 8, none⟩ (.slice s72.a s72.n s72.c) = h19 at *
    have bbj : bs[j] < h15.size := kb.lt
    let lab' : Nat → Lb := fun b => if b < h15.size then lab b else if b < h16.size then .q else if b < h19.size then .st j else .no
    have L0 : ∀ b, b < h15.size → lab' b = lab b := fun b hb => if_pos hb
    have L1 : ∀ b, h15.size ≤ b → b < h16.size → lab' b = .q := fun b h1 h2 => by
      show (if b < h15.size then lab b else _) = _
      rw [if_neg (by omega), if_pos h2]
    have L2 : ∀ b, h16.size ≤ b → b < h19.size → lab' b = .st j := fun b h1 h2 => by
      show (if b < h15.size then lab b else _) = _
      rw [if_neg (by omega), if_neg (by omega), if_pos h2]
    have L3 : ∀ b, h19.size ≤ b → lab' b = .no := fun b h1 => by
      show (if b < h15.size then lab b else _) = _
      rw [if_neg (by omega), if_neg (by omega), if_neg (by omega)]
    have F19 : Fr (fun b => u.own b ∨ b = bs[j]) h15 h19 := ((f16.mono fun _ _ h => h.elim).trans' f18 fun i _ e => .inl e).trans' f19 fun i _ e => .inr e
    have lT : ∀ b, (u.own b ∨ b = bs[j]) → Fam j (lab b) := by
      rintro b (hb | rfl)
      · exact .inr (.inl (lo b hb))
      · exact .inl lb
    have mT : ∀ b, (u.own b ∨ b = bs[j]) → Mut (lab b) := by
      rintro b (hb | rfl)
      · rw [lo b hb]; exact ⟨Lb.noConfusion, Lb.noConfusion⟩
      · rw [lb]; exact ⟨Lb.noConfusion, Lb.noConfusion⟩
    have nT : ∀ b, lab b = .no → ¬ (u.own b ∨ b = bs[j]) := fun b hb e => (mT b e).1 hb
    refine ⟨lab', S'.tags + 1, F15.trans' F19 fun i _ e => mT i e, fun b hb => L0 b (by omega), ?_, rfl, F19.blk K15 (nT _ l12), F19.blk k2_15 (nT _ l2), io15.fr F19 fun b hb => nT b (x.out b (by omega))⟩
    refine x15.set (lab' := lab') (a' := { S'.l[j] with st := S'.l[j].st ++ [⟨S'.tags + 1, pa, uq⟩] }) F19 (fun b hb _ => .inl (lT b hb)) (fun b hb _ => L0 b hb) hj ⟨by rw [L0 _ bbj]; exact lb, hfew, v, s72, K19, ?_, zs ++ [(⟨S'.tags + 1, s68, uq⟩, ⟨S'.tags + 1, pa, uq⟩)], ?_, ?_, fun b hb => ?_, fun z hzm => ?_⟩ L3
    · refine vTo hva F19 (fun b hb e => ?_) fun b hb _ => L0 b hb
      rcases lT b e with h | h | ⟨σ', h⟩
      · rcases hb with ⟨σ, hb⟩ | hb <;> rw [hb] at h <;> cases h
      · rcases hb with ⟨σ, hb⟩ | hb <;> rw [hb] at h <;> cases h
      · rcases e with e | e
        · have := lo b e; rw [h] at this; cases this
        · rw [e, lb] at h; cases h
    · rw [List.map_append, ezs]; rfl
    · have : c3 ((zs ++ [((⟨S'.tags + 1, s68, uq⟩ : Hr), (⟨S'.tags + 1, pa, uq⟩ : Hd))]).map (·.1)) = c3 (zs.map (·.1)) ++ (hvs ⟨S'.tags + 1, s68, uq⟩).toList := by
        rw [List.map_append, c3_app]; simp [c3]
      rw [this]
      refine o18.frame f19 fun b hb e => ?_
      rcases e3 b hb with h | h
      · rw [e] at h; exact nb h
      · omega
    · rcases e3 b hb with h | h
      · rw [L0 b (o.ge h).2]; exact lo b h
      · exact L2 b h (by have := (o18.ge hb).2; omega)
    · rcases List.mem_append.1 hzm with hm | hm
      · obtain ⟨q0, q1, q2, q3⟩ := hz z hm
        have q2' : IntsC (fun b => lab b = .q ∧ b < h15.size) h15 z.1.s z.2.pa := q2.weak fun b hb hs => ⟨hb, hs⟩
        refine ⟨q0, q1, (q2'.fr F19 fun b hb e => (mT b e).2 hb.1).weak fun b hb _ => ?_, q3⟩
        rw [L0 b hb.2]; exact hb.1
      · simp only [List.mem_cons, List.not_mem_nil, or_false] at hm
        subst hm
        have i16' : IntsC (fun b => h15.size ≤ b ∧ b < h16.size) h16 s68 pa := i16.weak fun b hb hs => ⟨hb, hs⟩
        refine ⟨rfl, rfl, ((i16'.fr f18 fun b hb e => by have := (o.ge e).2; omega).fr f19 fun b hb e => by omega).weak fun b hb _ => L1 b hb.1 hb.2, hpl⟩
end
end Go.Proofs.Ytggacajnmgligaa

/-
  A part written anew, its blocks told anew.
-/
import Derived.Test.YtggacajnmgligaaH11
namespace Go.Proofs.Ytggacajnmgligaa
open Go Go.Lf
set_option linter.unusedVariables false

section
variable {Q Q' : Nat → Prop} {h h' : Heap}
theorem put_at2 : ∀ {π : List Nat} {t y x : Vl} {A A' : List Nat → Nat → Prop} {p0 p : Addr} {v u : Vv}, Pl h p0 π p → Vv7 h p0 v → VAt true Q h t A v → getN t π = some y →
    (∀ σ b, A σ b → b ≠ p0.block) → (∀ σ σ' b, A σ b → A σ' b → σ = σ') → (∀ b, Q b → ∀ σ, ¬ A σ b) → (∀ b, Q b → b ≠ p0.block) → (∀ b, Q b → Q' b) → (∀ σ b, A σ b → ¬ π <+: σ → A' σ b) →
    Fr (fun b => b = p.block) h h' → Vv7 h' p u → (∀ i, (∀ k, k < 7 → i ≠ p.off + k) → ∀ w, cl h ⟨p.block, i, none⟩ = some w → cl h' ⟨p.block, i, none⟩ = some w) → (∀ cs, blk h p.block cs → ∃ cs', blk h' p.block cs' ∧ cs'.size = cs.size) →
    VAt true Q' h' x (fun σ => A' (π ++ σ)) u → ∃ v', Vv7 h' p0 v' ∧ VAt true Q' h' (putV t π x) A' v' ∧ (π ≠ [] → v' = v) ∧ (π = [] → v' = u)
  | [], t, y, x, A, A', p0, p, v, u, hp, hv, ht, hg, d1, d2, d3, d4, d5, d6, f, hu, hout, hblk, hx => by
    obtain rfl : p = p0 := hp
    exact ⟨u, hu, hx, fun h => absurd rfl h, fun _ => rfl⟩
  | j :: π, .mk k n nm ts al pa tg, y, x, A, A', p0, p, v, u, hp, hv, ht, hg, d1, d2, d3, d4, d5, d6, f, hu, hout, hblk, hx => by
    have hpl := hp.at_ hv ht hg
    obtain ⟨s, q, c, e, hp'⟩ := hp
    obtain ⟨e1, e2, e3, e4, e5, e6, e7, e8⟩ := vAt_iff.1 ht
    unfold getN at hg
    split at hg
    rotate_left
    · cases hg
    rename_i u0 hu0
    obtain ⟨hj, rfl⟩ := List.getElem?_eq_some_iff.1 hu0
    obtain ⟨q', u', r1, r2, r3, r4, r5⟩ := e8 j hj
    have c' : cl h (p0.add 3) = some (.slice v.ps.a v.ps.n v.ps.c) := hv 3 _ rfl
    rw [c] at c'
    simp only [Option.some.injEq, Value.slice.injEq] at c'
    rw [e, r1] at c'
    obtain rfl : q = q' := by simpa using c'.1
    obtain ⟨τ0, l1, l2, l3⟩ : ∃ τ : List Nat, τ.length < (j :: π).length ∧ A τ p.block ∧ τ = (j :: π).dropLast := by
      obtain ⟨_, _, _, g3⟩ := hpl
      rcases g3 with ⟨h, _⟩ | ⟨τ, a, b, c⟩
      · cases h
      · exact ⟨τ, a, b, c⟩
    have hpb : p.block ≠ p0.block := d1 _ _ l2
    have hv' : Vv7 h' p0 v := hv.fr f fun h => hpb h.symm
    obtain ⟨s1, s2, cs, s3, s4⟩ := r3 rfl
    have hpu : putV (.mk k n nm ts al pa tg) (j :: π) x = .mk k n nm (ts.set j (putV ts[j] π x)) al pa tg := by
      conv => lhs; unfold putV
      rw [hu0]
    obtain ⟨w, w1, w2, w3, w4⟩ := put_at2 (π := π) (x := x) (A := shA A j) (A' := shA A' j) hp' r4 r5 hg (fun σ b hb hbq => by
        rw [add_block] at hbq
        rw [hbq] at hb
        have := d2 _ _ _ hb r2
        cases this) (fun σ σ' b a b' => by have := d2 _ _ _ a b'; simpa using this) (fun b hb σ => d3 b hb _) (fun b hb hbq => by rw [add_block] at hbq; rw [hbq] at hb; exact d3 _ hb _ r2) d5
        (fun σ b hb hpre => d6 _ b hb fun h => hpre (by simpa using h)) f hu hout hblk hx
    refine ⟨v, hv', ?_, fun _ => rfl, fun h => (by cases h)⟩
    rw [hpu]
    refine vAt_iff.2 ⟨e1, e2, e3, e4, e5, (e6.fr f fun b hb h => d3 b hb _ (h ▸ l2)).weak fun b hb _ => d5 b hb, by rw [List.length_set]; exact e7, fun i hi => ?_⟩
    have hi' : i < ts.length := by rw [List.length_set] at hi; exact hi
    have hrow : ∃ cs', blk h' q.block cs' ∧ cs'.size = cs.size := by
      by_cases hpq : p.block = q.block
      · obtain ⟨cs', b1, b2⟩ := hblk cs (hpq ▸ s3)
        exact ⟨cs', hpq ▸ b1, b2⟩
      · exact ⟨cs, f.blk s3 fun h => hpq h.symm, rfl⟩
    obtain ⟨cs', b1, b2⟩ := hrow
    obtain ⟨qi, ui, t1, t2, t3, t4, t5⟩ := e8 i hi'
    rw [r1] at t1
    obtain rfl : q = qi := by simpa using t1
    have hsz : (i + 1) * 7 ≤ cs'.size := by
      obtain ⟨-, -, cs2, y3, y4⟩ := t3 rfl
      obtain ⟨E1, z1⟩ := s3
      obtain ⟨E2, z2⟩ := y3
      rw [z1] at z2
      simp only [Option.some.injEq, Obj.cells.injEq] at z2
      rw [b2, z2.1]; exact y4
    have hA0 : A' [] q.block := d6 _ _ r2 (by simp)
    by_cases hij : i = j
    · subst hij
      refine ⟨q, w, r1, hA0, fun _ => ⟨s1, s2, cs', b1, hsz⟩, w1, ?_⟩
      rw [List.getElem_set_self]
      exact w2
    · refine ⟨q, ui, r1, hA0, fun _ => ⟨s1, s2, cs', b1, hsz⟩, ?_, ?_⟩
      · by_cases hpq : p.block = q.block
        · have hτ : τ0 = [] := d2 _ _ _ l2 (hpq ▸ r2)
          have hπ : π = [] := by
            rw [hτ] at l3
            cases π with
            | nil => rfl
            | cons a π => simp at l3
          subst hπ
          obtain rfl : p = q.add (j * 7) := hp'
          intro m z hz
          have hm : m < 7 := (Array.getElem?_eq_some_iff.1 hz).1
          have h0 := t4 m z hz
          obtain ⟨qb, qo, qs⟩ := q
          simp only at s1 s2
          subst s1 s2
          rw [add_plain, add_plain] at h0 ⊢
          simp only [add_plain, Nat.zero_add] at hout h0 ⊢
          refine hout _ (fun k hk => ?_) z h0
          rcases Nat.lt_or_ge i j with h | h
          · have := Nat.mul_le_mul_right 7 (show i + 1 ≤ j from h)
            omega
          · have := Nat.mul_le_mul_right 7 (show j + 1 ≤ i by omega)
            omega
        · exact t4.fr f (by rw [add_block]; exact fun h => hpq h.symm)
      · rw [List.getElem_set_ne (fun h => hij h.symm)]
        refine (t5.fr f (fun b hb h => d3 b hb _ (h ▸ l2)) fun σ b hb h => ?_).weak (fun b hb _ => d5 b hb) (fun h => h) fun σ b hb _ => d6 _ b hb fun hpre => ?_
        · rw [h] at hb
          have := d2 _ _ _ hb l2
          rw [l3] at this
          cases π with
          | nil => simp at this
          | cons a π =>
            simp at this
            exact hij this.1
        · simp at hpre
          exact hij hpre.1.symm
/-- where a part lies -/
theorem Pl.cell : ∀ {π : List Nat} {t y : Vl} {A : List Nat → Nat → Prop} {p0 p : Addr} {v : Vv}, Pl h p0 π p → Vv7 h p0 v → VAt true Q h t A v → getN t π = some y → π ≠ [] →
    ∃ g i cs, p = ⟨g, i * 7, none⟩ ∧ blk h g cs ∧ (i + 1) * 7 ≤ cs.size
  | [], t, y, A, p0, p, v, hp, hv, ht, hg, hne => absurd rfl hne
  | j :: π, .mk k n nm ts al pa tg, y, A, p0, p, v, hp, hv, ht, hg, hne => by
    obtain ⟨s, q, c, e, hp'⟩ := hp
    obtain ⟨e1, e2, e3, e4, e5, e6, e7, e8⟩ := vAt_iff.1 ht
    unfold getN at hg
    split at hg
    · rename_i u hu
      obtain ⟨hj, rfl⟩ := List.getElem?_eq_some_iff.1 hu
      obtain ⟨q', u', r1, r2, r3, r4, r5⟩ := e8 j hj
      have c' : cl h (p0.add 3) = some (.slice v.ps.a v.ps.n v.ps.c) := hv 3 _ rfl
      rw [c] at c'
      simp only [Option.some.injEq, Value.slice.injEq] at c'
      rw [e, r1] at c'
      obtain rfl : q = q' := by simpa using c'.1
      by_cases hπ : π = []
      · subst hπ
        obtain rfl : p = q.add (j * 7) := hp'
        obtain ⟨s1, s2, cs, s3, s4⟩ := r3 rfl
        obtain ⟨qb, qo, qs⟩ := q
        simp only at s1 s2
        subst s1 s2
        exact ⟨qb, j, cs, by rw [add_plain, Nat.zero_add], s3, s4⟩
      · exact Pl.cell hp' r4 r5 hg hπ
    · cases hg
theorem few_put : ∀ (π : List Nat) (t x : Vl), few t → few x → few (putV t π x)
  | [], t, x, ht, hx => hx
  | j :: π, .mk k n nm ts al pa tg, x, ht, hx => by
    obtain ⟨h1, h2, h3⟩ := few_mk.1 ht
    unfold putV
    split
    · rename_i u hu
      refine few_mk.2 ⟨by simpa using h1, h2, fun a ha => ?_⟩
      rcases List.mem_or_eq_of_mem_set ha with ha | rfl
      · exact h3 a ha
      · exact few_put π u x (h3 u (List.mem_of_getElem? hu)) hx
    · exact few_mk.2 ⟨h1, h2, h3⟩
end
section
variable {lab lab' : Nat → Lb} {h : Heap} {hp : Nat} {S : Hs} {s : Sv} {bs : List Nat}
open Classical in
/-- the blocks of a part are nobody's now -/
noncomputable def cutLab (lab : Nat → Lb) (j : Nat) (π : List Nat) : Nat → Lb := fun b => match lab b with
  | .pt i σ => if i = j ∧ π <+: σ then .q else .pt i σ
  | l => l
theorem cut_pt {j b : Nat} {π σ : List Nat} (h : lab b = .pt j (π ++ σ)) : cutLab lab j π b = .q := by
  unfold cutLab
  rw [h]
  exact if_pos ⟨rfl, List.prefix_append _ _⟩
theorem cut_not {j b : Nat} {π : List Nat} (h : ∀ σ, lab b = .pt j σ → ¬ π <+: σ) : cutLab lab j π b = lab b := by
  unfold cutLab
  split
  · rename_i i σ e
    rw [if_neg (fun hij => h σ (by rw [e, hij.1]) hij.2), e]
  · rfl
/-- one allocation, and labels for what had none -/
theorem HpAt.set3 (x : HpAt lab h hp S s bs) {T : Nat → Prop} {h' : Heap} {i : Nat} {a' : Al} (f : Fr T h h') (hT : ∀ b, T b → b < h.size → Fam i (lab b) ∨ lab b = .no) (hl : ∀ b, b < h.size → lab b ≠ .no → ¬ Fam i (lab b) → lab' b = lab b)
    (hi : i < bs.length) (nb : BxAt lab' h' i bs[i] a') (hn : ∀ b, h'.size ≤ b → lab' b = .no) : HpAt lab' h' hp { S with l := S.l.set i a' } s bs := by
  have hnT : ∀ b, b < h.size → ¬ Fam i (lab b) → lab b ≠ .no → ¬ T b := fun b hb h1 h2 ht => (hT b ht hb).elim h1 h2
  have n0 : lab hp ≠ .no := by rw [x.lhp]; exact Lb.noConfusion
  have n1 : ¬ Fam i (lab hp) := by rw [x.lhp]; rintro (h | h | ⟨σ, h⟩) <;> cases h
  have n2 : ∀ b, s.own b → ¬ Fam i (lab b) := fun b hb => by rw [x.lal b hb]; rintro (h | h | ⟨σ, h⟩) <;> cases h
  have n3 : ∀ b, s.own b → lab b ≠ .no := fun b hb => by rw [x.lal b hb]; exact Lb.noConfusion
  refine ⟨f.blk x.hd (hnT _ x.hd.lt n1 n0), by rw [hl _ x.hd.lt n0 n1]; exact x.lhp, by simpa using x.len, x.al.frame f fun b hb => hnT b (x.al.ge hb).2 (n2 b hb) (n3 b hb),
    fun b hb => by rw [hl b (x.al.ge hb).2 (n3 b hb) (n2 b hb)]; exact x.lal b hb, fun j h1 h2 => ?_, hn⟩
  by_cases hj : i = j
  · subst hj
    simp only [List.getElem_set_self]
    exact nb
  · simp only [List.getElem_set_ne hj]
    have h2' : j < S.l.length := by simpa using h2
    have hfam : ∀ c, Fam j (lab c) ∨ lab c = .q → ¬ Fam i (lab c) ∧ lab c ≠ .no := by
      intro c hc
      rcases hc with (hc | hc | ⟨σ, hc⟩) | hc <;> rw [hc] <;> refine ⟨?_, Lb.noConfusion⟩ <;> rintro (h | h | ⟨σ', h⟩) <;> cases h <;> exact hj rfl
    have hb := x.bx j h1 h2'
    have hsz : ∀ c, Fam j (lab c) ∨ lab c = .q → c < h.size := fun c hc => by
      rcases Nat.lt_or_ge c h.size with h | h
      · exact h
      · have := x.out c h
        rw [this] at hc
        rcases hc with (hc | hc | ⟨σ, hc⟩) | hc <;> cases hc
    exact hb.to f (fun c hc => hnT c (hsz c hc) (hfam c hc).1 (hfam c hc).2) fun c h1 hc => hl c h1 (hfam c hc).2 (hfam c hc).1
theorem not_pre {π : List Nat} (h : π ≠ []) : ¬ π <+: π.dropLast := fun e => by
  have h1 := e.length_le
  rw [List.length_dropLast] at h1
  have : 0 < π.length := List.length_pos_iff.2 h
  omega
/-- a value in blocks that are nobody's -/
def Quiet (lab : Nat → Lb) (h : Heap) (t : Vl) (u : Vv) : Prop := VAt false (fun b => lab b = .q) h t (anyA fun b => lab b = .q) u
theorem Quiet.calm {t : Vl} {u : Vv} (x : Quiet lab h t u) : Calm lab h t u := x.weak (fun b hb _ => by rw [hb]; exact fun h => h.2 rfl) (fun h => h) fun σ b hb _ => by
  have hb' : lab b = .q := hb
  show ¬ Mut (lab b)
  rw [hb']; exact fun h => h.2 rfl
/-- a part of an allocation written -/
theorem part_sto (x : HpAt lab h hp S s bs) {j : Nat} (hj : j < bs.length) (hj2 : j < S.l.length) {π : List Nat} {p : Addr} {y xv : Vl} {u uo : Vv} (hpl : Pl h ⟨bs[j], 1, none⟩ π p) (hg : getN S.l[j].v π = some y)
    (hl : ∀ b, lab b ≠ .no → lab' b = cutLab lab j π b) (hn : ∀ b, h.size ≤ b → lab' b = .no)
    (hfx : few xv) (hx : VAt true (fun c => lab' c = .q) h xv (fun σ c => lab' c = .pt j (π ++ σ)) u) (huo : VAt true (fun c => lab c = .q) h y (fun σ c => lab c = .pt j (π ++ σ)) uo)
    {K : Heap → Prop} (k : ∀ h', Fr (fun c => c = p.block) h h' → Mut (lab p.block) → HpAt lab' h' hp { S with l := S.l.set j { S.l[j] with v := putV S.l[j].v π xv } } s bs → Quiet lab' h' y uo → K h') : stoA h p (vvs u).toList K := by
  obtain ⟨lb, hfew, v, st, kb, hva, hst⟩ := x.bx j hj hj2
  have hpb : (π = [] ∧ lab p.block = .bx j) ∨ (π ≠ [] ∧ lab p.block = .pt j π.dropLast) := by
    by_cases hπ : π = []
    · subst hπ
      obtain rfl : p = _ := hpl
      exact .inl ⟨rfl, lb⟩
    · obtain ⟨_, _, _, g3⟩ := hpl.at_ (bx7 kb) hva hg
      rcases g3 with ⟨h, _⟩ | ⟨τ, a, b, c⟩
      · exact absurd h hπ
      · exact .inr ⟨hπ, by rw [← c]; exact b⟩
  have hpno : lab p.block ≠ .no := by rcases hpb with ⟨_, h⟩ | ⟨_, h⟩ <;> rw [h] <;> exact Lb.noConfusion
  have hpfam : Fam j (lab p.block) := by
    rcases hpb with ⟨_, h⟩ | ⟨_, h⟩
    · exact .inl h
    · exact .inr (.inr ⟨_, h⟩)
  have hpm : Mut (lab p.block) := ⟨hpno, by rcases hpb with ⟨_, h⟩ | ⟨_, h⟩ <;> rw [h] <;> exact Lb.noConfusion⟩
  have hp' : lab' p.block = lab p.block := by
    rw [hl _ hpno]
    refine cut_not fun σ e => ?_
    rcases hpb with ⟨_, h⟩ | ⟨h0, h⟩
    · rw [h] at e; cases e
    · rw [h] at e
      simp only [Lb.pt.injEq, true_and] at e
      rw [← e]; exact not_pre h0
  have lb' : lab' bs[j] = .bx j := by
    rw [hl _ (by rw [lb]; exact Lb.noConfusion), cut_not fun σ e => (by rw [lb] at e; cases e)]; exact lb
  have lq : ∀ b, lab b = .q → lab' b = .q := fun b hb => by
    rw [hl _ (by rw [hb]; exact Lb.noConfusion), cut_not fun σ e => (by rw [hb] at e; cases e)]; exact hb
  -- nothing of the parts is where it is written
  have n1 : ∀ c, lab' c = .q → c ≠ p.block := fun c hc e => by rw [e, hp'] at hc; exact hpm.2 hc
  have n2 : ∀ σ c, lab' c = .pt j (π ++ σ) → c ≠ p.block := fun σ c hc e => by
    rw [e, hp'] at hc
    rcases hpb with ⟨_, h⟩ | ⟨h0, h⟩
    · rw [h] at hc; cases hc
    · rw [h] at hc
      simp only [Lb.pt.injEq, true_and] at hc
      exact not_pre h0 (hc ▸ List.prefix_append _ _)
  have n3 : ∀ σ c, lab c = .pt j (π ++ σ) → c ≠ p.block := fun σ c hc e => by
    rw [e] at hc
    rcases hpb with ⟨_, h⟩ | ⟨h0, h⟩
    · rw [h] at hc; cases hc
    · rw [h] at hc
      simp only [Lb.pt.injEq, true_and] at hc
      exact not_pre h0 (hc ▸ List.prefix_append _ _)
  have calm : ∀ h', Fr (fun c => c = p.block) h h' → Quiet lab' h' y uo := fun h' f => by
    refine (huo.fr f (fun c hc e => hpm.2 (by rw [← e]; exact hc)) fun σ c hc e => n3 σ c hc e).weak (fun c hc _ => lq c hc) (fun h => (by cases h)) fun σ c hc _ => ?_
    show lab' c = .q
    rw [hl _ (by rw [hc]; exact Lb.noConfusion), cut_pt hc]
  have fin : ∀ h' v', Fr (fun c => c = p.block) h h' → blk h' bs[j] (bxs S.l[j].live v' st) → VAt true (fun c => lab' c = .q) h' (putV S.l[j].v π xv) (fun σ c => lab' c = .pt j σ) v' → K h' := by
    intro h' v' f kb' hv'
    refine k h' f hpm ?_ (calm h' f)
    refine x.set3 (a' := { S.l[j] with v := putV S.l[j].v π xv }) f (fun b hb _ => .inl (by rw [hb]; exact hpfam)) (fun b _ hb hf => ?_) hj ⟨lb', few_put π _ _ hfew hfx, v', st, kb', hv', ?_⟩ fun b hb => hn b (Nat.le_trans f.size hb)
    · rw [hl b hb]
      exact cut_not fun σ e => absurd (.inr (.inr ⟨σ, e⟩)) hf
    · refine hst.to f (fun c hc e => ?_) fun c _ hc => ?_
      · rw [e] at hc
        rcases hc with hc | hc
        · rcases hpb with ⟨_, h⟩ | ⟨_, h⟩ <;> rw [h] at hc <;> cases hc
        · exact hpm.2 hc
      · rw [hl c (by rcases hc with hc | hc <;> rw [hc] <;> exact Lb.noConfusion)]
        exact cut_not fun σ e => by rcases hc with hc | hc <;> rw [hc] at e <;> cases e
  by_cases hπ : π = []
  · subst hπ
    obtain rfl : p = _ := hpl
    refine stoBx kb fun h' kb' f => fin h' u f kb' ?_
    have e : putV S.l[j].v [] xv = xv := by unfold putV; rfl
    rw [e]
    exact hx.fr f (fun c hc e => n1 c hc e) fun σ c hc e => n2 σ c hc e
  · obtain ⟨g, i, cs, rfl, kg, hsz⟩ := hpl.cell (bx7 kb) hva hg hπ
    refine stoB kg (by show i * 7 + 7 ≤ _; omega) (one_vv u) fun h' cur' k' hs' hin hout f => ?_
    have hgb : bs[j] ≠ g := fun e => by
      rcases hpb with ⟨h, _⟩ | ⟨_, h⟩
      · exact hπ h
      · have h' : lab g = _ := h
        rw [← e, lb] at h'; cases h'
    have c1 : ∀ σ b, lab b = .pt j σ → b ≠ (⟨bs[j], 1, none⟩ : Addr).block := fun σ b hb e => by
      have e' : b = bs[j] := e
      rw [e', lb] at hb; cases hb
    have c2 : ∀ b, lab b = .q → b ≠ (⟨bs[j], 1, none⟩ : Addr).block := fun b hb e => by
      have e' : b = bs[j] := e
      rw [e', lb] at hb; cases hb
    have c3 : ∀ σ b, lab b = .pt j σ → ¬ π <+: σ → lab' b = .pt j σ := fun σ b hb hpre => by
      rw [hl b (by rw [hb]; exact Lb.noConfusion), cut_not fun σ' e => ?_]
      · exact hb
      · rw [hb] at e
        simp only [Lb.pt.injEq, true_and] at e
        rw [← e]; exact hpre
    have c4 : Vv7 h' ⟨g, i * 7, none⟩ u := by
      intro m w hw
      have hm : m < 7 := (Array.getElem?_eq_some_iff.1 hw).1
      rw [add_plain, k'.cl, hin (i * 7 + m) (by omega) (by show _ < i * 7 + 7; omega), Nat.add_sub_cancel_left, Array.getElem?_toList]
      exact hw
    have c5 : ∀ i', (∀ k, k < 7 → i' ≠ (⟨g, i * 7, none⟩ : Addr).off + k) → ∀ w, cl h ⟨g, i', none⟩ = some w → cl h' ⟨g, i', none⟩ = some w := fun i' hi' w hw => by
      rw [k'.cl, hout i' ?_, ← kg.cl]
      · exact hw
      · show i' < i * 7 ∨ i * 7 + 7 ≤ i'
        by_cases h1 : i' < i * 7
        · exact .inl h1
        · by_cases h2 : i * 7 + 7 ≤ i'
          · exact .inr h2
          · exact absurd (by show i' = i * 7 + (i' - i * 7); omega) (hi' (i' - i * 7) (by omega))
    have c6 : ∀ cs2, blk h g cs2 → ∃ cs', blk h' g cs' ∧ cs'.size = cs2.size := fun cs2 hcs2 => by
      refine ⟨cur', k', ?_⟩
      rw [hs']
      obtain ⟨E1, z1⟩ := kg
      obtain ⟨E2, z2⟩ := hcs2
      rw [z1] at z2
      simp only [Option.some.injEq, Obj.cells.injEq] at z2
      rw [z2.1]
    have c7 : VAt true (fun c => lab' c = .q) h' xv (fun σ c => lab' c = .pt j (π ++ σ)) u := hx.fr f (fun c hc e => n1 c hc e) fun σ c hc e => n2 σ c hc e
    obtain ⟨v', w1, w2, w3, -⟩ := put_at2 (Q' := fun c => lab' c = .q) (A := fun σ c => lab c = .pt j σ) (A' := fun σ c => lab' c = .pt j σ) (x := xv) (u := u) hpl (bx7 kb) hva hg c1 (fun σ σ' b a b' => by rw [a] at b'; simpa using b') (fun b hb σ e => by rw [hb] at e; cases e) c2 lq c3 f c4 c5 c6 c7
    refine fin h' v f (f.blk kb hgb) ?_
    rw [← w3 hπ]; exact w2
end
end Go.Proofs.Ytggacajnmgligaa

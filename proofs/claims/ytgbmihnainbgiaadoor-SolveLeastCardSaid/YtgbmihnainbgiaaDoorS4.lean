/-
  Put and Outlives, walked: what is in regions is the least that meets all that was told.
-/
import Derived.Test.YtgbmihnainbgiaaDoorS3
namespace Go.Proofs.YtgbmihnainbgiaaDoor
open Go Go.Lf

/-- a set of regions that meets what was told: `O a b`: a outlives b; `P r e`: e was put into r -/
def ClS (n : Nat) (O P : Nat → Nat → Prop) (e : Nat) (D : Nat → Bool) : Prop := (∀ r, r < n → P r e → D r = true) ∧ ∀ a b, a < n → b < n → O a b → D b = true → D a = true
structure Tol (x : Sh) (O P : Nat → Nat → Prop) (N : Nat) (d : Sd) : Prop where
  tl : d.tl = []
  F : ∀ r, r < x.n → d.F r = false
  ol : ∀ b, b < x.n → ∀ a, a ∈ d.ol b ↔ (a < x.n ∧ O a b)
  ll : ∀ b, b < x.n → (d.ol b).length ≤ N
  cl : ∀ e, e < 64 * x.nw → ClS x.n O P e fun r => d.S r e
  least : ∀ e, e < 64 * x.nw → ∀ D, ClS x.n O P e D → ∀ r, r < x.n → d.S r e = true → D r = true
theorem Tol.congr {x : Sh} {O P O' P' : Nat → Nat → Prop} {N N' : Nat} {d : Sd} (t : Tol x O P N d) (hO : ∀ a b, a < x.n → b < x.n → (O a b ↔ O' a b)) (hP : ∀ r e, r < x.n → (P r e ↔ P' r e)) (hN : N ≤ N') : Tol x O' P' N' d := by
  refine ⟨t.tl, t.F, fun b hb a => (t.ol b hb a).trans ⟨fun h => ⟨h.1, (hO a b h.1 hb).1 h.2⟩, fun h => ⟨h.1, (hO a b h.1 hb).2 h.2⟩⟩, fun b hb => Nat.le_trans (t.ll b hb) hN,
    fun e he => ⟨fun r hr hp => (t.cl e he).1 r hr ((hP r e hr).2 hp), fun a b ha hb ho => (t.cl e he).2 a b ha hb ((hO a b ha hb).2 ho)⟩,
    fun e he D hD => t.least e he D ⟨fun r hr hp => hD.1 r hr ((hP r e hr).1 hp), fun a b ha hb ho => hD.2 a b ha hb ((hO a b ha hb).1 ho)⟩⟩

section
variable {x : Sh} {d : Sd} {h : Heap} {O P : Nat → Nat → Prop} {N : Nat}
/-- what a Put leaves told -/
def putP (x : Sh) (P : Nat → Nat → Prop) (r e : Int) (r' e' : Nat) : Prop := P r' e' ∨ ((r' : Int) = r ∧ (e' : Int) = e ∧ reg x.W e = true)
def outO (O : Nat → Nat → Prop) (a b : Int) (a' b' : Nat) : Prop := O a' b' ∨ ((a' : Int) = a ∧ (b' : Int) = b)

theorem put_nil (h : Heap) (r e : Int) : CallsH Tryd.prog 13 #[.pointer none, .int .i64 r, .int .i64 e] h (fun v h' => h = h' ∧ v = .int .i64 14) := by
  apply F13
  unfold L13
  refine cal_of (region_nil h r) ?_
  rintro _ _ ⟨rfl, rfl⟩
  refine ⟨_, rfl, fun b h' => b = true ∧ h = h', ⟨fun _ => ⟨rfl, rfl⟩, fun e => (by cases e)⟩, ?_⟩
  rintro _ _ ⟨rfl, rfl⟩
  exact ⟨fun _ => ⟨rfl, rfl⟩, fun e => (by cases e)⟩
theorem outlives_nil (h : Heap) (r e : Int) : CallsH Tryd.prog 14 #[.pointer none, .int .i64 r, .int .i64 e] h (fun v h' => h = h' ∧ v = .int .i64 14) := by
  apply F14
  unfold L14
  refine cal_of (region_nil h r) ?_
  rintro _ _ ⟨rfl, rfl⟩
  refine ⟨_, rfl, fun b h' => b = true ∧ h = h', ⟨fun _ => ⟨rfl, rfl⟩, fun e => (by cases e)⟩, ?_⟩
  rintro _ _ ⟨rfl, rfl⟩
  exact ⟨fun _ => ⟨rfl, rfl⟩, fun e => (by cases e)⟩

theorem put_spec (k : SolOk x d h) (t : Tol x O P N d) (hW : x.W ≤ 2700) (hn : x.n ≤ 1501) (hN : N ≤ 100000000) (r e : Int) :
    CallsH Tryd.prog 13 #[.pointer (some ⟨x.bs, 0, none⟩), .int .i64 r, .int .i64 e] h (fun v h' => v = .int .i64 (if (reg x.n r && reg x.W e) = true then 0 else 14) ∧ ∃ d' : Sd, SolOk x d' h' ∧ Tol x O (putP x P r e) N d' ∧
      Fr (fun b => d.w b ≠ 0) h h' ∧ (∀ b, b < h.size → d'.w b = d.w b)) := by
  apply F13
  unfold L13
  refine cal_of (region_spec k r) ?_
  rintro _ _ ⟨rfl, rfl⟩
  refine ⟨_, rfl, fun b h' => b = !(reg x.n r && reg x.W e) ∧ h = h', ⟨fun er => ?_, fun er => ?_⟩, ?_⟩
  · have er : reg x.n r = false := by simpa using er
    exact ⟨by rw [er]; rfl, rfl⟩
  · have er : reg x.n r = true := by simpa using er
    refine cal_of (element_spec k e) ?_
    rintro _ _ ⟨rfl, rfl⟩
    exact ⟨_, rfl, by rw [er]; rfl, rfl⟩
  rintro _ _ ⟨rfl, rfl⟩
  refine ⟨fun eb => ?_, fun eb => ?_⟩
  · have eb : (reg x.n r && reg x.W e) = false := by revert eb; cases (reg x.n r && reg x.W e) <;> simp
    refine ⟨by rw [eb]; rfl, d, k, t.congr (fun _ _ _ _ => Iff.rfl) (fun r' e' hr' => ⟨.inl, fun h => h.resolve_right ?_⟩) (Nat.le_refl _), Fr.refl _ _, fun _ _ => rfl⟩
    rintro ⟨rfl, h2, h3⟩
    rw [h3, reg_nat, decide_eq_true hr'] at eb
    cases eb
  have eb : (reg x.n r && reg x.W e) = true := by simpa using eb
  have e1 := Bool.and_eq_true_iff.1 eb
  obtain ⟨r, rfl, hr⟩ := reg_iff.1 e1.1
  obtain ⟨e, rfl, he⟩ := reg_iff.1 e1.2
  have hnw : e < 64 * x.nw := by unfold Sh.nw; omega
  refine ⟨fun h' => ∃ d' : Sd, SolOk x d' h' ∧ Tol x O (putP x P r e) N d' ∧ Fr (fun b => d.w b ≠ 0) h h' ∧ (∀ b, b < h.size → d'.w b = d.w b), ?_, fun h8 hJ => ⟨by rw [eb]; rfl, hJ⟩⟩
  refine cal_of (has_spec k hW r e) ?_
  rintro _ _ ⟨rfl, rfl⟩
  have hh : hasD x d r e = d.S r e := by simp [hasD, e1.1, e1.2]
  rw [hh]
  have hput : ∀ r' e', r' < x.n → (putP x P r e r' e' ↔ (P r' e' ∨ (r' = r ∧ e' = e))) := by
    intro r' e' _
    unfold putP
    rw [e1.2]
    constructor
    · rintro (h | ⟨h1, h2, _⟩)
      · exact .inl h
      · exact .inr ⟨by omega, by omega⟩
    · rintro (h | ⟨h1, h2⟩)
      · exact .inl h
      · exact .inr ⟨by omega, by omega, rfl⟩
  refine ⟨_, rfl, fun ef => ?_, fun ef => ?_⟩
  · have hf : d.S r e = false := by simpa using ef
    refine nn_i (ldS_i (s := x.tb) (by rw [add_plain]; exact k.ct) (k.get hr ?_))
    rw [div_word (by omega), mod_word]
    obtain ⟨w, cw, hw⟩ := (k.row r hr).cell (k := e / 64) (by omega)
    refine ixS_i rfl (by omega) (by show ((e / 64 : Nat) : Int) < (x.nw : Int); omega) (ldI_i (x := (w.toNat : Int)) (by simpa only [add_plain, Int.toNat_natCast, Nat.zero_add, Nat.mul_one] using cw) ⟨by omega, ?_⟩)
    refine ixS_i rfl (by omega) (by show ((e / 64 : Nat) : Int) < (x.nw : Int); omega) ?_
    have hb : e % 64 < 64 := by omega
    rw [Int.toNat_natCast, Int.toNat_natCast, one_word hb, bitsI_or, add_plain, Nat.zero_add, Nat.mul_one]
    refine (k.row r hr).bit hnw hw fun h5 W5 f5 => ?_
    have k5 := k.setRow hr f5 W5
    refine cal_of (push_spec k5 hr (by dsimp only; rw [t.tl]; simp)) ?_
    rintro _ h6 ⟨d6, k6, eS, eo, es, eF, etl, f6, w6⟩
    dsimp only at eS eo es eF etl f6 w6
    have etl : d6.tl = [r] := by
      rcases etl with q | ⟨_, q⟩
      · rw [q, t.tl]; rfl
      · rw [t.F r hr] at q; cases q
    have g6 : Fr (fun b => d.w b ≠ 0) h h6 := (f5.mono fun i _ q => by rw [q, k.w6 r hr]; omega).trans' f6 fun i _ hi => hi
    refine cal_of (settle_spec k6 hW hn (fun b hb a ha => ((t.ol b hb a).1 (by rw [← eo]; exact ha)).1) (fun b hb => by rw [eo]; exact Nat.le_trans (t.ll b hb) hN) (fun q hq => by rw [etl] at hq; simp at hq; rw [hq]; exact hr)
      (fun q hq hF => ?_) (fun b hb a ha => ?_) (by rw [etl]; simp)) ?_
    · rw [eF] at hF
      dsimp only at hF
      by_cases eq : q = r
      · rw [etl, eq]; simp
      · rw [if_neg eq, t.F q hq] at hF; cases hF
    · rw [etl]
      by_cases eq : b = r
      · exact .inl (by simp [eq])
      · refine .inr fun e' he' hS => ?_
        rw [eS] at hS ⊢
        dsimp only at hS ⊢
        rw [if_neg eq] at hS
        rw [eo] at ha
        have ha2 := (t.ol b hb a).1 ha
        have := (t.cl e' he').2 a b ha2.1 hb ha2.2 hS
        dsimp only at this
        by_cases ea : a = r
        · subst ea; rw [if_pos rfl, this]; rfl
        · rw [if_neg ea]; exact this
    rintro _ h7 ⟨d7, k7, I7, tl7, c7, f7, w7⟩
    have hs5 := f5.size
    have S6 : ∀ r' e', d6.S r' e' = true ↔ (d.S r' e' = true ∨ (r' = r ∧ e' = e)) := by
      intro r' e'
      rw [eS]
      dsimp only
      by_cases er : r' = r
      · subst er; rw [if_pos rfl]; simp
      · rw [if_neg er]; simp [er]
    have ol7 : d7.ol = d.ol := I7.ol.trans eo
    refine ⟨d7, k7, Tol.congr (O := O) (P := fun r' e' => P r' e' ∨ (r' = r ∧ e' = e)) ⟨tl7, fun q hq => ?_, fun b hb a => by rw [ol7]; exact t.ol b hb a, fun b hb => by rw [ol7]; exact t.ll b hb, fun e' he' => ⟨fun r' hr' hp => ?_, fun a b ha hb ho hS => ?_⟩, fun e' he' D hD r' hr' hS => ?_⟩
      (fun _ _ _ _ => Iff.rfl) (fun r' e' hr' => (hput r' e' hr').symm) (Nat.le_refl _), g6.trans' f7 fun i hi hw => ?_, fun i hi => ?_⟩
    · cases hF : d7.F q with
      | false => rfl
      | true => have := I7.f1 q hq hF; rw [tl7] at this; cases this
    · refine I7.le r' e' hr' he' ((S6 r' e').2 ?_)
      rcases hp with hp | hp
      · exact .inl ((t.cl e' he').1 r' hr' hp)
      · exact .inr hp
    · exact c7 b hb a (by rw [eo]; exact (t.ol b hb a).2 ⟨ha, ho⟩) e' he' hS
    · refine I7.mn e' he' D (fun b hb hD' a ha => ?_) (fun q hq hS' => ?_) r' hr' hS
      · rw [eo] at ha
        have ha2 := (t.ol b hb a).1 ha
        exact hD.2 a b ha2.1 hb ha2.2 hD'
      · rcases (S6 q e').1 hS' with h1 | ⟨h1, h2⟩
        · exact t.least e' he' D ⟨fun r hr hp => hD.1 r hr (.inl hp), hD.2⟩ q hq h1
        · exact hD.1 q hq (.inr ⟨h1, h2⟩)
    · have := w6 i (by omega)
      rw [← this]; exact hw
    · rw [w7 i (by have := g6.size; omega), w6 i (by omega)]
  · have hf : d.S r e = true := by simpa using ef
    refine ⟨d, k, Tol.congr (O := O) (P := fun r' e' => P r' e' ∨ (r' = r ∧ e' = e)) ⟨t.tl, t.F, t.ol, t.ll, fun e' he' => ⟨fun r' hr' hp => ?_, (t.cl e' he').2⟩, fun e' he' D hD => t.least e' he' D ⟨fun r hr hp => hD.1 r hr (.inl hp), hD.2⟩⟩
      (fun _ _ _ _ => Iff.rfl) (fun r' e' hr' => (hput r' e' hr').symm) (Nat.le_refl _), Fr.refl _ _, fun _ _ => rfl⟩
    rcases hp with hp | ⟨h1, h2⟩
    · exact (t.cl e' he').1 r' hr' hp
    · rw [h1, h2]; exact hf

theorem outlives_spec (k : SolOk x d h) (t : Tol x O P N d) (hW : x.W ≤ 2700) (hn : x.n ≤ 1501) (hN : N ≤ 1000000) (a b : Int) :
    CallsH Tryd.prog 14 #[.pointer (some ⟨x.bs, 0, none⟩), .int .i64 a, .int .i64 b] h (fun v h' => v = .int .i64 (if (reg x.n a && reg x.n b) = true then 0 else 14) ∧ ∃ d' : Sd, SolOk x d' h' ∧ Tol x (outO O a b) P (N + 1) d' ∧
      Fr (fun b => d.w b ≠ 0) h h' ∧ (∀ b, b < h.size → d'.w b = d.w b)) := by
  apply F14
  unfold L14
  refine cal_of (region_spec k a) ?_
  rintro _ _ ⟨rfl, rfl⟩
  refine ⟨_, rfl, fun c h' => c = !(reg x.n a && reg x.n b) ∧ h = h', ⟨fun er => ?_, fun er => ?_⟩, ?_⟩
  · have er : reg x.n a = false := by simpa using er
    exact ⟨by rw [er]; rfl, rfl⟩
  · have er : reg x.n a = true := by simpa using er
    refine cal_of (region_spec k b) ?_
    rintro _ _ ⟨rfl, rfl⟩
    exact ⟨_, rfl, by rw [er]; rfl, rfl⟩
  rintro _ _ ⟨rfl, rfl⟩
  refine ⟨fun eb => ?_, fun eb => ?_⟩
  · have eb : (reg x.n a && reg x.n b) = false := by revert eb; cases (reg x.n a && reg x.n b) <;> simp
    refine ⟨by rw [eb]; rfl, d, k, t.congr (fun a' b' ha' hb' => ⟨.inl, fun h => h.resolve_right ?_⟩) (fun _ _ _ => Iff.rfl) (Nat.le_succ _), Fr.refl _ _, fun _ _ => rfl⟩
    rintro ⟨rfl, rfl⟩
    rw [reg_nat, reg_nat, decide_eq_true ha', decide_eq_true hb'] at eb
    cases eb
  have eb : (reg x.n a && reg x.n b) = true := by simpa using eb
  have e1 := Bool.and_eq_true_iff.1 eb
  obtain ⟨a, rfl, ha⟩ := reg_iff.1 e1.1
  obtain ⟨b, rfl, hb⟩ := reg_iff.1 e1.2
  obtain ⟨cs, c1, c2, c3⟩ := k.obk
  have hll := k.llen hb
  have hlN := t.ll b hb
  refine ⟨fun h' => cl h' ⟨x.bs, 3, none⟩ = some (.slice (some ⟨x.ob, 0, none⟩) x.n x.n), k.co, nn_i (nn_i (ldS_i (s := ⟨some ⟨x.ob, 0, none⟩, x.n, x.n⟩) (by rw [add_plain]; exact k.co) (ixS_i rfl (by omega) (by show (b : Int) < (x.n : Int); omega) (ldS_i (s := d.os b) (by rw [Int.toNat_natCast, Nat.mul_one, add_plain, Nat.zero_add, c1.cl]; exact c3 b hb) ?_))))⟩
  refine ⟨⟨some ⟨x.ob, 0, none⟩, x.n, x.n⟩, fun h' hq => by rw [add_plain]; exact hq, ?_⟩
  rintro s30 h4 rfl rfl
  have f4 : Grow h (h.push (.cells #[.int .i64 a] 3)) := Fr.push _ _ _
  refine ⟨(k.grow f4).co, ?_⟩
  refine app1 (E := 3) (vs := #[.int .i64 a]) (h := h) (B := 0) (sz := 1) rfl (k.lst b hb) rfl (by simp [Value.oneCell']) (by omega) (by omega) (by omega) ?_ _ _ rfl rfl
  intro s' h5 _ o5 f5 hown
  refine ⟨by show cl h5 _ = _; rw [(f5.blk k.box fun ho => by have := k.w7 b hb _ ho; rw [k.w1] at this; omega).cl]; rfl, ixS_i rfl (by omega) (by show (b : Int) < (x.n : Int); omega) ?_⟩
  rw [Int.toNat_natCast, Nat.mul_one, add_plain, Nat.zero_add]
  refine k.setOut hb (l := d.ol b ++ [a]) (by rw [natI_snoc]; exact o5) f5 hown fun h6 k6 f6 z6 => ?_
  refine cal_of (push_spec k6 hb (by dsimp only; rw [t.tl]; simp)) ?_
  rintro _ h7 ⟨d7, k7, eS, eo, es, eF, etl, f7, w7⟩
  dsimp only at eS eo es eF etl f7 w7
  have etl : d7.tl = [b] := by
    rcases etl with q | ⟨_, q⟩
    · rw [q, t.tl]; rfl
    · rw [t.F b hb] at q; cases q
  have wold : ∀ i, i < h.size → wNew d.w h.size h5.size (7 + 2 * b) i = d.w i := fun i hi => wNew_old hi
  have g7 : Fr (fun b => d.w b ≠ 0) h h7 := f6.trans' f7 fun i hi hw => by rw [← wold i hi]; exact hw
  have ol7 : ∀ c, c < x.n → ∀ q, q ∈ d7.ol c ↔ (q < x.n ∧ (O q c ∨ (q = a ∧ c = b))) := by
    intro c hc q
    rw [eo]
    dsimp only
    by_cases ec : c = b
    · subst ec
      rw [if_pos rfl, List.mem_append, List.mem_singleton, t.ol c hc q]
      constructor
      · rintro (⟨h1, h2⟩ | h1)
        · exact ⟨h1, .inl h2⟩
        · exact ⟨by omega, .inr ⟨h1, rfl⟩⟩
      · rintro ⟨h1, h2 | h2⟩
        · exact .inl ⟨h1, h2⟩
        · exact .inr h2.1
    · rw [if_neg ec, t.ol c hc q]
      simp [ec]
  refine cal_of (settle_spec k7 hW hn (fun c hc q hq => ((ol7 c hc q).1 hq).1) (fun c hc => ?_) (fun q hq => by rw [etl] at hq; simp at hq; rw [hq]; exact hb)
    (fun q hq hF => ?_) (fun c hc q hq => ?_) (by rw [etl]; simp)) ?_
  · have := t.ll c hc
    rw [eo]
    dsimp only
    by_cases ec : c = b
    · rw [if_pos ec]; simp; omega
    · rw [if_neg ec]; omega
  · rw [eF] at hF
    dsimp only at hF
    by_cases eq : q = b
    · rw [etl, eq]; simp
    · rw [if_neg eq, t.F q hq] at hF; cases hF
  · rw [etl]
    by_cases eq : c = b
    · exact .inl (by simp [eq])
    · refine .inr fun e' he' hS => ?_
      rw [eS] at hS ⊢
      have hq2 := (ol7 c hc q).1 hq
      exact (t.cl e' he').2 q c hq2.1 hc (hq2.2.resolve_right fun h => eq h.2) hS
  rintro _ h8 ⟨d8, k8, I8, tl8, c8, f8, w8⟩
  refine ⟨by rw [eb]; rfl, d8, k8, Tol.congr (O := fun q c => O q c ∨ (q = a ∧ c = b)) (P := P) (N := N + 1) ⟨tl8, fun q hq => ?_, fun c hc q => by rw [I8.ol]; exact ol7 c hc q, fun c hc => ?_, fun e' he' => ⟨fun r' hr' hp => ?_, fun q c hq hc ho hS => ?_⟩, fun e' he' D hD r' hr' hS => ?_⟩
    (fun a' b' _ _ => ?_) (fun _ _ _ => Iff.rfl) (Nat.le_refl _), g7.trans' f8 fun i hi hw => ?_, fun i hi => ?_⟩
  · cases hF : d8.F q with
    | false => rfl
    | true => have := I8.f1 q hq hF; rw [tl8] at this; cases this
  · have := t.ll c hc
    rw [I8.ol, eo]
    dsimp only
    by_cases ec : c = b
    · rw [if_pos ec]; simp; omega
    · rw [if_neg ec]; omega
  · exact I8.le r' e' hr' he' (by rw [eS]; exact (t.cl e' he').1 r' hr' hp)
  · exact c8 c hc q ((ol7 c hc q).2 ⟨hq, ho⟩) e' he' hS
  · refine I8.mn e' he' D (fun c hc hD' q hq => ?_) (fun q hq hS' => ?_) r' hr' hS
    · have hq2 := (ol7 c hc q).1 hq
      exact hD.2 q c hq2.1 hc hq2.2 hD'
    · rw [eS] at hS'
      exact t.least e' he' D ⟨hD.1, fun a b ha hb ho => hD.2 a b ha hb (.inl ho)⟩ q hq hS'
  · unfold outO
    constructor
    · rintro (h | ⟨h1, h2⟩)
      · exact .inl h
      · exact .inr ⟨by omega, by omega⟩
    · rintro (h | ⟨h1, h2⟩)
      · exact .inl h
      · exact .inr ⟨by omega, by omega⟩
  · have := w7 i (by have := f6.size; omega)
    rw [wold i hi] at this
    rw [← this]; exact hw
  · rw [w8 i (by have := g7.size; omega), w7 i (by have := f6.size; omega), wold i hi]
end
end Go.Proofs.YtgbmihnainbgiaaDoor

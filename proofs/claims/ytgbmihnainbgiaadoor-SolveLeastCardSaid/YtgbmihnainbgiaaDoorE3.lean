/-
  The document's Has, walked; what the rounds come to.
-/
import Derived.Test.YtgbmihnainbgiaaDoorE2
namespace Go.Proofs.YtgbmihnainbgiaaDoor
open Go Go.Lf

def stepC (C : Nat → Bool) (p : Nat × Nat) : Nat → Bool := if C p.1 then fun k => decide (k = p.2) || C k else C
def roundC (qs : List (Nat × Nat)) (C : Nat → Bool) : Nat → Bool := qs.foldl stepC C
def iterC (qs : List (Nat × Nat)) (a : Nat) : Nat → Nat → Bool
  | 0 => fun k => decide (k = a)
  | r + 1 => roundC qs (iterC qs a r)

theorem stepC_le (C : Nat → Bool) (p : Nat × Nat) {k : Nat} (h : C k = true) : stepC C p k = true := by
  unfold stepC; split <;> simp [h]
theorem fold_le : ∀ (qs : List (Nat × Nat)) (C : Nat → Bool) {k : Nat}, C k = true → qs.foldl stepC C k = true
  | [], _, _, h => h
  | p :: qs, C, _, h => fold_le qs (stepC C p) (stepC_le C p h)
/-- a set that a round leaves is closed -/
theorem closed_of_round : ∀ (qs : List (Nat × Nat)) (C : Nat → Bool), (∀ k, qs.foldl stepC C k = true → C k = true) → ∀ p ∈ qs, C p.1 = true → C p.2 = true
  | [], _, _, p, hp, _ => by cases hp
  | q :: qs, C, h, p, hp, h1 => by
    have hq : ∀ k, stepC C q k = true → C k = true := fun k hk => h k (fold_le qs _ hk)
    rcases List.mem_cons.1 hp with rfl | hp
    · refine hq p.2 ?_
      unfold stepC
      rw [if_pos h1]
      simp
    · refine closed_of_round qs C (fun k hk => h k ?_) p hp h1
      have : stepC C q = C := by
        funext k
        cases hc : C k with
        | true => exact stepC_le C q hc
        | false => cases hs : stepC C q k with
          | true => rw [hq k hs] at hc; cases hc
          | false => rfl
      simp only [List.foldl_cons, this]
      exact hk

def cnt (C : Nat → Bool) : Nat → Nat
  | 0 => 0
  | n + 1 => cnt C n + (if C n then 1 else 0)
theorem cnt_le (C : Nat → Bool) : ∀ n, cnt C n ≤ n
  | 0 => Nat.le_refl _
  | n + 1 => by have := cnt_le C n; simp only [cnt]; split <;> omega
theorem cnt_mono {C D : Nat → Bool} (h : ∀ k, C k = true → D k = true) : ∀ n, cnt C n ≤ cnt D n
  | 0 => Nat.le_refl _
  | n + 1 => by
    have := cnt_mono h n
    simp only [cnt]
    cases hc : C n with
    | true => simp [h n hc]; exact this
    | false => simp; split <;> omega
theorem cnt_lt {C D : Nat → Bool} (h : ∀ k, C k = true → D k = true) {k : Nat} (h1 : C k = false) (h2 : D k = true) : ∀ n, k < n → cnt C n < cnt D n
  | 0, hk => by omega
  | n + 1, hk => by
    simp only [cnt]
    by_cases e : k = n
    · subst e
      have := cnt_mono h k
      simp [h1, h2]; omega
    · have := cnt_lt h h1 h2 n (by omega)
      cases hc : C n with
      | true => simp [h n hc]; exact this
      | false => simp; split <;> omega

section
variable {n : Nat} {qs : List (Nat × Nat)} {a : Nat}
theorem iter_in (ha : a ≤ n) (hq : ∀ p ∈ qs, p.1 ≤ n ∧ p.2 ≤ n) : ∀ r k, iterC qs a r k = true → k ≤ n := by
  have hf : ∀ (l : List (Nat × Nat)) (C : Nat → Bool), (∀ p ∈ l, p.2 ≤ n) → (∀ k, C k = true → k ≤ n) → ∀ k, l.foldl stepC C k = true → k ≤ n := by
    intro l
    induction l with
    | nil => intro C _ hC k hk; exact hC k hk
    | cons p l ih =>
      intro C hl hC k hk
      refine ih (stepC C p) (fun q hq => hl q (List.mem_cons_of_mem _ hq)) (fun k hk => ?_) k hk
      unfold stepC at hk
      split at hk
      · simp at hk
        rcases hk with rfl | hk
        · exact hl p (by simp)
        · exact hC k hk
      · exact hC k hk
  intro r
  induction r with
  | zero => intro k hk; simp [iterC] at hk; omega
  | succ r ih => exact fun k hk => hf qs _ (fun p hp => (hq p hp).2) ih k hk

/-- a round that adds nothing comes before the last -/
theorem iter_fix (ha : a ≤ n) (hq : ∀ p ∈ qs, p.1 ≤ n ∧ p.2 ≤ n) : ∀ k, iterC qs a (n + 2) k = true → iterC qs a (n + 1) k = true := by
  have grow : ∀ r, (∃ s, s ≤ r ∧ iterC qs a (s + 1) = iterC qs a s) ∨ r + 1 ≤ cnt (iterC qs a r) (n + 1) := by
    intro r
    induction r with
    | zero =>
      right
      have h1 : cnt (fun _ => false) (n + 1) < cnt (iterC qs a 0) (n + 1) := cnt_lt (k := a) (fun k h => by simp at h) rfl (by simp [iterC]) (n + 1) (by omega)
      omega
    | succ r ih =>
      rcases ih with ⟨s, hs, e⟩ | ih
      · exact .inl ⟨s, by omega, e⟩
      · by_cases e : iterC qs a (r + 1) = iterC qs a r
        · exact .inl ⟨r, by omega, e⟩
        · right
          have hm : ∀ k, iterC qs a r k = true → iterC qs a (r + 1) k = true := fun k hk => fold_le qs _ hk
          have : ∃ k, iterC qs a r k = false ∧ iterC qs a (r + 1) k = true := by
            refine Classical.byContradiction fun hne => e ?_
            funext k
            cases h1 : iterC qs a r k with
            | true => exact hm k h1
            | false => cases h2 : iterC qs a (r + 1) k with
              | true => exact absurd ⟨k, h1, h2⟩ hne
              | false => rfl
          obtain ⟨k, h1, h2⟩ := this
          have := cnt_lt hm h1 h2 (n + 1) (by have := iter_in ha hq (r + 1) k h2; omega)
          omega
  have fixed : ∀ s d, iterC qs a (s + 1) = iterC qs a s → iterC qs a (s + d + 1) = iterC qs a (s + d) := by
    intro s d e
    induction d with
    | zero => exact e
    | succ d ih => show roundC qs (iterC qs a (s + d + 1)) = roundC qs (iterC qs a (s + d)); rw [ih]
  rcases grow (n + 1) with ⟨s, hs, e⟩ | h
  · have := fixed s (n + 1 - s) e
    rw [show s + (n + 1 - s) = n + 1 by omega] at this
    intro k hk
    rw [← this]
    exact hk
  · have := cnt_le (iterC qs a (n + 1)) (n + 1)
    omega
end

/-- the pairs as numbers -/
def natP (ps : List (Int × Int)) : List (Nat × Nat) := ps.map fun p => (p.1.toNat, p.2.toNat)


theorem iter_least {qs : List (Nat × Nat)} {C : Nat → Bool} (hC : ∀ p ∈ qs, C p.1 = true → C p.2 = true) {a : Nat} (ha : C a = true) : ∀ r k, iterC qs a r k = true → C k = true := by
  have hf : ∀ (l : List (Nat × Nat)) (D : Nat → Bool), (∀ p ∈ l, p ∈ qs) → (∀ k, D k = true → C k = true) → ∀ k, l.foldl stepC D k = true → C k = true := by
    intro l
    induction l with
    | nil => intro D _ hD k hk; exact hD k hk
    | cons p l ih =>
      intro D hl hD k hk
      refine ih (stepC D p) (fun q hq => hl q (List.mem_cons_of_mem _ hq)) (fun k hk => ?_) k hk
      unfold stepC at hk
      split at hk
      · rename_i h1
        simp at hk
        rcases hk with rfl | hk
        · exact hC p (hl p (by simp)) (hD _ h1)
        · exact hD k hk
      · exact hD k hk
  intro r
  induction r with
  | zero => intro k hk; simp [iterC] at hk; subst hk; exact ha
  | succ r ih => exact fun k hk => hf _ _ (fun p hp => hp) ih k hk
theorem iter_self {qs : List (Nat × Nat)} {a : Nat} : ∀ r, iterC qs a r a = true
  | 0 => by simp [iterC]
  | r + 1 => fold_le qs _ (iter_self r)
theorem iter_closed {qs : List (Nat × Nat)} {n a : Nat} (ha : a < n) (hq : ∀ p ∈ qs, p.1 < n ∧ p.2 < n) : ∀ p ∈ qs, iterC qs a n p.1 = true → iterC qs a n p.2 = true := by
  obtain ⟨m, rfl⟩ : ∃ m, n = m + 1 := ⟨n - 1, by omega⟩
  exact closed_of_round qs _ (fun k hk => iter_fix (n := m) (by omega) (fun p hp => by have := hq p hp; omega) k hk)

theorem flat2_get : ∀ (ps : List (Int × Int)) (i : Nat) (hi : i < ps.length), (flat2 ps)[i * 2]? = some (.int .i64 ps[i].1) ∧ (flat2 ps)[i * 2 + 1]? = some (.int .i64 ps[i].2)
  | p :: ps, 0, _ => by simp [flat2]
  | p :: ps, i + 1, hi => by
    have := flat2_get ps i (by simpa using hi)
    simp only [flat2, List.flatMap_cons] at this ⊢
    rw [show (i + 1) * 2 = i * 2 + 2 by omega]
    simpa using this
section
variable {h : Heap} {B n : Nat}
theorem own2_pair {s : Sv} {qs : List (Int × Int)} (o : Own h B 2 s (flat2 qs)) (i : Nat) (hi : i < qs.length) : ∃ g, s.a = some ⟨g, 0, none⟩ ∧ s.n = qs.length ∧ cl h ⟨g, i * 2, none⟩ = some (.int .i64 qs[i].1) ∧ cl h ⟨g, i * 2 + 1, none⟩ = some (.int .i64 qs[i].2) := by
  have hl : s.n = qs.length := by have := o.len; rw [flat2_len] at this; omega
  rcases o.mem with ⟨_, e, _⟩ | ⟨g, cur, e, _⟩
  · omega
  · have hr := o.row
    rw [e] at hr
    have hf := flat2_get qs i hi
    have r1 := hr _ _ hf.1
    have r2 := hr _ _ hf.2
    simp only [add_plain, Nat.zero_add] at r1 r2
    exact ⟨g, e, hl, r1, r2⟩
def SetAt (h : Heap) (g n : Nat) (C : Nat → Bool) : Prop := ∃ cs : Array Value, blk h g cs ∧ ∀ k, k < n → cs[k]? = some (.int .i64 (if C k then 1 else 0))
theorem SetAt.get {g n : Nat} {C : Nat → Bool} (x : SetAt h g n C) (k : Nat) (hk : k < n) : cl h ⟨g, k, none⟩ = some (.int .i64 (if C k then 1 else 0)) := by
  obtain ⟨cs, kb, e⟩ := x; rw [kb.cl, e k hk]
theorem SetAt.put {g n : Nat} {C : Nat → Bool} (x : SetAt h g n C) (k : Nat) (hk : k < n) {K : Heap → Prop} (hK : ∀ h', SetAt h' g n (fun j => decide (j = k) || C j) → Fr (fun b => b = g) h h' → K h') : sto h ⟨g, k, none⟩ (.int .i64 1) K := by
  obtain ⟨cs, kb, e⟩ := x
  have hlt := (Array.getElem?_eq_some_iff.1 (e k hk)).1
  refine sto_i kb hlt (hK _ ⟨_, kb.sc k _, fun j hj => ?_⟩ (Fr.scb _ _ _ _))
  rw [Array.getElem?_setIfInBounds]
  by_cases q : k = j
  · subst q; simp [hlt]
  · have q' : ¬ j = k := fun h => q h.symm
    simp [q, q', e j hj]
def inN (n : Nat) (x : Int) : Prop := 0 ≤ x ∧ x < n
theorem refHas_spec {so sp : Sv} {po pp : List (Int × Int)} (o : Own h B 2 so (flat2 po)) (p : Own h B 2 sp (flat2 pp)) (hpo : ∀ p ∈ po, inN n p.1 ∧ inN n p.2) (hpp : ∀ p ∈ pp, inN n p.1) (hn : n ≤ 1000) (hlo : po.length ≤ 1000) (hlp : pp.length ≤ 1000) {r : Nat} (hr : r < n) (e : Int) :
    CallsH Tryd.prog 9 #[.int .i64 n, .slice so.a so.n so.c, .slice sp.a sp.n sp.c, .int .i64 r, .int .i64 e] h (fun v h' => Grow h h' ∧ v = .bool (pp.any fun q => q.2 == e && iterC (natP po) r n q.1.toNat)) := by
  apply F9
  unfold L9
  have hno : so.n = po.length := by have := o.len; rw [flat2_len] at this; omega
  have hnp : sp.n = pp.length := by have := p.len; rw [flat2_len] at this; omega
  refine ⟨by omega, by omega, by omega, by omega, ?_⟩
  rintro s16 h1 rfl rfl
  simp only [Int.toNat_natCast, Nat.mul_one]
  have fp := Fr.push (fun _ => False) h (.cells (madeCells (Value.int .i64 0).cells n) 3)
  have kb := blk.new h (madeCells (Value.int .i64 0).cells n) 3
  have S0 : SetAt (h.push (.cells (madeCells (Value.int .i64 0).cells n) 3)) h.size n (fun _ => false) :=
    ⟨_, kb, fun k hk => by rw [made_get _ rfl]; simp [hk]⟩
  refine ixS_i rfl (by omega) (by show (r : Int) < ((n : Nat) : Int); omega) ?_
  simp only [add_plain, Nat.zero_add]
  refine S0.put r hr fun h2 S2 f2 => ?_
  have g2 : Grow h h2 := fp.trans' f2 fun i hi e => by omega
  refine ⟨fun y h3 => ∃ m : Nat, y = m ∧ m ≤ n ∧ SetAt h3 h.size n (iterC (natP po) r m) ∧ Grow h h3, fun y _ => n - y.toNat, ⟨0, rfl, by omega, ?_, g2⟩, ?_⟩
  · obtain ⟨cs, k1, k2⟩ := S2
    exact ⟨cs, k1, fun k hk => by rw [k2 k hk]; simp [iterC]⟩
  rintro _ h3 ⟨m, rfl, hm, S3, g3⟩
  refine ifb_iff (q := m < n) (by simp) (fun hlt => ?_) (fun hge => ?_)
  · have hwr : IntKind.i64.wrap ((m : Int) + 1) = ((m + 1 : Nat) : Int) := by rw [wrap64_id (by omega) (by omega)]; rfl
    refine ⟨fun z h4 => ∃ i : Nat, z = i ∧ i ≤ po.length ∧ SetAt h4 h.size n (((natP po).take i).foldl stepC (iterC (natP po) r m)) ∧ Grow h h4, fun z _ => po.length - z.toNat, ⟨0, rfl, by omega, S3, g3⟩, ?_⟩
    rintro _ h4 ⟨i, rfl, hi, S4, g4⟩
    refine ifb_iff (q := i < po.length) (by rw [hno]; simp) (fun hil => ?_) (fun hig => ?_)
    · have hwi : IntKind.i64.wrap ((i : Int) + 1) = ((i + 1 : Nat) : Int) := by rw [wrap64_id (by omega) (by omega)]; rfl
      have hp := hpo po[i] (List.getElem_mem hil)
      obtain ⟨g, eg, -, c1, c2⟩ := own2_pair (o.frame g4 fun _ _ h => h) i hil
      have htk : (natP po).take (i + 1) = (natP po).take i ++ [(po[i].1.toNat, po[i].2.toNat)] := by
        rw [List.take_succ_eq_append_getElem (by simpa [natP] using hil)]
        simp [natP]
      generalize po[i] = pr at *
      obtain ⟨u, v⟩ := pr
      unfold inN at hp
      dsimp only at hp c1 c2 htk
      obtain ⟨u, rfl⟩ := Int.eq_ofNat_of_zero_le hp.1.1
      obtain ⟨v, rfl⟩ := Int.eq_ofNat_of_zero_le hp.2.1
      have hu : u < n := by omega
      have hv : v < n := by omega
      simp only [Int.toNat_natCast] at htk
      refine ⟨fun h6 => SetAt h6 h.size n (((natP po).take (i + 1)).foldl stepC (iterC (natP po) r m)) ∧ Grow h h6, ?_, fun h6 ⟨q1, q2⟩ => ⟨⟨i + 1, hwi, by omega, q1, q2⟩, by rw [hwi]; (try dsimp only); omega⟩⟩
      have hstep : ((natP po).take (i + 1)).foldl stepC (iterC (natP po) r m) = stepC (((natP po).take i).foldl stepC (iterC (natP po) r m)) (u, v) := by rw [htk, List.foldl_append]; rfl
      rw [hstep]
      generalize ((natP po).take i).foldl stepC (iterC (natP po) r m) = C at *
      refine ixS_i eg (by omega) (by rw [hno]; omega) ?_
      simp only [add_plain, Nat.zero_add, Int.toNat_natCast]
      refine ldI_i c1 (ixS_i rfl (by omega) (by show (u : Int) < ((n : Nat) : Int); omega) ?_)
      simp only [add_plain, Nat.zero_add]
      refine ldI_i (by simpa using S4.get u hu) ?_
      refine ifb_dec (fun hpos => ?_) (fun hz => ?_)
      · have hC : C u = true := by cases hc : C u with | true => rfl | false => rw [hc] at hpos; simp at hpos
        refine ixS_i eg (by omega) (by rw [hno]; omega) ?_
        simp only [add_plain, Nat.zero_add]
        refine ldI_i c2 (ixS_i rfl (by omega) (by show (v : Int) < ((n : Nat) : Int); omega) ?_)
        simp only [add_plain, Nat.zero_add, Int.toNat_natCast]
        refine S4.put v hv fun h5 S5 f5 => ⟨?_, g4.trans' f5 fun i hi e => by omega⟩
        simp only [stepC, hC, if_true]
        exact S5
      · have hC : C u = false := by cases hc : C u with | false => rfl | true => rw [hc] at hz; simp at hz
        refine ⟨?_, g4⟩
        simp only [stepC, hC]
        exact S4
    · have hie : i = po.length := by omega
      subst hie
      have hfull : (natP po).take po.length = natP po := by rw [List.take_of_length_le (by simp [natP])]
      rw [hfull] at S4
      rw [hwr]
      exact ⟨⟨m + 1, rfl, by omega, S4, g4⟩, by (try dsimp only); omega⟩
  · obtain rfl : m = n := by omega
    refine ⟨fun z => ∃ i : Nat, z = i ∧ i ≤ pp.length ∧ ((pp.take i).any fun q => q.2 == e && iterC (natP po) r m q.1.toNat) = false, fun z => pp.length - z.toNat, ⟨0, rfl, by omega, rfl⟩, ?_⟩
    rintro _ ⟨i, rfl, hi, hany⟩
    refine ifb_iff (q := i < pp.length) (by rw [hnp]; simp) (fun hil => ?_) (fun hig => ?_)
    · have hp := hpp pp[i] (List.getElem_mem hil)
      obtain ⟨g, eg, -, c1, c2⟩ := own2_pair (p.frame g3 fun _ _ h => h) i hil
      refine ixS_i eg (by omega) (by rw [hnp]; omega) ?_
      simp only [add_plain, Nat.zero_add, Int.toNat_natCast]
      refine ldI_i c2 ?_
      refine ⟨fun b => b = (pp[i].2 == e && iterC (natP po) r m pp[i].1.toNat), ⟨fun he => ?_, fun he => by rw [he]; rfl⟩, ?_⟩
      · refine ixS_i eg (by omega) (by rw [hnp]; omega) ?_
        simp only [add_plain, Nat.zero_add]
        unfold inN at hp
        have h0 := S3.get pp[i].1.toNat (by omega)
        refine ldI_i c1 (ixS_i rfl hp.1 (by exact hp.2) ?_)
        simp only [add_plain, Nat.zero_add]
        refine ldI_i h0 ?_
        rw [he]
        cases iterC (natP po) r m pp[i].1.toNat <;> simp
      rintro _ rfl
      have hone : ((pp.take (i + 1)).any fun q => q.2 == e && iterC (natP po) r m q.1.toNat) = (pp[i].2 == e && iterC (natP po) r m pp[i].1.toNat) := by
        rw [List.take_succ_eq_append_getElem hil, List.any_append, hany]
        simp
      refine ⟨fun ht => ⟨g3, ?_⟩, fun hf => ?_⟩
      · congr 1
        symm
        rw [List.any_eq_true]
        exact ⟨pp[i], List.getElem_mem hil, ht⟩
      · rw [hf] at hone
        have hwi : IntKind.i64.wrap ((i : Int) + 1) = ((i + 1 : Nat) : Int) := by rw [wrap64_id (by omega) (by omega)]; rfl
        rw [hwi]
        exact ⟨⟨i + 1, rfl, hil, hone⟩, by (try dsimp only); omega⟩
    · obtain rfl : i = pp.length := by omega
      rw [List.take_length] at hany
      exact ⟨g3, by rw [hany]⟩
end
/-- what is in a region is what the document says -/
theorem least_law {n W : Nat} {ops : List Opn} {x : Sh} {d : Sd} (hn : x.n = n) (hW : x.W = W) (t : Tol x (opsO ops) (opsP W ops) ops.length d) {r e : Nat} (hr : r < n) (he : e < W) :
    d.S r e = (putsL n W ops).any fun q => q.2 == (e : Int) && iterC (natP (outsL n ops)) r n q.1.toNat := by
  have he' : e < 64 * x.nw := by unfold Sh.nw; omega
  have hqs : ∀ p ∈ natP (outsL n ops), p.1 < n ∧ p.2 < n := by
    intro p hp
    obtain ⟨q, hq, rfl⟩ := List.mem_map.1 hp
    obtain ⟨o, ho, rfl⟩ := List.mem_map.1 hq
    have := (List.mem_filter.1 ho).2
    simp [okOut, reg] at this
    dsimp only
    omega
  have hcl := t.cl e he'
  have hedge : ∀ a b : Nat, a < n → b < n → (opsO ops a b ↔ (a, b) ∈ natP (outsL n ops)) := by
    intro a b ha hb
    constructor
    · rintro ⟨o, ho, h1, h2, h3⟩
      refine List.mem_map.2 ⟨o.2, List.mem_map.2 ⟨o, List.mem_filter.2 ⟨ho, ?_⟩, rfl⟩, ?_⟩
      · simp [okOut, reg, h1, ← h2, ← h3, ha, hb]
      · rw [← h2, ← h3]; rfl
    · intro hm
      obtain ⟨q, hq, hab⟩ := List.mem_map.1 hm
      obtain ⟨o, ho, rfl⟩ := List.mem_map.1 hq
      obtain ⟨ho1, ho2⟩ := List.mem_filter.1 ho
      simp [okOut, reg] at ho2
      simp only [Prod.mk.injEq] at hab
      exact ⟨o, ho1, ho2.1, by omega, by omega⟩
  rw [Bool.eq_iff_iff]
  constructor
  · intro hS
    refine t.least e he' (fun r => (putsL n W ops).any fun q => q.2 == (e : Int) && iterC (natP (outsL n ops)) r n q.1.toNat) ⟨fun r' hr' hP => ?_, fun a b ha hb hO hb' => ?_⟩ r (by omega) hS
    · obtain ⟨o, ho, h1, h2, h3, h4⟩ := hP
      rw [List.any_eq_true]
      refine ⟨o.2, List.mem_map.2 ⟨o, List.mem_filter.2 ⟨ho, ?_⟩, rfl⟩, ?_⟩
      · have : reg n o.2.1 = true := by rw [← h2]; simp [reg]; omega
        simp [okPut, h1, h4, this]
      · rw [← h2, ← h3, Int.toNat_natCast, iter_self]; simp
    · rw [List.any_eq_true] at hb' ⊢
      obtain ⟨q, hq, hh⟩ := hb'
      refine ⟨q, hq, ?_⟩
      simp only [Bool.and_eq_true] at hh ⊢
      refine ⟨hh.1, ?_⟩
      have hcA := iter_closed (n := n) (a := a) (by omega) hqs
      have hab := (hedge a b (by omega) (by omega)).1 hO
      exact iter_least hcA (hcA (a, b) hab (iter_self n)) n _ hh.2
  · intro hany
    rw [List.any_eq_true] at hany
    obtain ⟨q, hq, hh⟩ := hany
    simp only [Bool.and_eq_true, beq_iff_eq] at hh
    obtain ⟨o, ho, rfl⟩ := List.mem_map.1 hq
    obtain ⟨ho1, ho2⟩ := List.mem_filter.1 ho
    simp [okPut] at ho2
    have hreg := ho2.2.1
    simp only [reg, decide_eq_true_eq] at hreg
    have hin : d.S o.2.1.toNat e = true := hcl.1 _ (by omega) ⟨o, ho1, ho2.1, by omega, hh.1.symm, ho2.2.2⟩
    have key := iter_least (qs := natP (outsL n ops)) (C := fun k => !(d.S k e) || d.S r e) (a := r) (fun p hp h1 => ?_) (by cases d.S r e <;> rfl) n _ hh.2
    · rw [hin] at key
      simpa using key
    · obtain ⟨p1, p2⟩ := p
      obtain ⟨q1, q2⟩ := hqs _ hp
      dsimp only at h1 q1 q2 ⊢
      cases h2 : d.S p2 e with
      | false => rfl
      | true =>
        have : d.S p1 e = true := hcl.2 p1 p2 (by omega) (by omega) ((hedge p1 p2 q1 q2).2 hp) h2
        rw [this] at h1
        simpa using h1
/-- nothing is in a region that is no element -/
theorem over_none {W : Nat} {ops : List Opn} {x : Sh} {d : Sd} (t : Tol x (opsO ops) (opsP W ops) ops.length d) {r e : Nat} (hr : r < x.n) (he : W ≤ e) (he' : e < 64 * x.nw) : d.S r e = false := by
  cases hS : d.S r e with
  | false => rfl
  | true =>
    have := t.least e he' (fun _ => false) ⟨fun r' hr' hP => ?_, fun _ _ _ _ _ h => h⟩ r hr hS
    · exact this.symm
    · obtain ⟨o, ho, h1, h2, h3, h4⟩ := hP
      simp only [reg, decide_eq_true_eq] at h4
      omega
end Go.Proofs.YtgbmihnainbgiaaDoor

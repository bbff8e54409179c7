/-
  Ways: the plain law, and the document's Way walked.
-/
import Derived.Test.YtglhkodebehdbaaS14
namespace Go.Proofs.Ytglhkodebehdbaa
open Go Go.Lf

def pas (p : Pb) (e x : Nat) : Bool := !(kil p e x && !gen p e x)
def wayN (p : Pb) (e to : Nat) : Nat → Nat → Bool
  | 0, x => decide (x = to)
  | k + 1, x => decide (x = to) || (pas p e x && (at_ p.s x).any fun y => wayN p e to k y.toNat)
def isS (p : Pb) (e to : Nat) : Bool :=
  p.e.any (fun y => decide (y = (e : Int)) && wayN p e to 7 0) || (List.range p.g.length).any fun i => (at_ p.g i).any fun z => decide (z = (e : Int)) && (at_ p.s i).any fun y => wayN p e to 7 y.toNat

section
variable {p : Pb} {e : Nat}
theorem wayN_refl (to k : Nat) : wayN p e to k to = true := by cases k <;> simp [wayN]
theorem wayN_mono (to : Nat) : ∀ k x, wayN p e to k x = true → wayN p e to (k + 1) x = true
  | 0, x, h => by simp [wayN] at h ⊢; exact .inl h
  | k + 1, x, h => by
    have ih := wayN_mono to k
    simp only [wayN, Bool.or_eq_true, Bool.and_eq_true, List.any_eq_true] at h ⊢
    rcases h with h | ⟨h1, y, h2, h3⟩
    · exact .inl h
    · refine .inr ⟨h1, y, h2, ?_⟩
      have := ih _ h3
      simpa only [wayN, Bool.or_eq_true, Bool.and_eq_true, List.any_eq_true] using this
theorem wayN_stay {W : Nat} (ok : p.Ok W) {to k : Nat} (h : ∀ x, x < p.s.length → wayN p e to (k + 1) x = wayN p e to k x) : ∀ x, x < p.s.length → wayN p e to (k + 2) x = wayN p e to (k + 1) x := by
  intro x hx
  show (_ || (_ && (at_ p.s x).any fun y => wayN p e to (k + 1) y.toNat)) = (_ || (_ && (at_ p.s x).any fun y => wayN p e to k y.toNat))
  congr 2
  rw [Bool.eq_iff_iff, List.any_eq_true, List.any_eq_true]
  have : ∀ y ∈ at_ p.s x, wayN p e to (k + 1) y.toNat = wayN p e to k y.toNat := fun y hy => h _ (by have := ok.s x y hy; omega)
  exact ⟨fun ⟨y, h1, h2⟩ => ⟨y, h1, by rw [← this y h1]; exact h2⟩, fun ⟨y, h1, h2⟩ => ⟨y, h1, by rw [this y h1]; exact h2⟩⟩
theorem wayN_grow {W : Nat} (ok : p.Ok W) {to : Nat} (ht : to < p.s.length) : ∀ k, (∀ x, x < p.s.length → wayN p e to (k + 1) x = wayN p e to k x) ∨ k + 1 ≤ cnt (wayN p e to k) p.s.length
  | 0 => by
    refine .inr ?_
    have := cnt_lt (C := fun _ => false) (D := wayN p e to 0) (k := to) rfl (wayN_refl to 0) p.s.length (fun _ _ h => by cases h) ht
    omega
  | k + 1 => by
    rcases wayN_grow ok ht k with h | h
    · exact .inl (wayN_stay ok h)
    · by_cases q : ∀ x, x < p.s.length → wayN p e to (k + 1) x = wayN p e to k x
      · exact .inl (wayN_stay ok q)
      · refine .inr ?_
        obtain ⟨x, q⟩ := Classical.not_forall.1 q
        obtain ⟨hx, q⟩ := Classical.not_imp.1 q
        have h1 : wayN p e to k x = false := by
          cases hh : wayN p e to k x with
          | false => rfl
          | true => rw [wayN_mono to k x hh, hh] at q; exact absurd rfl q
        have h2 : wayN p e to (k + 1) x = true := by
          cases hh : wayN p e to (k + 1) x with
          | true => rfl
          | false => rw [hh, h1] at q; exact absurd rfl q
        have := cnt_lt h1 h2 p.s.length (fun x _ h => wayN_mono to k x h) hx
        omega
theorem wayN_7 {W : Nat} (ok : p.Ok W) (hn : p.s.length ≤ 7) {to : Nat} (ht : to < p.s.length) {x : Nat} (hx : x < p.s.length) (h : wayN p e to 8 x = true) : wayN p e to 7 x = true := by
  rcases wayN_grow (e := e) ok ht 7 with h' | h'
  · rw [← h' x hx]; exact h
  · have := cnt_le (wayN p e to 7) p.s.length
    omega
theorem wayN_snoc {to y : Nat} (hp : pas p e to = true) (hy : (y : Int) ∈ at_ p.s to) : ∀ k x, wayN p e to k x = true → wayN p e y (k + 1) x = true
  | 0, x, h => by
    simp [wayN] at h
    subst h
    simp only [wayN, Bool.or_eq_true, Bool.and_eq_true, List.any_eq_true]
    exact .inr ⟨hp, _, hy, by simp⟩
  | k + 1, x, h => by
    have ih := wayN_snoc hp hy k
    have h0 := h
    simp only [wayN, Bool.or_eq_true, Bool.and_eq_true, List.any_eq_true] at h
    rcases h with h | ⟨h1, z, h2, h3⟩
    · have : x = to := of_decide_eq_true h
      subst this
      have : ∀ k, wayN p e y (k + 1) x = true := by
        intro k
        induction k with
        | zero =>
          simp only [wayN, Bool.or_eq_true, Bool.and_eq_true, List.any_eq_true]
          exact .inr ⟨hp, _, hy, by simp⟩
        | succ k ih => exact wayN_mono y _ _ ih
      exact this _
    · have := ih _ h3
      show (_ || (_ && (at_ p.s x).any fun y' => wayN p e y (k + 1) y'.toNat)) = true
      simp only [Bool.or_eq_true, Bool.and_eq_true, List.any_eq_true]
      exact .inr ⟨h1, z, h2, this⟩
theorem wayN_sound {W : Nat} (ok : p.Ok W) {C : Nat → Bool} (L : ClF p e C) {to : Nat} : ∀ k x, x < p.s.length → C x = true → wayN p e to k x = true → C to = true
  | 0, x, _, hC, h => by simp [wayN] at h; subst h; exact hC
  | k + 1, x, hx, hC, h => by
    have ih := wayN_sound ok L (to := to) k
    simp only [wayN, Bool.or_eq_true, Bool.and_eq_true, List.any_eq_true] at h
    rcases h with h | ⟨h1, z, h2, h3⟩
    · have : x = to := of_decide_eq_true h
      subst this; exact hC
    · have hz := ok.s x z h2
      refine ih z.toNat (by omega) (L.go x hx ?_ z h2) h3
      revert h1
      rw [hC]
      unfold lv pas
      cases gen p e x <;> cases kil p e x <;> simp
theorem isS_iff {to : Nat} : isS p e to = true ↔ ((e : Int) ∈ p.e ∧ wayN p e to 7 0 = true) ∨ ∃ i, i < p.g.length ∧ gen p e i = true ∧ ∃ y ∈ at_ p.s i, wayN p e to 7 y.toNat = true := by
  unfold isS
  simp only [Bool.or_eq_true, List.any_eq_true, Bool.and_eq_true, List.mem_range, gen, decide_eq_true_eq]
  constructor
  · rintro (⟨y, h1, rfl, h2⟩ | ⟨i, h1, z, h2, rfl, h3⟩)
    · exact .inl ⟨h1, h2⟩
    · exact .inr ⟨i, h1, h2, h3⟩
  · rintro (⟨h1, h2⟩ | ⟨i, h1, h2, h3⟩)
    · exact .inl ⟨_, h1, rfl, h2⟩
    · exact .inr ⟨i, h1, _, h2, rfl, h3⟩
theorem ways_law {W : Nat} (ok : p.Ok W) (hn : p.s.length ≤ 7) {C : Nat → Bool} (L : LsF p e C) {to : Nat} (ht : to < p.s.length) : C to = isS p e to := by
  have hgi : ∀ {i}, gen p e i = true → i < p.g.length := by
    intro i hi
    rcases Nat.lt_or_ge i p.g.length with h | h
    · exact h
    · simp [gen, at_ge h] at hi
  refine Bool.eq_iff_iff.2 ⟨fun h => L.least (isS p e) ⟨fun _ he => isS_iff.2 (.inl ⟨he, wayN_refl 0 7⟩), fun i hi hl y hy => isS_iff.2 ?_⟩ to ht h, fun h => ?_⟩
  · have hy' := ok.s i y hy
    unfold lv at hl
    rcases Bool.or_eq_true_iff.1 hl with hg | hl
    · exact .inr ⟨i, hgi hg, hg, y, hy, wayN_refl _ 7⟩
    · obtain ⟨hd, hk⟩ := Bool.and_eq_true_iff.1 hl
      have hp : pas p e i = true := by unfold pas; cases hh : kil p e i <;> simp_all
      have hyc : ((y.toNat : Nat) : Int) ∈ at_ p.s i := by rw [Int.toNat_of_nonneg hy'.1]; exact hy
      rcases isS_iff.1 hd with ⟨h1, h2⟩ | ⟨j, h1, h2, z, h3, h4⟩
      · exact .inl ⟨h1, wayN_7 ok hn (by omega) (by omega) (wayN_snoc hp hyc 7 0 h2)⟩
      · have hz := ok.s j z h3
        exact .inr ⟨j, h1, h2, z, h3, wayN_7 ok hn (by omega) (by omega) (wayN_snoc hp hyc 7 _ h4)⟩
  · rcases isS_iff.1 h with ⟨h1, h2⟩ | ⟨j, h1, h2, z, h3, h4⟩
    · exact wayN_sound ok L.cl 7 0 (by omega) (L.cl.ent (by omega) h1) h2
    · have hz := ok.s j z h3
      have := ok.gl
      exact wayN_sound ok L.cl 7 _ (by omega) (L.cl.go j (by omega) (by unfold lv; rw [h2]; rfl) z h3) h4
end

section
variable {a0 : Sv} {a1 : Int} {a2 a3 a4 : Sv} {p : Pb}
theorem way_spec {W : Nat} (ok : p.Ok W) (B : p.Bd) (e to : Nat) : ∀ (k : Nat), k ≤ 7 → ∀ (h : Heap) (x : Nat), x < p.s.length → PbAt h a0 a1 a2 a3 a4 p →
    CallsH Try.prog 13 #[pbV a0 a1 a2 a3 a4, .int .i64 e, .int .i64 x, .int .i64 to, .int .i64 k] h (fun v h' => v = .bool (wayN p e to k x) ∧ Grow h h') := by
  intro k
  induction k with
  | zero =>
    intro _ h x hx X
    apply F13
    unfold L13
    rintro p5 h1 rfl rfl
    have f1 : Grow h (h.push (.cells (pbC a0 a1 a2 a3 a4) 25)) := Fr.push _ _ _
    have e1 : h.push (.cells #[.slice a0.a a0.n a0.c, .int .i64 a1, .slice a2.a a2.n a2.c, .slice a3.a a3.n a3.c, .slice a4.a a4.n a4.c] 25) = h.push (.cells (pbC a0 a1 a2 a3 a4) 25) := rfl
    rw [e1]
    generalize h.push (.cells (pbC a0 a1 a2 a3 a4) 25) = h1 at *
    refine ifb_iff (q := x = to) (by simp; omega) (fun hq => ⟨by simp [wayN, hq], f1⟩) (fun hq => ?_)
    refine ⟨fun b h' => b = true ∧ h1 = h', ⟨fun _ => ⟨rfl, rfl⟩, fun e => (by cases e)⟩, ?_⟩
    rintro _ _ ⟨rfl, rfl⟩
    exact ⟨fun _ => ⟨by simp [wayN, hq], f1⟩, fun e => (by cases e)⟩
  | succ k ih =>
    intro hk7 h x hx X
    apply F13
    unfold L13
    rintro p5 h1 rfl rfl
    have f1 : Grow h (h.push (.cells (pbC a0 a1 a2 a3 a4) 25)) := Fr.push _ _ _
    have kb := blk.new h (pbC a0 a1 a2 a3 a4) 25
    have e1 : h.push (.cells #[.slice a0.a a0.n a0.c, .int .i64 a1, .slice a2.a a2.n a2.c, .slice a3.a a3.n a3.c, .slice a4.a a4.n a4.c] 25) = h.push (.cells (pbC a0 a1 a2 a3 a4) 25) := rfl
    rw [e1]
    generalize h.push (.cells (pbC a0 a1 a2 a3 a4) 25) = h1 at *
    refine ifb_iff (q := x = to) (by simp; omega) (fun hq => ⟨by simp [wayN, hq], f1⟩) (fun hq => ?_)
    have X1 := X.grow f1
    refine ⟨fun b h' => b = !pas p e x ∧ h1 = h', ⟨fun e => ?_, fun _ => ?_⟩, ?_⟩
    · have : ((k + 1 : Nat) : Int) ≠ 0 := by omega
      exact absurd (by simpa using e) this
    · refine ldS_i (s := a3) (by rw [add_plain, kb.cl]; rfl) ?_
      refine cal_of (has_spec' X1.k x e B.k1) ?_
      rintro _ _ ⟨rfl, rfl⟩
      refine ⟨_, rfl, fun b h' => b = !pas p e x ∧ h1 = h', ⟨fun hk => ?_, fun hk => ?_⟩, ?_⟩
      · refine ldS_i (s := a2) (by rw [add_plain, kb.cl]; rfl) ?_
        refine cal_of (has_spec' X1.g x e B.g1) ?_
        rintro _ _ ⟨rfl, rfl⟩
        have hk' : kil p e x = true := hk
        exact ⟨_, rfl, by unfold pas; rw [hk']; simp [gen], rfl⟩
      · have hk' : kil p e x = false := hk
        exact ⟨by unfold pas; rw [hk']; rfl, rfl⟩
      rintro _ _ ⟨rfl, rfl⟩
      exact ⟨rfl, rfl⟩
    rintro _ _ ⟨rfl, rfl⟩
    have hw : wayN p e to (k + 1) x = (pas p e x && (at_ p.s x).any fun y => wayN p e to k y.toNat) := by
      have : decide (x = to) = false := decide_eq_false hq
      show (decide (x = to) || _) = _
      rw [this, Bool.false_or]
    rw [hw]
    refine ⟨fun hp => ?_, fun hp => ?_⟩
    · have : pas p e x = false := by simpa using hp
      exact ⟨by rw [this]; rfl, f1⟩
    have hp : pas p e x = true := by simpa using hp
    rw [hp, Bool.true_and]
    have hts : at_ p.s x = p.s[x] := at_lt hx
    have hin : ∀ y ∈ p.s[x], 0 ≤ y ∧ y < p.s.length := by rw [← hts]; exact ok.s x
    have hlen := B.s1 _ (List.getElem_mem hx)
    rw [hts]
    refine ⟨fun z h6 => ∃ j : Nat, z = j ∧ j ≤ p.s[x].length ∧ (p.s[x].take j).any (fun y => wayN p e to k y.toNat) = false ∧ Grow h1 h6, fun z _ => (p.s[x].length - z).toNat, ⟨0, rfl, by omega, by simp, Fr.refl _ _⟩, ?_⟩
    rintro z h6 ⟨j, rfl, hj, hno, g6⟩
    have kb6 := g6.blk kb (fun h => h)
    have g06 := f1.trans g6
    refine ldS_i (s := a0) (by rw [kb6.cl]; rfl) ?_
    refine ListsAt.getg X.s g06 hx fun t yt => ?_
    have htn := yt.len
    refine ifb_dec (fun hlt => ?_) (fun hge => ?_)
    · have hjl : j < p.s[x].length := by omega
      have hwj : IntKind.i64.wrap ((j : Int) + 1) = ((j + 1 : Nat) : Int) := by rw [wrap64_id (by omega) (by omega)]; omega
      refine ⟨a0, a1, a2, a3, a4, by rw [kb6.cl]; rfl, by rw [add_plain, kb6.cl]; rfl, by rw [add_plain, kb6.cl]; rfl, by rw [add_plain, kb6.cl]; rfl, by rw [add_plain, kb6.cl]; rfl, ?_⟩
      refine ldS_i (s := a0) (by rw [kb6.cl]; rfl) ?_
      refine ListsAt.getg X.s g06 hx fun t yt => ?_
      refine (yt.keep g06 fun _ _ h => h).get hjl ?_
      obtain ⟨y, ey⟩ := Int.eq_ofNat_of_zero_le (hin _ (List.getElem_mem hjl)).1
      have hy := (hin _ (List.getElem_mem hjl)).2
      have htk : (p.s[x].take (j + 1)).any (fun y => wayN p e to k y.toNat) = wayN p e to k y := by
        rw [List.take_succ_eq_append_getElem hjl, List.any_append, hno, ey]
        simp
      have hwk : IntKind.i64.wrap (((k + 1 : Nat) : Int) - 1) = (k : Int) := by rw [wrap64_id (by omega) (by omega)]; omega
      rw [ey] at hy ⊢
      rw [hwk]
      refine cal_of (ih (by omega) h6 y (by omega) (X.grow g06)) ?_
      rintro _ h7 ⟨rfl, f7⟩
      refine ⟨_, rfl, fun hb => ⟨?_, g06.trans f7⟩, fun hb => ⟨⟨j + 1, hwj, by omega, by rw [htk]; exact hb, g6.trans f7⟩, by rw [hwj]; (try dsimp only); omega⟩⟩
      congr 1
      refine (List.any_eq_true.2 ⟨_, List.getElem_mem hjl, ?_⟩).symm
      rw [ey]
      exact hb
    · have : j = p.s[x].length := by omega
      subst this
      rw [List.take_length] at hno
      exact ⟨by rw [hno], g06⟩
end
end Go.Proofs.Ytglhkodebehdbaa

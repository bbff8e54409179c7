/-
  settle, walked: till nothing is to do.
-/
import Derived.Test.YtgbmihnainbgiaaDoorS2
namespace Go.Proofs.YtgbmihnainbgiaaDoor
open Go Go.Lf

def todoN (h : Heap) (bs : Nat) : Nat := match cl h ⟨bs, 4, none⟩ with
  | some (.slice _ n _) => n
  | _ => 0
def leftH (x : Sh) (h : Heap) : Nat := x.n * (64 * x.nw) - cntS x.n (64 * x.nw) fun i e => bitH h (x.rb i) e
def muS (x : Sh) (S : Nat → Nat → Bool) (t : Nat) : Nat := 2 * (x.n * (64 * x.nw) - cntS x.n (64 * x.nw) S) + t
theorem SolOk.mu {x : Sh} {d : Sd} {h : Heap} (k : SolOk x d h) : 2 * leftH x h + todoN h x.bs = muS x d.S d.tl.length := by
  have e1 : leftH x h = x.n * (64 * x.nw) - cntS x.n (64 * x.nw) d.S := by
    unfold leftH
    rw [cntS_congr fun i e hi he => WordsAt.bitH (k.row i hi) he]
  have e2 : todoN h x.bs = d.tl.length := by
    unfold todoN
    rw [k.cd]
    exact k.dlen
  rw [e1, e2]
  rfl

/-- a set of regions that has, with each, those that outlive it -/
def ClD (n : Nat) (ol : Nat → List Nat) (D : Nat → Bool) : Prop := ∀ b, b < n → D b = true → ∀ a ∈ ol b, D a = true
/-- between the solver at first and now -/
structure Inv (x : Sh) (d0 d : Sd) : Prop where
  ol : d.ol = d0.ol
  t1 : ∀ r ∈ d.tl, r < x.n
  f1 : ∀ r, r < x.n → d.F r = true → r ∈ d.tl
  le : ∀ r e, r < x.n → e < 64 * x.nw → d0.S r e = true → d.S r e = true
  mn : ∀ e, e < 64 * x.nw → ∀ D, ClD x.n d0.ol D → (∀ r, r < x.n → d0.S r e = true → D r = true) → ∀ r, r < x.n → d.S r e = true → D r = true

theorem settle_spec {x : Sh} {d : Sd} {h : Heap} (k : SolOk x d h) (hW : x.W ≤ 2700) (hn : x.n ≤ 1501) (hol : ∀ b, b < x.n → ∀ a ∈ d.ol b, a < x.n) (hll : ∀ b, b < x.n → (d.ol b).length ≤ 100000000)
    (t1 : ∀ r ∈ d.tl, r < x.n) (f1 : ∀ r, r < x.n → d.F r = true → r ∈ d.tl) (p2 : ∀ b, b < x.n → ∀ a ∈ d.ol b, b ∈ d.tl ∨ ∀ e, e < 64 * x.nw → d.S b e = true → d.S a e = true) (htl : d.tl.length ≤ 2) :
    CallsH Tryd.prog 20 #[.pointer (some ⟨x.bs, 0, none⟩)] h (fun _ h' => ∃ d' : Sd, SolOk x d' h' ∧ Inv x d d' ∧ d'.tl = [] ∧ (∀ b, b < x.n → ∀ a ∈ d.ol b, ∀ e, e < 64 * x.nw → d'.S b e = true → d'.S a e = true) ∧
      Fr (fun b => d.w b ≠ 0) h h' ∧ (∀ b, b < h.size → d'.w b = d.w b)) := by
  apply F20
  unfold L20
  have hm : x.n * (64 * x.nw) ≤ 1501 * (64 * 43) := Nat.mul_le_mul hn (by unfold Sh.nw; omega)
  refine ⟨fun h1 => ∃ d1 : Sd, SolOk x d1 h1 ∧ Inv x d d1 ∧ (∀ b, b < x.n → ∀ a ∈ d.ol b, b ∈ d1.tl ∨ ∀ e, e < 64 * x.nw → d1.S b e = true → d1.S a e = true) ∧ Fr (fun b => d.w b ≠ 0) h h1 ∧ (∀ b, b < h.size → d1.w b = d.w b) ∧ muS x d1.S d1.tl.length ≤ 10000000,
    fun h1 => 2 * leftH x h1 + todoN h1 x.bs, ⟨d, k, ⟨rfl, t1, f1, fun _ _ _ _ h => h, fun _ _ _ _ h => h⟩, p2, Fr.refl _ _, fun _ _ => rfl, by unfold muS; omega⟩, ?_⟩
  rintro h1 ⟨d1, k1, I1, q1, g1, w1, m1⟩
  refine nn_i (ldS_i (s := d1.td) (by rw [add_plain]; exact k1.cd) ?_)
  have hdl := k1.dlen
  have ht1 : d1.tl.length ≤ 10000000 := by unfold muS at m1; omega
  refine ifb_dec (fun hpos => ?_) (fun hz => ?_)
  rotate_left
  · have e0 : d1.tl = [] := List.eq_nil_of_length_eq_zero (by omega)
    refine ⟨d1, k1, I1, e0, fun b hb a ha e he hS => ?_, g1, w1⟩
    rcases q1 b hb a ha with hq | hq
    · rw [e0] at hq; cases hq
    · exact hq e he hS
  rcases List.eq_nil_or_concat d1.tl with e0 | ⟨tl, b, e0⟩
  · rw [e0] at hdl; simp at hdl; omega
  rw [List.concat_eq_append] at e0
  have hlen : d1.tl.length = tl.length + 1 := by rw [e0]; simp
  have hwi : IntKind.i64.wrap (((d1.td.n : Nat) : Int) - 1) = ((tl.length : Nat) : Int) := by rw [wrap64_id (by omega) (by omega)]; omega
  have hb : b < x.n := I1.t1 b (by rw [e0]; simp)
  refine nn_i (nn_i (ldS_i (s := d1.td) (by rw [add_plain]; exact k1.cd) (ldS_i (s := d1.td) (by rw [add_plain]; exact k1.cd) ?_)))
  rw [hwi]
  have xt : IntsAt h1 d1.td (d1.tl.map fun a : Nat => (a : Int)) := own_ints (by rw [← natI_ints]; exact k1.tod)
  have hgi : (d1.tl.map fun a : Nat => (a : Int))[tl.length]'(by simp; omega) = (b : Int) := by simp [e0]
  refine xt.get (by simp; omega) ?_
  rw [hgi]
  refine nn_i (nn_i (ldS_i (s := d1.td) (by rw [add_plain]; exact k1.cd) (ldS_i (s := d1.td) (by rw [add_plain]; exact k1.cd) ?_)))
  rw [hwi]
  refine slS_head (by rcases k1.tod.mem with ⟨_, e, _⟩ | ⟨g, cur, _, _, _, e, _⟩ <;> omega) ?_
  refine nn_i ?_
  rw [add_plain]
  have oh := k1.tod.head (m := tl.length) (by omega)
  have etk : (natI d1.tl).take (tl.length * 1) = natI tl := by rw [e0]; simp [natI]
  rw [etk] at oh
  refine k1.setTod (td := ⟨d1.td.a, tl.length, d1.td.c⟩) (tl := tl) oh (Fr.refl _ _) (fun b hb => .inl hb) fun h2 k2 f2 z2 => ?_
  refine nn_i (ldS_i (s := ⟨some ⟨x.ib, 0, none⟩, x.n, x.n⟩) (by rw [add_plain]; exact k2.ci) (ixS_i rfl (by omega) (by show (b : Int) < (x.n : Int); omega) ?_))
  rw [Int.toNat_natCast, Nat.mul_one, add_plain, Nat.zero_add]
  refine k2.inn.put hb false fun h3 B3 f3 => ?_
  have k3 := k2.setIn f3 B3
  have w12 : ∀ b, wNew d1.w (Array.size h1) (Array.size h1) 5 b = d1.w b := fun b => by unfold wNew; rw [if_neg (by omega)]
  have k3' : SolOk x { d1 with td := ⟨d1.td.a, tl.length, d1.td.c⟩, tl := tl, F := fun j => if j = b then false else d1.F j } h3 := by
    have e : wNew d1.w (Array.size h1) (Array.size h1) 5 = d1.w := funext w12
    rw [e] at k3
    exact k3
  have f13 : Fr (fun b => d1.w b ≠ 0) h1 h3 := f2.trans' f3 fun i _ e => by rw [e, k1.w4]; omega
  clear k3
  obtain ⟨cs, c1, c2, c3⟩ := k3'.obk
  refine nn_i (ldS_i (s := ⟨some ⟨x.ob, 0, none⟩, x.n, x.n⟩) (by rw [add_plain]; exact k3'.co) (ixS_i rfl (by omega) (by show (b : Int) < (x.n : Int); omega) (ldS_i (s := d1.os b) (by rw [add_plain, Nat.zero_add, c1.cl]; exact c3 b hb) ?_)))
  have hob := hll b hb
  have eol : d1.ol = d.ol := I1.ol
  refine ⟨fun y h4 => ∃ (i : Nat) (d4 : Sd), y = i ∧ i ≤ (d.ol b).length ∧ SolOk x d4 h4 ∧ Inv x d d4 ∧ d4.os = d1.os ∧ (∀ b', b' < x.n → b' ≠ b → ∀ a ∈ d.ol b', b' ∈ d4.tl ∨ ∀ e, e < 64 * x.nw → d4.S b' e = true → d4.S a e = true) ∧
      (∀ a ∈ (d.ol b).take i, ∀ e, e < 64 * x.nw → d4.S b e = true → d4.S a e = true) ∧ Fr (fun b => d1.w b ≠ 0) h1 h4 ∧ (∀ b, b < h1.size → d4.w b = d1.w b) ∧ muS x d4.S d4.tl.length + 1 ≤ muS x d1.S d1.tl.length,
    fun y _ => ((d.ol b).length - y).toNat, ⟨0, _, rfl, by omega, k3', ⟨eol, fun r hr => I1.t1 r (by rw [e0]; exact List.mem_append_left _ hr), fun r hr hF => ?_, I1.le, I1.mn⟩, rfl, fun b' hb' hne a ha => ?_, fun a ha => (by simp at ha), f13, fun _ _ => rfl, ?_⟩, ?_⟩
  · dsimp only at hF
    by_cases e : r = b
    · rw [if_pos e] at hF; cases hF
    · rw [if_neg e] at hF
      have := I1.f1 r hr hF
      rw [e0] at this
      simpa [e] using this
  · rcases q1 b' hb' a ha with hq | hq
    · rw [e0] at hq
      exact .inl (by simpa [hne] using hq)
    · exact .inr hq
  · show muS x d1.S tl.length + 1 ≤ _
    unfold muS
    omega
  rintro y h4 ⟨i, d4, rfl, hi, k4, I4, os4, q4, a4, g4, w4, m4⟩
  have ht4 : d4.tl.length ≤ 10000000 := by unfold muS at m4 m1; omega
  have hl4 : (d1.os b).n = (d.ol b).length := by have := k4.llen hb; rw [os4, I4.ol] at this; exact this
  refine ifb_dec (fun hlt => ?_) (fun hge => ?_)
  · have hil : i < (d.ol b).length := by omega
    have hwi : IntKind.i64.wrap ((i : Int) + 1) = ((i + 1 : Nat) : Int) := by rw [wrap64_id (by omega) (by omega)]; omega
    refine ⟨fun h7 => ∃ d7 : Sd, SolOk x d7 h7 ∧ Inv x d d7 ∧ d7.os = d1.os ∧ (∀ b', b' < x.n → b' ≠ b → ∀ a ∈ d.ol b', b' ∈ d7.tl ∨ ∀ e, e < 64 * x.nw → d7.S b' e = true → d7.S a e = true) ∧
      (∀ a ∈ (d.ol b).take (i + 1), ∀ e, e < 64 * x.nw → d7.S b e = true → d7.S a e = true) ∧ Fr (fun b => d1.w b ≠ 0) h1 h7 ∧ (∀ b, b < h1.size → d7.w b = d1.w b) ∧ muS x d7.S d7.tl.length + 1 ≤ muS x d1.S d1.tl.length, ?_,
      fun h7 ⟨d7, r1, r2, r3, r4, r5, r6, r7, r8⟩ => ⟨⟨i + 1, d7, hwi, by omega, r1, r2, r3, r4, r5, r6, r7, r8⟩, by rw [hwi]; (try dsimp only); omega⟩⟩
    have xl : IntsAt h4 (d1.os b) ((d.ol b).map fun a : Nat => (a : Int)) := own_ints (by have := k4.lst b hb; rw [os4, I4.ol] at this; rw [← natI_ints]; exact this)
    refine xl.get (by simpa using hil) ?_
    have ha : (d.ol b)[i] < x.n := hol b hb _ (List.getElem_mem hil)
    have hai : (d.ol b)[i] ∈ d.ol b := List.getElem_mem hil
    have htk : (d.ol b).take (i + 1) = (d.ol b).take i ++ [(d.ol b)[i]] := List.take_succ_eq_append_getElem hil
    have hgx : ((d.ol b).map fun a : Nat => (a : Int))[i]'(by simpa using hil) = (((d.ol b)[i] : Nat) : Int) := by simp
    rw [hgx, htk]
    generalize (d.ol b)[i] = a at *
    refine cal_of (join_spec k4 hW ha hb) ?_
    rintro _ h5 ⟨nb, rfl, k5, f5, nb1, nb2⟩
    refine ⟨nb, rfl, ?_⟩
    have g5 : Fr (fun b => d1.w b ≠ 0) h1 h5 := g4.trans' f5 fun i hi e => by rw [← w4 i hi, e, k4.w6 a ha]; omega
    -- what the join leaves
    have up : ∀ r e, d4.S r e = true → (if r = a then fun e => d4.S a e || d4.S b e else d4.S r) e = true := by
      intro r e hS
      by_cases er : r = a
      · subst er; simp [hS]
      · simpa [er] using hS
    have same : ∀ r e, r ≠ a → (if r = a then fun e => d4.S a e || d4.S b e else d4.S r) e = d4.S r e := fun r e hne => by simp [hne]
    have bsame : ∀ e, (if b = a then fun e => d4.S a e || d4.S b e else d4.S b) e = true → d4.S b e = true := by
      intro e hS
      by_cases er : b = a
      · subst er; simpa using hS
      · simpa [er] using hS
    have mn5 : ∀ e, e < 64 * x.nw → ∀ D, ClD x.n d.ol D → (∀ r, r < x.n → d.S r e = true → D r = true) → ∀ r, r < x.n → (if r = a then fun e => d4.S a e || d4.S b e else d4.S r) e = true → D r = true := by
      intro e he D hD h0 r hr hS
      by_cases er : r = a
      · subst er
        simp only [if_true, Bool.or_eq_true] at hS
        rcases hS with hS | hS
        · exact I4.mn e he D hD h0 r hr hS
        · exact hD b hb (I4.mn e he D hD h0 b hb hS) r hai
      · rw [same r e er] at hS
        exact I4.mn e he D hD h0 r hr hS
    refine ⟨fun hb1 => ?_, fun hb1 => ?_⟩
    · refine cal_of (push_spec k5 ha (by dsimp only; omega)) ?_
      rintro _ h6 ⟨d6, k6, eS, eo, es, eF, etl, f6, w6⟩
      dsimp only at eS eo es eF etl f6 w6
      have tin : ∀ r ∈ d4.tl, r ∈ d6.tl := by
        rcases etl with e | ⟨e, _⟩ <;> rw [e]
        · exact fun r hr => List.mem_append_left _ hr
        · exact fun r hr => hr
      have ain : a ∈ d6.tl := by
        rcases etl with e | ⟨e, hF⟩ <;> rw [e]
        · simp
        · exact I4.f1 a ha hF
      refine ⟨d6, k6, ⟨by rw [eo]; exact I4.ol, fun r hr => ?_, fun r hr hF => ?_, fun r e hr he hS => by rw [eS]; exact up r e (I4.le r e hr he hS), by rw [eS]; exact mn5⟩, by rw [es]; exact os4, fun b' hb' hne a' ha' => ?_, fun a' ha' e he hS => ?_,
        g5.trans' f6 fun i hi hw => by rw [← w4 i hi]; exact hw, fun i hi => by rw [w6 i (by have := g5.size; omega)]; exact w4 i hi, ?_⟩
      · rcases etl with e | ⟨e, _⟩ <;> rw [e] at hr
        · rcases List.mem_append.1 hr with hr | hr
          · exact I4.t1 r hr
          · simp only [List.mem_singleton] at hr; rw [hr]; exact ha
        · exact I4.t1 r hr
      · rw [eF] at hF
        by_cases er : r = a
        · rw [er]; exact ain
        · exact tin r (I4.f1 r hr (by simpa [er] using hF))
      · by_cases er : b' = a
        · rw [er]; exact .inl ain
        · rcases q4 b' hb' hne a' ha' with hq | hq
          · exact .inl (tin _ hq)
          · refine .inr fun e he hS => ?_
            rw [eS] at hS ⊢
            exact up a' e (hq e he ((same b' e er).symm.trans hS))
      · rw [eS] at hS ⊢
        have hS2 := bsame e hS
        rcases List.mem_append.1 ha' with ha' | ha'
        · exact up a' e (a4 a' ha' e he hS2)
        · simp only [List.mem_singleton] at ha'
          subst ha'
          simp [hS2]
      · obtain ⟨e, he, o1, o2⟩ := nb1 hb1
        have hc : cntS x.n (64 * x.nw) d4.S < cntS x.n (64 * x.nw) d6.S := by
          rw [eS]
          exact cntS_lt (fun r e _ _ hS => up r e hS) ha he o2 (by simp [o1])
        have c6 := cntS_le x.n (64 * x.nw) d6.S
        have hl : d6.tl.length ≤ d4.tl.length + 1 := by rcases etl with e | ⟨e, _⟩ <;> rw [e] <;> simp
        unfold muS at m4 ⊢
        omega
    · have eqS : ∀ r e, r < x.n → e < 64 * x.nw → (if r = a then fun e => d4.S a e || d4.S b e else d4.S r) e = d4.S r e := by
        intro r e _ he
        by_cases er : r = a
        · subst er
          simp only [if_true]
          cases hS : d4.S b e with
          | false => simp
          | true => simp [nb2 hb1 e he hS]
        · exact same r e er
      refine ⟨_, k5, ⟨I4.ol, I4.t1, I4.f1, fun r e hr he hS => up r e (I4.le r e hr he hS), mn5⟩, os4, fun b' hb' hne a' ha' => ?_, fun a' ha' e he hS => ?_, g5, w4, ?_⟩
      · rcases q4 b' hb' hne a' ha' with hq | hq
        · exact .inl hq
        · exact .inr fun e he hS => up a' e (hq e he ((eqS b' e hb' he).symm.trans hS))
      · have hS2 := bsame e hS
        rcases List.mem_append.1 ha' with ha' | ha'
        · exact up a' e (a4 a' ha' e he hS2)
        · simp only [List.mem_singleton] at ha'
          subst ha'
          simp [hS2]
      · have : cntS x.n (64 * x.nw) (fun j => if j = a then fun e => d4.S a e || d4.S b e else d4.S j) = cntS x.n (64 * x.nw) d4.S := cntS_congr eqS
        unfold muS at m4 ⊢
        dsimp only
        rw [this]
        exact m4
  · have hie : i = (d.ol b).length := by omega
    subst hie
    rw [List.take_length] at a4
    refine ⟨⟨d4, k4, I4, fun b' hb' a ha => ?_, g1.trans' g4 fun i hi hw => by rw [← w1 i hi]; exact hw, fun i hi => by rw [w4 i (by have := g1.size; omega)]; exact w1 i hi, by omega⟩, ?_⟩
    · by_cases e : b' = b
      · subst e; exact .inr (a4 a ha)
      · exact q4 b' hb' e a ha
    · dsimp only
      rw [k4.mu, k1.mu]
      omega
end Go.Proofs.YtgbmihnainbgiaaDoor

/-
  Paths that begin others; whole values; the place of a part.
-/
import Derived.Test.YtggacajnmgligaaH2
import Derived.Test.YtggacajnmgligaaLiftN
namespace Go.Proofs.Ytggacajnmgligaa
open Go Go.Lf
set_option linter.unusedVariables false

section
variable {h : Heap}
theorem eq_spec {a b : Sv} {xs ys : List Int} (hx : IntsAt h a xs) (hy : IntsAt h b ys) (hb : xs.length ≤ 1000000) : CallsH Try.prog 58 #[.slice a.a a.n a.c, .slice b.a b.n b.c] h (fun v h' => h = h' ∧ v = .bool (xs == ys)) := by
  apply F58
  unfold L58
  rw [hx.len, hy.len]
  refine ifb_iff (q := xs.length ≠ ys.length) (by simp; omega) (fun hne => ⟨rfl, ?_⟩) (fun heq => ?_)
  · have : (xs == ys) = false := by
      rw [beq_eq_false_iff_ne]
      exact fun e => hne (by rw [e])
    rw [this]
  have heq : xs.length = ys.length := by omega
  refine ⟨fun i => ∃ j : Nat, i = j ∧ j ≤ xs.length ∧ xs.take j = ys.take j, fun i => xs.length - i.toNat, ⟨0, rfl, Nat.zero_le _, rfl⟩, ?_⟩
  rintro _ ⟨j, rfl, hj, hh⟩
  refine ifb_iff (q := j < xs.length) (by simp) (fun hlt => ?_) (fun hge => ?_)
  · have hlt' : j < ys.length := by omega
    obtain ⟨p, e1, c1⟩ := hx.at_ j hlt
    obtain ⟨q, e2, c2⟩ := hy.at_ j hlt'
    refine ⟨p, e1, by omega, by rw [hx.len]; omega, _, by rw [Int.toNat_natCast]; exact c1, q, e2, by omega, by rw [hy.len]; omega, _, by rw [Int.toNat_natCast]; exact c2, fun e => ⟨rfl, ?_⟩, fun e => ?_⟩
    · have : (xs == ys) = false := by
        rw [beq_eq_false_iff_ne]
        intro he
        subst he
        simp at e
      rw [this]
    · have e' : xs[j] = ys[j] := by simpa using e
      rw [wrap_succ hlt (by omega)]
      refine ⟨⟨j + 1, rfl, hlt, ?_⟩, by simp; omega⟩
      rw [List.take_succ_eq_append_getElem hlt, List.take_succ_eq_append_getElem hlt', hh, e']
  · have : j = xs.length := by omega
    subst this
    rw [List.take_length, heq, List.take_length] at hh
    exact ⟨rfl, by rw [hh]; simp⟩
/-- a path, in memory -/
structure PAt (h : Heap) (s : Sv) (xs : List Int) : Prop where
  ints : IntsAt h s xs
  cap : s.n ≤ s.c
  few : xs.length ≤ 1000000
theorem PAt.grow {h h' : Heap} {s : Sv} {xs : List Int} (x : PAt h s xs) (g : Grow h h') : PAt h' s xs := ⟨x.ints.keep g fun _ _ h => h, x.cap, x.few⟩
theorem PAt.nil (h : Heap) : PAt h ⟨none, 0, 0⟩ [] := ⟨⟨rfl, fun i hi => by simp at hi⟩, Nat.le_refl _, by simp⟩
theorem PAt.ofC {Q : Nat → Prop} {s : Sv} {xs : List Int} (x : IntsC Q h s xs) (hf : xs.length ≤ 1000000) : PAt h s xs := ⟨x.ints, x.cap, hf⟩
theorem PAt.head {s : Sv} {xs : List Int} (x : PAt h s xs) {m : Nat} (hm : m ≤ xs.length) : IntsAt h ⟨s.a, m, s.c⟩ (xs.take m) := by
  refine ⟨by simp; omega, fun i hi => ?_⟩
  have hi' : i < xs.length := by simp at hi; omega
  obtain ⟨p, e, c⟩ := x.ints.at_ i hi'
  exact ⟨p, e, by simpa using c⟩
def begB (xs ys : List Int) : Bool := decide (xs.length ≤ ys.length) && xs == ys.take xs.length
theorem begins_spec {sa sb : Sv} {xs ys : List Int} (ha : PAt h sa xs) (hb : PAt h sb ys) : CallsH Try.prog 47 #[.slice sa.a sa.n sa.c, .slice sb.a sb.n sb.c] h (fun v h' => h = h' ∧ v = .bool (begB xs ys)) := by
  apply F47
  unfold L47
  have hna := ha.ints.len
  have hnb := hb.ints.len
  unfold begB
  refine ⟨fun v h' => h = h' ∧ v = (decide (xs.length ≤ ys.length) && xs == ys.take xs.length), ?_, fun _ _ ⟨rfl, e⟩ => ⟨rfl, by rw [e]⟩⟩
  refine ifb_iff (q := xs.length ≤ ys.length) (by rw [hna, hnb]; simp) (fun hle => ?_) (fun hgt => ⟨rfl, by rw [decide_eq_false hgt]; rfl⟩)
  refine slS_head (m := sa.n) (by have := hb.cap; omega) ?_
  rw [hna]
  refine cal_of (f := 58) (eq_spec (a := ⟨sa.a, xs.length, sa.c⟩) (b := ⟨sb.a, xs.length, sb.c⟩) (h := h) (by have := ha.ints; rw [← hna]; exact this) (hb.head hle) ha.few) ?_
  rintro _ _ ⟨rfl, rfl⟩
  exact ⟨_, rfl, rfl, by rw [decide_eq_true hle]; rfl⟩
def ovB (xs ys : List Int) : Bool := begB xs ys || begB ys xs
theorem overlap_spec {sa sb : Sv} {xs ys : List Int} (ha : PAt h sa xs) (hb : PAt h sb ys) : CallsH Try.prog 48 #[.slice sa.a sa.n sa.c, .slice sb.a sb.n sb.c] h (fun v h' => h = h' ∧ v = .bool (ovB xs ys)) := by
  apply F48
  unfold L48
  refine cal_of (begins_spec ha hb) ?_
  rintro _ _ ⟨rfl, rfl⟩
  refine ⟨_, rfl, fun v h' => h = h' ∧ v = ovB xs ys, ⟨fun e => ⟨rfl, by unfold ovB; rw [e]; rfl⟩, fun e => ?_⟩, fun _ _ ⟨rfl, e⟩ => ⟨rfl, by rw [e]⟩⟩
  refine cal_of (begins_spec hb ha) ?_
  rintro _ _ ⟨rfl, rfl⟩
  exact ⟨_, rfl, rfl, by unfold ovB; rw [e]; rfl⟩
/-! ### whole -/
noncomputable def wholeV : Vl → Bool := Vl.rec (motive_1 := fun _ => Bool) (motive_2 := fun _ => Bool) (fun k _ _ _ _ _ _ ih => decide (k ≠ 0) && ih) true (fun _ _ a b => a && b)
theorem whole_mk {k n : Int} {nm : ByteArray} {ts : List Vl} {al : Int} {pa : List Int} {tg : Int} : wholeV (.mk k n nm ts al pa tg) = (decide (k ≠ 0) && ts.all wholeV) := by
  have e : ∀ ts : List Vl, (Vl.rec_1 (motive_1 := fun _ => Bool) (motive_2 := fun _ => Bool) (fun k _ _ _ _ _ _ ih => decide (k ≠ 0) && ih) true (fun _ _ a b => a && b) ts : Bool) = ts.all wholeV := by
    intro ts
    induction ts with
    | nil => rfl
    | cons a ts ih => rw [List.all_cons, ← ih]; rfl
  rw [← e]; rfl
theorem whole_spec (t : Vl) : ∀ (o : Bool) (Q : Nat → Prop) (A : List Nat → Nat → Prop) (v : Vv) (h : Heap), few t → VAt o Q h t A v →
    CallsH Try.prog 49 #[.agg (vvs v)] h (fun x h' => Grow h h' ∧ x = .bool (wholeV t)) := by
  refine Vl.ind (P := fun t => ∀ (o : Bool) (Q : Nat → Prop) (A : List Nat → Nat → Prop) (v : Vv) (h : Heap), few t → VAt o Q h t A v →
    CallsH Try.prog 49 #[.agg (vvs v)] h (fun x h' => Grow h h' ∧ x = .bool (wholeV t))) ?_ t
  intro k n nm ts al pa tg ih o Q A v h hfew hv
  obtain ⟨hf1, hf2, hf3⟩ := few_mk.1 hfew
  obtain ⟨e1, e2, e3, e4, e5, e6, e7, e8⟩ := vAt_iff.1 hv
  apply F49
  unfold L49
  refine newV (v := v) fun h1 b1 f1 z1 => ?_
  refine ldI_i (x := v.k) (by rw [b1.cl]; rfl) ?_
  refine ⟨fun x h' => Grow h1 h' ∧ x = wholeV (.mk k n nm ts al pa tg), ⟨fun ek => ?_, fun ek => ⟨Fr.refl _ _, ?_⟩⟩, fun _ h2 ⟨f2, e⟩ => ⟨f1.trans f2, by rw [e]⟩⟩
  rotate_left
  · have hk : k = 0 := by rw [← e1]; simpa using ek
    rw [whole_mk, hk]; rfl
  have hk : k ≠ 0 := by rw [← e1]; simpa using ek
  rw [whole_mk, decide_eq_true hk, Bool.true_and]
  refine ldS_i (s := v.ps) (by rw [add_plain, b1.cl]; rfl) ?_
  -- the index of the first that isn't whole
  refine cal_of (f := 59) (J := fun x h' => Grow h1 h' ∧ x = .bool (!ts.all wholeV)) ?_ ?_
  rotate_left
  · rintro _ h3 ⟨f3, rfl⟩
    exact ⟨_, rfl, f3, by simp⟩
  apply F59
  unfold L59
  refine cal_of (f := 63) (J := fun x h' => Grow h1 h' ∧ ∃ i : Int, x = .int .i64 i ∧ decide (0 ≤ i) = !ts.all wholeV) ?_ ?_
  rotate_left
  · rintro _ h3 ⟨f3, i, rfl, e⟩
    exact ⟨_, rfl, f3, by rw [e]⟩
  apply F63
  unfold L63
  refine ⟨fun i h' => ∃ j : Nat, i = j ∧ j ≤ ts.length ∧ Grow h1 h' ∧ (ts.take j).all wholeV = true, fun i _ => ts.length - i.toNat, ⟨0, rfl, Nat.zero_le _, Fr.refl _ _, rfl⟩, ?_⟩
  rintro _ h3 ⟨j, rfl, hj, f3, hall⟩
  refine ifb_iff (q := j < ts.length) (by rw [e7]; simp) (fun hlt => ?_) (fun hge => ?_)
  · obtain ⟨p, u, q1, q2, q3, q4, q5⟩ := e8 j hlt
    have g3 := f1.trans f3
    refine ⟨p, q1, by omega, by rw [e7]; omega, ?_⟩
    rw [Int.toNat_natCast]
    refine rd7 (q4.fr g3 fun h => h) ?_
    refine ⟨_, _, rfl, ⟨Try.f60, Try.func60, by kernel_rfl, by kernel_rfl⟩, ?_⟩
    refine cal_of (f := 60) (J := fun x h' => Grow h3 h' ∧ x = .bool (!wholeV ts[j])) ?_ ?_
    · apply F60
      unfold L60
      refine newV (v := u) fun h4 b4 f4 z4 => ?_
      refine rd7 (Vv7.blk b4) ?_
      refine cal_of (ih ts[j] (List.getElem_mem hlt) o Q (shA A j) u h4 (hf3 _ (List.getElem_mem hlt)) ((q5.grow g3).grow f4)) ?_
      rintro _ h5 ⟨f5, rfl⟩
      exact ⟨_, rfl, f4.trans f5, rfl⟩
    · rintro _ h4 ⟨f4, rfl⟩
      refine ⟨_, rfl, fun e => ⟨f3.trans f4, _, rfl, ?_⟩, fun e => ?_⟩
      · have hw : wholeV ts[j] = false := by simpa using e
        have : ts.all wholeV = false := by
          rw [List.all_eq_false]
          exact ⟨_, List.getElem_mem hlt, by simp [hw]⟩
        rw [this]; simp
      · have hw : wholeV ts[j] = true := by simpa using e
        rw [wrap_succ hlt (by omega)]
        refine ⟨⟨j + 1, rfl, hlt, f3.trans f4, ?_⟩, by dsimp only; omega⟩
        rw [List.take_succ_eq_append_getElem hlt, List.all_append, hall]
        simp [hw]
  · have : j = ts.length := by omega
    subst this
    rw [List.take_length] at hall
    exact ⟨f3, _, rfl, by rw [hall]; rfl⟩
/-! ### the place of a part -/
def natsOf (xs : List Int) : List Nat := xs.map Int.toNat
theorem getV_getN : ∀ (xs : List Int) (t y : Vl), getV t xs = .ok y → getN t (natsOf xs) = some y
  | [], t, y, h => by
    unfold getV at h
    simp only [Except.ok.injEq] at h
    subst h; rfl
  | i :: xs, .mk k n nm ts al pa tg, y, h => by
    unfold getV at h
    split at h
    · cases h
    split at h
    · cases h
    show (match ts[i.toNat]? with | some u => getN u (natsOf xs) | none => none) = some y
    split at h
    · rename_i u hu
      rw [hu]
      exact getV_getN xs u y h
    · cases h
theorem getV_few : ∀ (xs : List Int) (t y : Vl), getV t xs = .ok y → few t → few y
  | [], t, y, h, hf => by
    unfold getV at h
    simp only [Except.ok.injEq] at h
    subst h; exact hf
  | i :: xs, .mk k n nm ts al pa tg, y, h, hf => by
    unfold getV at h
    split at h
    · cases h
    split at h
    · cases h
    split at h
    · rename_i u hu
      exact getV_few xs u y h ((few_mk.1 hf).2.2 u (List.mem_of_getElem? hu))
    · cases h
/-- a part's place, or why there is none -/
theorem part_spec {o : Bool} {Q : Nat → Prop} {A : List Nat → Nat → Prop} {t : Vl} {v : Vv} {p0 : Addr} {s : Sv} {xs : List Int} (ht : VAt o Q h t A v) (hv : Vv7 h (p0.add 1) v) (hx : IntsAt h s xs) (hl : xs.length ≤ 1000000) :
    CallsH Try.prog 32 #[.pointer (some p0), .slice s.a s.n s.c] h (fun x h' => h = h' ∧ match getV t xs with
      | .ok _ => ∃ p, x = .tuple #[.pointer (some p), .int .i64 0] ∧ Pl h (p0.add 1) (natsOf xs) p
      | .error f => x = .tuple #[.pointer none, .int .i64 f]) := by
  apply F32
  unfold L32
  refine ⟨p0, rfl, ?_⟩
  -- what is left of the way
  refine ⟨fun v6 i => ∃ (j : Nat) (p : Addr) (u : Vv) (y : Vl) (o' : Bool) (A' : List Nat → Nat → Prop), i = j ∧ v6 = some p ∧ j ≤ xs.length ∧ VAt o' Q h y A' u ∧ Vv7 h p u ∧ getV t xs = getV y (xs.drop j) ∧ ∀ q, Pl h p (natsOf (xs.drop j)) q → Pl h (p0.add 1) (natsOf xs) q, fun _ i => xs.length - i.toNat, ⟨0, p0.add 1, v, t, o, A, rfl, rfl, Nat.zero_le _, ht, hv, rfl, fun q hq => hq⟩, ?_⟩
  rintro _ _ ⟨j, p, u, ⟨k, n, nm, ts, al, pa, tg⟩, o', A', rfl, rfl, hj, hy, hu, hg, hq⟩
  refine ifb_iff (q := j < xs.length) (by rw [hx.len]; simp) (fun hlt => ?_) (fun hge => ?_)
  rotate_left
  · obtain rfl : j = xs.length := by omega
    rw [List.drop_length] at hg hq
    rw [hg]
    exact ⟨rfl, p, rfl, hq _ rfl⟩
  obtain ⟨e1, e2, e3, e4, e5, e6, e7, e8⟩ := vAt_iff.1 hy
  obtain ⟨q, ea, c⟩ := hx.at_ j hlt
  refine ⟨q, ea, by omega, by rw [hx.len]; omega, ?_⟩
  rw [Int.toNat_natCast]
  refine ldI_i c ?_
  have hd : xs.drop j = xs[j] :: xs.drop (j + 1) := List.drop_eq_getElem_cons hlt
  rw [hd] at hg hq
  generalize xs[j] = i at *
  have hk : cl h p = some (.int .i64 u.k) := by have := hu 0 _ rfl; rwa [add_zero] at this
  have hs : cl h (p.add 3) = some (.slice u.ps.a u.ps.n u.ps.c) := hu 3 _ rfl
  refine ⟨p, rfl, ldI_i hk ?_⟩
  rw [e1]
  refine ifb_iff (q := k = 0) (by simp) (fun hk0 => ?_) (fun hk0 => ?_)
  · rw [hg]; unfold getV; rw [if_pos hk0]
    exact ⟨rfl, rfl⟩
  refine ⟨p, rfl, ldI_i hk ?_⟩
  rw [e1]
  refine ⟨fun b => b = decide (k ≠ 5 ∨ i < 0 ∨ (ts.length : Int) ≤ i), ⟨fun e => ?_, fun e => ?_⟩, ?_⟩
  · have : k ≠ 5 ∨ i < 0 := by simpa using e
    have h3 : k ≠ 5 ∨ i < 0 ∨ (ts.length : Int) ≤ i := this.elim .inl fun h => .inr (.inl h)
    exact (decide_eq_true h3).symm
  · have e' : k = 5 ∧ 0 ≤ i := by simpa using e
    refine ⟨p, rfl, ldS_i hs ?_⟩
    rw [e7]
    simp only [ne_eq, e'.1, not_true, false_or]
    have h0 : ¬ i < 0 := by omega
    simp only [h0, false_or]
  intro x42 hx42
  refine ifb_iff (q := k ≠ 5 ∨ i < 0 ∨ (ts.length : Int) ≤ i) (by rw [hx42]; exact decide_eq_true_iff) (fun hbad => ?_) (fun hok => ?_)
  · rw [hg]; unfold getV; rw [if_neg hk0, if_pos hbad]
    exact ⟨rfl, rfl⟩
  have hok' : k = 5 ∧ 0 ≤ i ∧ i < (ts.length : Int) := by
    refine ⟨Decidable.not_not.1 fun e => hok (.inl e), Int.not_lt.1 fun e => hok (.inr (.inl e)), Int.not_le.1 fun e => hok (.inr (.inr e))⟩
  have hit : i.toNat < ts.length := by omega
  obtain ⟨q', u', r1, r2, r3, r4, r5⟩ := e8 i.toNat hit
  refine ⟨p, rfl, ldS_i hs ⟨q', r1, hok'.2.1, by rw [e7]; exact hok'.2.2, ?_⟩⟩
  rw [wrap_succ hlt (by omega)]
  refine ⟨⟨j + 1, _, u', ts[i.toNat], o', shA A' i.toNat, rfl, rfl, hlt, r5, r4, ?_, fun z hz => hq z ⟨u.ps, q', hs, r1, hz⟩⟩, by dsimp only; omega⟩
  rw [hg]
  conv => lhs; unfold getV
  rw [if_neg hk0, if_neg hok, List.getElem?_eq_getElem hit]
theorem get_spec {o : Bool} {Q : Nat → Prop} {A : List Nat → Nat → Prop} {t : Vl} {v : Vv} {p0 : Addr} {s : Sv} {xs : List Int} (ht : VAt o Q h t A v) (hv : Vv7 h (p0.add 1) v) (hx : IntsAt h s xs) (hl : xs.length ≤ 1000000) (hfew : few t) :
    CallsH Try.prog 29 #[.pointer (some p0), .slice s.a s.n s.c] h (fun x h' => Grow h h' ∧ match getV t xs with
      | .ok y => if wholeV y = true then ∃ p, x = .tuple #[.pointer (some p), .int .i64 0] ∧ Pl h (p0.add 1) (natsOf xs) p else x = .tuple #[.pointer none, .int .i64 3]
      | .error f => x = .tuple #[.pointer none, .int .i64 f]) := by
  apply F29
  unfold L29
  refine cal_of (part_spec ht hv hx hl) ?_
  rintro x _ ⟨rfl, hm⟩
  cases hg : getV t xs with
  | error f =>
    rw [hg] at hm
    have hf : f ≠ 0 := by
      clear hm ht hv
      intro e
      subst e
      revert hg
      generalize t = t'
      clear hx hl hfew
      induction xs generalizing t' with
      | nil => intro h; unfold getV at h; cases h
      | cons i xs ih =>
        obtain ⟨k, n, nm, ts, al, pa, tg⟩ := t'
        intro h
        unfold getV at h
        split at h
        · cases h
        split at h
        · cases h
        split at h
        · exact ih _ h
        · cases h
    have hm : x = .tuple #[.pointer none, .int .i64 f] := hm
    subst hm
    refine ⟨_, rfl, _, rfl, _, rfl, _, rfl, _, rfl, fun e => ⟨Fr.refl _ _, rfl⟩, fun e => ?_⟩
    exact absurd (by simpa using e) hf
  | ok y =>
    rw [hg] at hm
    obtain ⟨p, rfl, hpl⟩ := hm
    refine ⟨_, rfl, _, rfl, _, rfl, _, rfl, _, rfl, fun e => by simp at e, fun _ => ?_⟩
    obtain ⟨u, hu, hyu, -⟩ := hpl.at_ hv ht (getV_getN xs t y hg)
    refine ⟨p, rfl, rd7 hu ?_⟩
    refine cal_of (whole_spec y o Q _ u h (getV_few xs t y hg hfew) hyu) ?_
    rintro _ h2 ⟨f2, rfl⟩
    refine ⟨_, rfl, fun e => ⟨f2, ?_⟩, fun e => ⟨f2, ?_⟩⟩
    · have : ¬ wholeV y = true := by simpa using e
      show if wholeV y = true then _ else _
      rw [if_neg this]
    · have : wholeV y = true := by simpa using e
      show if wholeV y = true then _ else _
      rw [if_pos this]
      exact ⟨p, rfl, hpl⟩
end
end Go.Proofs.Ytggacajnmgligaa

/-
  Places: which begin which, which meet, what is owned.
-/
import Derived.Test.YtifjmbbnpkgmaaaLiftT
import Derived.Test.YtifjmbbnpkgmaaaLiftN
import Derived.Test.YtifjmbbnpkgmaaaLiftK
import Derived.Test.YtifjmbbnpkgmaaaG
namespace Go.Proofs.Ytifjmbbnpkgmaaa
open Go Go.Lf
set_option linter.unusedVariables false

theorem wrap_succ {j n : Nat} (h : j < n) (hn : n ≤ 4611686018427387904) : IntKind.i64.wrap ((j : Int) + 1) = ((j + 1 : Nat) : Int) := by rw [wrap64_id (by omega) (by omega)]; rfl
/-- a path, in memory -/
structure PAt (h : Heap) (s : Sv) (xs : List Int) : Prop where
  ints : IntsAt h s xs
  cap : s.n ≤ s.c
  few : xs.length ≤ 1000000
theorem PAt.grow {h h' : Heap} {s : Sv} {xs : List Int} (x : PAt h s xs) (g : Grow h h') : PAt h' s xs := ⟨x.ints.keep g fun _ _ h => h, x.cap, x.few⟩
theorem PAt.nil (h : Heap) : PAt h ⟨none, 0, 0⟩ [] := ⟨⟨rfl, fun i hi => by simp at hi⟩, Nat.le_refl _, by simp⟩
abbrev plc (x : Int) (s : Sv) : Array Value := #[.int .i64 x, .slice s.a s.n s.c]
section
variable {h : Heap}
theorem rdP {b : Nat} {x : Int} {s : Sv} {K : Int → Sv → Prop} (k : blk h b (plc x s)) (kk : K x s) :
    ∃ (y : Int) (y1 : Sv), cl h ⟨b, 0, none⟩ = some (.int .i64 y) ∧ cl h ((⟨b, 0, none⟩ : Addr).add 1) = some (.slice y1.a y1.n y1.c) ∧ K y y1 :=
  ⟨x, s, by rw [k.cl]; rfl, by rw [add_plain, k.cl]; rfl, kk⟩
theorem hdP {S : Heap → Prop} {b : Nat} {x : Int} {s : Sv} {K : Int → Sv → Prop} (k : ∀ h, S h → blk h b (plc x s)) (kk : K x s) :
    ∃ (y : Int) (y1 : Sv), hld S ⟨b, 0, none⟩ (.int .i64 y) ∧ hld S ((⟨b, 0, none⟩ : Addr).add 1) (.slice y1.a y1.n y1.c) ∧ K y y1 :=
  ⟨x, s, fun h hs => by rw [(k h hs).cl]; rfl, fun h hs => by rw [add_plain, (k h hs).cl]; rfl, kk⟩
theorem newP {x : Int} {s : Sv} {K : Addr → Heap → Prop} (k : ∀ h', blk h' h.size (plc x s) → Grow h h' → h'.size = h.size + 1 → K ⟨h.size, 0, none⟩ h') : new 24 (plc x s) h K := by
  rintro p h' rfl rfl
  exact k _ (blk.new _ _ _) (Fr.push _ _ _) (by simp)
theorem stoP {b : Nat} {cs : Array Value} {x : Int} {s : Sv} {K : Heap → Prop} (kk : blk h b cs) (hs : cs.size = 2) (k : ∀ h', blk h' b (plc x s) → Fr (fun i => i = b) h h' → K h') : stoA h ⟨b, 0, none⟩ [.int .i64 x, .slice s.a s.n s.c] K :=
  stoA_i kk (by rw [hs]; rfl) (vs := (plc x s).toList) (by intro u hu; simp only [List.mem_cons, List.not_mem_nil, or_false] at hu; rcases hu with rfl | rfl <;> rfl) k
theorem ints_law {a b : Sv} {xs ys : List Int} (hx : IntsAt h a xs) (hy : IntsAt h b ys) (hb : xs.length ≤ 1000000) : CallsH Try.prog 32 #[.slice a.a a.n a.c, .slice b.a b.n b.c] h (fun v h' => h = h' ∧ v = .bool (xs == ys)) := by
  apply F32
  unfold L32
  rw [hx.len, hy.len]
  refine ifb_iff (q := xs.length ≠ ys.length) (by simp; omega) (fun hne => ⟨rfl, ?_⟩) (fun heq => ?_)
  · have : (xs == ys) = false := by
      rw [beq_eq_false_iff_ne]
      exact fun e => hne (by rw [e])
    rw [this]
  have heq : xs.length = ys.length := by omega
  refine ⟨fun i => ∃ j : Nat, i = j ∧ j ≤ xs.length ∧ xs.take j = ys.take j, fun i => xs.length - i.toNat, ⟨0, rfl, Nat.zero_le _, rfl⟩, ?_⟩
  rintro _ ⟨j, rfl, hj, hh⟩
  refine ifb_iff (q := j < xs.length) (by simp) (fun hlt => ?_) (fun hge => ?_)
  · have hlt' : j < ys.length := by omega
    obtain ⟨p, e1, c1⟩ := hx.at_ j hlt
    obtain ⟨q, e2, c2⟩ := hy.at_ j hlt'
    refine ⟨p, e1, by omega, by rw [hx.len]; omega, _, by rw [Int.toNat_natCast]; exact c1, q, e2, by omega, by rw [hy.len]; omega, _, by rw [Int.toNat_natCast]; exact c2, fun e => ⟨rfl, ?_⟩, fun e => ?_⟩
    · have : (xs == ys) = false := by
        rw [beq_eq_false_iff_ne]
        intro he
        subst he
        simp at e
      rw [this]
    · have e' : xs[j] = ys[j] := by simpa using e
      rw [wrap_succ hlt (by omega)]
      refine ⟨⟨j + 1, rfl, hlt, ?_⟩, by simp; omega⟩
      rw [List.take_succ_eq_append_getElem hlt, List.take_succ_eq_append_getElem hlt', hh, e']
  · have : j = xs.length := by omega
    subst this
    rw [List.take_length, heq, List.take_length] at hh
    exact ⟨rfl, by rw [hh]; simp⟩
theorem PAt.head {s : Sv} {xs : List Int} (x : PAt h s xs) {m : Nat} (hm : m ≤ xs.length) : IntsAt h ⟨s.a, m, s.c⟩ (xs.take m) := by
  refine ⟨by simp; omega, fun i hi => ?_⟩
  have hi' : i < xs.length := by simp at hi; omega
  obtain ⟨p, e, c⟩ := x.ints.at_ i hi'
  exact ⟨p, e, by simpa using c⟩
def begB (a : Int) (xs : List Int) (b : Int) (ys : List Int) : Bool := a == b && (decide (xs.length ≤ ys.length) && xs == ys.take xs.length)
theorem begins_spec {sa sb : Sv} {xs ys : List Int} (a b : Int) (ha : PAt h sa xs) (hb : PAt h sb ys) : CallsH Try.prog 17 #[.agg (plc a sa), .agg (plc b sb)] h (fun v h' => Grow h h' ∧ v = .bool (begB a xs b ys)) := by
  apply F17
  unfold L17
  refine newP fun h1 b1 f1 z1 => newP fun h2 b2 f2 z2 => ?_
  have g2 := f1.trans f2
  have B1 := f2.blk b1 fun h => h
  have hna := ha.ints.len
  have hnb := hb.ints.len
  refine ⟨fun v h' => Grow h2 h' ∧ v = begB a xs b ys, ⟨fun h' => Grow h2 h', Fr.refl _ _, ?_⟩, ?_⟩
  rotate_left
  · rintro _ h4 ⟨f4, rfl⟩
    exact ⟨g2.trans f4, rfl⟩
  refine ldI_i (x := a) (by rw [B1.cl]; rfl) (ldI_i (x := b) (by rw [b2.cl]; rfl) ?_)
  unfold begB
  refine ⟨fun e => ?_, fun e => ⟨Fr.refl _ _, by rw [e]; rfl⟩⟩
  rw [e, Bool.true_and]
  refine ⟨sa, fun h' hs => by rw [add_plain, (hs.blk B1 fun h => h).cl]; rfl, ldS_i (s := sb) (by rw [add_plain, b2.cl]; rfl) ?_⟩
  refine ifb_iff (q := xs.length ≤ ys.length) (by rw [hna, hnb]; simp) (fun hle => ?_) (fun hgt => ⟨Fr.refl _ _, by rw [decide_eq_false hgt]; rfl⟩)
  refine ldS_i (s := sa) (by rw [add_plain, B1.cl]; rfl) (ldS_i (s := sb) (by rw [add_plain, b2.cl]; rfl) ⟨sa, fun h' hs => by rw [add_plain, (hs.blk B1 fun h => h).cl]; rfl, ?_⟩)
  refine slS_head (m := sa.n) (by have := hb.cap; omega) ⟨Fr.refl _ _, ?_⟩
  rw [hna]
  refine cal_of (f := 32) (ints_law (a := ⟨sa.a, xs.length, sa.c⟩) (b := ⟨sb.a, xs.length, sb.c⟩) (h := h2) (by have := (ha.grow g2).ints; rw [← hna]; exact this) ((hb.grow g2).head hle) ha.few) ?_
  rintro _ _ ⟨rfl, rfl⟩
  exact ⟨_, rfl, Fr.refl _ _, by rw [decide_eq_true hle]; rfl⟩
def meetB (a : Int) (xs : List Int) (b : Int) (ys : List Int) : Bool := begB a xs b ys || begB b ys a xs
theorem meet_spec {sa sb : Sv} {xs ys : List Int} (a b : Int) (ha : PAt h sa xs) (hb : PAt h sb ys) : CallsH Try.prog 8 #[.agg (plc a sa), .agg (plc b sb)] h (fun v h' => Grow h h' ∧ v = .bool (meetB a xs b ys)) := by
  apply F8
  unfold L8
  refine newP fun h1 b1 f1 z1 => newP fun h2 b2 f2 z2 => ?_
  have g2 := f1.trans f2
  have B1 := f2.blk b1 fun h => h
  refine rdP B1 (rdP b2 ?_)
  refine cal_of (begins_spec a b (ha.grow g2) (hb.grow g2)) ?_
  rintro _ h3 ⟨f3, rfl⟩
  refine ⟨_, rfl, ?_⟩
  refine ⟨fun v h' => Grow h2 h' ∧ v = meetB a xs b ys, ⟨fun e => ⟨f3, by unfold meetB; rw [e]; rfl⟩, fun e => ?_⟩, ?_⟩
  · refine rdP (f3.blk b2 fun h => h) (rdP (f3.blk B1 fun h => h) ?_)
    refine cal_of (begins_spec b a (hb.grow (g2.trans f3)) (ha.grow (g2.trans f3))) ?_
    rintro _ h5 ⟨f5, rfl⟩
    exact ⟨_, rfl, f3.trans f5, by unfold meetB; rw [e]; rfl⟩
  · rintro _ h4 ⟨f4, rfl⟩
    exact ⟨g2.trans f4, rfl⟩
theorem refBegins_spec {sa sb : Sv} {xs ys : List Int} (a b : Int) (ha : PAt h sa xs) (hb : PAt h sb ys) : CallsH Try.prog 18 #[.agg (plc a sa), .agg (plc b sb)] h (fun v h' => Grow h h' ∧ v = .bool (begB a xs b ys)) := by
  apply F18
  unfold L18
  refine newP fun h1 b1 f1 z1 => newP fun h2 b2 f2 z2 => ?_
  have g2 := f1.trans f2
  have B1 := f2.blk b1 fun h => h
  have hna := ha.ints.len
  have hnb := hb.ints.len
  refine ldI_i (x := a) (by rw [B1.cl]; rfl) (ldI_i (x := b) (by rw [b2.cl]; rfl) ?_)
  refine ⟨fun v => v = (a != b || decide (ys.length < xs.length)), ⟨fun e => by rw [e]; rfl, fun e => ldS_i (s := sa) (by rw [add_plain, B1.cl]; rfl) (ldS_i (s := sb) (by rw [add_plain, b2.cl]; rfl) ?_)⟩, ?_⟩
  · rw [e, hna, hnb, Bool.false_or]; simp
  rintro _ rfl
  unfold begB
  refine ⟨fun e => ⟨g2, ?_⟩, fun e => ?_⟩
  · simp only [Bool.or_eq_true, bne_iff_ne, ne_eq, decide_eq_true_eq] at e
    congr 1
    rcases e with e | e
    · simp [e]
    · rw [decide_eq_false (p := xs.length ≤ ys.length) (by omega)]; simp
  simp only [Bool.or_eq_false_iff, decide_eq_false_iff_not] at e
  have hab : (a == b) = true := by simpa using e.1
  have hle : xs.length ≤ ys.length := by omega
  rw [hab, decide_eq_true hle, Bool.true_and, Bool.true_and]
  refine ⟨fun i => ∃ j : Nat, i = j ∧ j ≤ xs.length ∧ xs.take j = ys.take j, fun i => xs.length - i.toNat, ⟨0, rfl, Nat.zero_le _, rfl⟩, ?_⟩
  rintro _ ⟨j, rfl, hj, hh⟩
  refine ldS_i (s := sa) (by rw [add_plain, B1.cl]; rfl) ?_
  have ha2 := (ha.grow g2).ints
  have hb2 := (hb.grow g2).ints
  have hfew := ha.few
  refine ifb_iff (q := j < xs.length) (by rw [hna]; simp) (fun hlt => ?_) (fun hge => ?_)
  · have hlt' : j < ys.length := by omega
    obtain ⟨p, e1, c1⟩ := ha2.at_ j hlt
    obtain ⟨q, e2, c2⟩ := hb2.at_ j hlt'
    refine ldS_i (s := sa) (by rw [add_plain, B1.cl]; rfl) ⟨p, e1, by omega, by rw [hna]; omega, _, by rw [Int.toNat_natCast]; exact c1, ldS_i (s := sb) (by rw [add_plain, b2.cl]; rfl) ⟨q, e2, by omega, by rw [hnb]; omega, _, by rw [Int.toNat_natCast]; exact c2, fun e => ⟨g2, ?_⟩, fun e => ?_⟩⟩
    · have : (xs == ys.take xs.length) = false := by
        rw [beq_eq_false_iff_ne]
        intro he
        have h1 := congrArg (·[j]?) he
        simp only [List.getElem?_eq_getElem hlt, List.getElem?_take, hlt, if_true, List.getElem?_eq_getElem hlt', Option.some.injEq] at h1
        rw [h1] at e
        simp at e
      rw [this]
    · have e' : xs[j] = ys[j] := by simpa using e
      rw [wrap_succ hlt (by omega)]
      refine ⟨⟨j + 1, rfl, hlt, ?_⟩, by simp; omega⟩
      rw [List.take_succ_eq_append_getElem hlt, List.take_succ_eq_append_getElem hlt', hh, e']
  · have : j = xs.length := by omega
    subst this
    rw [List.take_length] at hh
    exact ⟨g2, by rw [← hh]; simp⟩
theorem same_spec {sa sb : Sv} {xs ys : List Int} (a b : Int) (ha : PAt h sa xs) (hb : PAt h sb ys) : CallsH Try.prog 19 #[.agg (plc a sa), .agg (plc b sb)] h (fun v h' => Grow h h' ∧ v = .bool (begB a xs b ys && begB b ys a xs)) := by
  apply F19
  unfold L19
  refine newP fun h1 b1 f1 z1 => newP fun h2 b2 f2 z2 => ?_
  have g2 := f1.trans f2
  have B1 := f2.blk b1 fun h => h
  refine rdP B1 (rdP b2 ?_)
  refine cal_of (refBegins_spec a b (ha.grow g2) (hb.grow g2)) ?_
  rintro _ h3 ⟨f3, rfl⟩
  refine ⟨_, rfl, ?_⟩
  refine ⟨fun v h' => Grow h2 h' ∧ v = (begB a xs b ys && begB b ys a xs), ⟨fun e => ?_, fun e => ⟨f3, by rw [e]; rfl⟩⟩, ?_⟩
  · refine rdP (f3.blk b2 fun h => h) (rdP (f3.blk B1 fun h => h) ?_)
    refine cal_of (refBegins_spec b a (hb.grow (g2.trans f3)) (ha.grow (g2.trans f3))) ?_
    rintro _ h5 ⟨f5, rfl⟩
    exact ⟨_, rfl, f3.trans f5, by rw [e]; rfl⟩
  · rintro _ h4 ⟨f4, rfl⟩
    exact ⟨g2.trans f4, rfl⟩
end
/-! ### plain laws -/
theorem begB_iff {a b : Int} {xs ys : List Int} : begB a xs b ys = true ↔ a = b ∧ xs <+: ys := by
  unfold begB
  simp only [Bool.and_eq_true, beq_iff_eq, decide_eq_true_eq]
  constructor
  · rintro ⟨h1, h2, h3⟩
    exact ⟨h1, List.prefix_iff_eq_take.2 h3⟩
  · rintro ⟨h1, h2⟩
    exact ⟨h1, h2.length_le, List.prefix_iff_eq_take.1 h2⟩
theorem begB_self (a : Int) (xs : List Int) : begB a xs a xs = true := begB_iff.2 ⟨rfl, List.prefix_refl _⟩
theorem meet_sym (a b : Int) (xs ys : List Int) : meetB a xs b ys = meetB b ys a xs := Bool.or_comm _ _
theorem meet_parts {a b : Int} {xs ys us vs : List Int} (h : meetB a (xs ++ us) b (ys ++ vs) = true) : meetB a xs b ys = true := by
  unfold meetB at h ⊢
  rw [Bool.or_eq_true] at h ⊢
  rw [begB_iff, begB_iff] at h ⊢
  have key : ∀ {xs ys us vs : List Int}, (xs ++ us) <+: (ys ++ vs) → xs <+: ys ∨ ys <+: xs := by
    intro xs ys us vs h
    have h1 : xs <+: ys ++ vs := (List.prefix_append xs us).trans h
    exact List.prefix_or_prefix_of_prefix h1 (List.prefix_append ys vs)
  rcases h with ⟨e, h⟩ | ⟨e, h⟩
  · rcases key h with k | k
    · exact .inl ⟨e, k⟩
    · exact .inr ⟨e.symm, k⟩
  · rcases key h with k | k
    · exact .inr ⟨e, k⟩
    · exact .inl ⟨e.symm, k⟩
end Go.Proofs.Ytifjmbbnpkgmaaa

/-
  MirNils, MirPlaces walked.
-/
import Derived.Test.YtifjmbbnpkgmaaaM7
namespace Go.Proofs.Ytifjmbbnpkgmaaa
open Go Go.Lf
set_option linter.unusedVariables false

section
variable {h : Heap}
theorem check_nil : CallsH Try.prog 13 #[.pointer none] h (fun v h' => Grow h h' ∧ v = .int .i64 0) := by
  apply F13
  unfold L13
  rintro p1 h1 rfl rfl
  have k1 := blk.new h #[Value.pointer none] 37
  have f1 : Grow h (h.push (.cells #[Value.pointer none] 37)) := Fr.push _ _ _
  generalize h.push (.cells #[Value.pointer none] 37) = h1 at *
  refine ⟨fun c => c = true, ⟨none, by rw [k1.cl]; rfl, fun _ => rfl, fun e => (by cases e)⟩, ?_⟩
  rintro _ rfl
  exact ⟨fun _ => ⟨f1, rfl⟩, fun e => (by cases e)⟩
theorem access_nil (i : Int) : CallsH Try.prog 14 #[.pointer none, .int .i64 i] h (fun v h' => h = h' ∧ v = .slice none 0 0) := by
  apply F14
  unfold L14
  refine ⟨fun b => b = true, ⟨fun _ => rfl, fun e => (by cases e)⟩, ?_⟩
  rintro _ rfl
  exact ⟨fun _ => ⟨rfl, rfl⟩, fun e => (by cases e)⟩
theorem reach_nil : CallsH Try.prog 10 #[.pointer none] h (fun v h' => h = h' ∧ v = .slice none 0 0) := by
  apply F10
  unfold L10
  refine ⟨fun b => b = true, ⟨fun _ => rfl, fun e => (by cases e)⟩, ?_⟩
  rintro _ rfl
  exact ⟨fun _ => ⟨rfl, rfl⟩, fun e => (by cases e)⟩
theorem text_nil : CallsH Try.prog 15 #[.pointer none] h (fun v h' => h = h' ∧ v = .string ⟨#[]⟩) := by
  apply F15
  unfold L15
  exact ⟨fun _ => ⟨rfl, rfl⟩, fun e => (by cases e)⟩
theorem nils_walk (i : Int) (h : Heap) : CallsH Try.prog 5 #[.int .i64 i] h (fun v h' => v = .bool true ∧ Grow h h') := by
  apply F5
  unfold L5
  refine cal_of coded_spec ?_
  rintro _ h1 ⟨f1, rfl⟩
  refine ⟨_, rfl, fun c h' => c = true ∧ Grow h h', ⟨fun _ => ?_, fun e => (by cases e)⟩, ?_⟩
  · refine cal_of (succ_out i rfl) ?_
    rintro _ _ ⟨rfl, rfl⟩
    exact ⟨⟨none, 0, 0⟩, rfl, rfl, f1⟩
  rintro _ h2 ⟨rfl, g2⟩
  refine ⟨fun c h' => c = true ∧ Grow h h', ⟨fun _ => ?_, fun e => (by cases e)⟩, ?_⟩
  · refine cal_of check_nil ?_
    rintro _ h3 ⟨f3, rfl⟩
    exact ⟨_, rfl, rfl, g2.trans f3⟩
  rintro _ h4 ⟨rfl, g4⟩
  refine ⟨fun c h' => c = true ∧ Grow h h', ⟨fun _ => ?_, fun e => (by cases e)⟩, ?_⟩
  · refine cal_of (access_nil i) ?_
    rintro _ _ ⟨rfl, rfl⟩
    exact ⟨⟨none, 0, 0⟩, rfl, rfl, g4⟩
  rintro _ h6 ⟨rfl, g6⟩
  refine ⟨fun c h' => c = true ∧ Grow h h', ⟨fun _ => ?_, fun e => (by cases e)⟩, ?_⟩
  · refine cal_of reach_nil ?_
    rintro _ _ ⟨rfl, rfl⟩
    exact ⟨⟨none, 0, 0⟩, rfl, rfl, g6⟩
  rintro _ h8 ⟨rfl, g8⟩
  refine ⟨fun c h' => c = true ∧ Grow h h', ⟨fun _ => ?_, fun e => (by cases e)⟩, ?_⟩
  · refine cal_of text_nil ?_
    rintro _ _ ⟨rfl, rfl⟩
    exact ⟨_, rfl, by simp, g8⟩
  rintro _ h10 ⟨rfl, g10⟩
  exact ⟨rfl, g10⟩
theorem places_walk (a : Int) (sa : Sv) (xs : List Int) (b : Int) (sb : Sv) (ys : List Int) (h : Heap) (ha : IntsAt h sa xs) (ca : sa.n ≤ sa.c) (hb : IntsAt h sb ys) (cb : sb.n ≤ sb.c) :
    CallsH Try.prog 6 #[.agg (plc a sa), .agg (plc b sb)] h (fun v h' => v = .bool true ∧ Grow h h') := by
  apply F6
  unfold L6
  refine newP fun h1 b1 f1 z1 => newP fun h2 b2 f2 z2 => ?_
  have g2 := f1.trans f2
  have B1 := f2.blk b1 fun h => h
  have hna := ha.len
  have hnb := hb.len
  refine cal_of coded_spec ?_
  rintro _ h3 ⟨f3, rfl⟩
  have KA : ∀ {h'}, Grow h3 h' → blk h' h.size (plc a sa) := fun g => (f3.trans g).blk B1 fun h => h
  have KB : ∀ {h'}, Grow h3 h' → blk h' h1.size (plc b sb) := fun g => (f3.trans g).blk b2 fun h => h
  have R := Fr.refl (fun _ => False) h3
  refine ⟨_, rfl, fun c => c = decide (20 < xs.length), ⟨fun e => (by cases e), fun _ => ldS_i (s := sa) (by rw [add_plain, (KA R).cl]; rfl) (by rw [hna]; exact decide_eq_decide.2 (by omega))⟩, ?_⟩
  rintro _ rfl
  refine ⟨fun c => c = (decide (20 < xs.length) || decide (20 < ys.length)), ⟨fun e => by rw [e]; rfl, fun e => ldS_i (s := sb) (by rw [add_plain, (KB R).cl]; rfl) (by rw [hnb, e, Bool.false_or]; exact decide_eq_decide.2 (by omega))⟩, ?_⟩
  rintro _ rfl
  refine ⟨fun _ => ?_, fun e => ?_⟩
  · refine cal_of coded_spec ?_
    rintro _ h4 ⟨f4, rfl⟩
    exact ⟨_, rfl, rfl, g2.trans (f3.trans f4)⟩
  simp only [Bool.or_eq_false_iff, decide_eq_false_iff_not] at e
  have pa : ∀ {h'}, Grow h3 h' → PAt h' sa xs := fun g => ⟨ha.keep (g2.trans (f3.trans g)) fun _ _ h => h, ca, by omega⟩
  have pb : ∀ {h'}, Grow h3 h' → PAt h' sb ys := fun g => ⟨hb.keep (g2.trans (f3.trans g)) fun _ _ h => h, cb, by omega⟩
  refine rdP (KA R) ?_
  refine cal_of (own_spec a (pa R)) ?_
  rintro _ h5 ⟨f5, so, m, rfl, hm, p5⟩
  refine ⟨a, so, rfl, ?_⟩
  refine newP fun h6 b6 f6 z6 => stoP b6 rfl fun h7 b7 f7 => ?_
  have g57 : Grow h5 h7 := f6.trans' f7 fun i hi e => by omega
  have g7 : Grow h3 h7 := f5.trans g57
  have KO : ∀ {h'}, Grow h7 h' → blk h' h5.size (plc a so) := fun g => g.blk b7 fun h => h
  have po : ∀ {h'}, Grow h7 h' → PAt h' so (xs.take m) := fun g => p5.grow (g57.trans g)
  refine ⟨fun c h' => c = true ∧ Grow h7 h', ?_, ?_⟩
  rotate_left
  · rintro _ h19 ⟨rfl, g19⟩
    exact ⟨rfl, g2.trans (f3.trans (g7.trans g19))⟩
  refine ⟨fun h' => Grow h7 h', Fr.refl _ _, ?_⟩
  have R7 := Fr.refl (fun _ => False) h7
  refine rdP (KA g7) (rdP (KB g7) (hdP (fun h' hs => KA (g7.trans hs)) (hdP (fun h' hs => KB (g7.trans hs)) ?_)))
  refine cal_of (begins_spec a b (pa g7) (pb g7)) ?_
  rintro _ h8 ⟨f8, rfl⟩
  refine ⟨_, rfl, f8, ?_⟩
  refine cal_of (refBegins_spec a b (pa (g7.trans f8)) (pb (g7.trans f8))) ?_
  rintro _ h9 ⟨f9, rfl⟩
  have q9 := f8.trans f9
  refine ⟨_, rfl, q9, fun _ => ?_, fun e => by simp at e⟩
  refine rdP (KA (g7.trans q9)) (rdP (KB (g7.trans q9)) ?_)
  refine ⟨fun h' => Grow h7 h', fun _ h => h, q9, hdP (fun h' hs => KA (g7.trans hs)) (hdP (fun h' hs => KB (g7.trans hs)) ?_)⟩
  refine cal_of (meet_spec a b (pa (g7.trans q9)) (pb (g7.trans q9))) ?_
  rintro _ h10 ⟨f10, rfl⟩
  have q10 := q9.trans f10
  refine ⟨_, rfl, q10, ?_⟩
  refine cal_of (refBegins_spec a b (pa (g7.trans q10)) (pb (g7.trans q10))) ?_
  rintro _ h11 ⟨f11, rfl⟩
  have q11 := q10.trans f11
  -- its own part, and the document's
  have hself : ∀ {h'}, Grow h7 h' → ∀ (J : Bool → Heap → Prop), (∀ h'', Grow h7 h'' → J true h'') → ∀ Sq : Heap → Prop, (∀ h'', Sq h'' ↔ Grow h7 h'') →
      (∃ (y : Int) (y1 : Sv), cl h' ⟨h.size, 0, none⟩ = some (.int .i64 y) ∧ cl h' ((⟨h.size, 0, none⟩ : Addr).add 1) = some (.slice y1.a y1.n y1.c) ∧
        ∃ S3 : Heap → Prop, (∀ h, S3 h → Sq h) ∧ S3 h' ∧
        ∃ (z : Int) (z1 : Sv), hld S3 ⟨h5.size, 0, none⟩ (.int .i64 z) ∧ hld S3 ((⟨h5.size, 0, none⟩ : Addr).add 1) (.slice z1.a z1.n z1.c) ∧
        cal Try.prog 20 #[.agg (plc y y1)] h' fun u h17 => ∃ (w : Int) (w1 : Sv), u = .agg (plc w w1) ∧ S3 h17 ∧
        cal Try.prog 19 #[.agg (plc z z1), .agg (plc w w1)] h17 fun u2 h18 => asB u2 fun x48 =>
        ifb x48 (∃ (v : Int) (v1 : Sv), cl h18 ⟨h5.size, 0, none⟩ = some (.int .i64 v) ∧ cl h18 ((⟨h5.size, 0, none⟩ : Addr).add 1) = some (.slice v1.a v1.n v1.c) ∧
          ∃ (t : Int) (t1 : Sv), cl h18 ⟨h.size, 0, none⟩ = some (.int .i64 t) ∧ cl h18 ((⟨h.size, 0, none⟩ : Addr).add 1) = some (.slice t1.a t1.n t1.c) ∧
          cal Try.prog 17 #[.agg (plc v v1), .agg (plc t t1)] h18 fun u3 h19 => asB u3 fun x53 => J x53 h19) (J false h18)) := by
    intro h' g J hJ Sq hSq
    refine rdP (KA (g7.trans g)) ⟨fun h'' => Grow h7 h'', fun h'' q => (hSq h'').2 q, g, hdP (fun h'' hs => KO hs) ?_⟩
    refine cal_of (refOwn_spec a (pa (g7.trans g))) ?_
    rintro _ h17 ⟨f17, so', m', rfl, hm', p17⟩
    obtain rfl := hm.one hm'
    have q17 := g.trans f17
    refine ⟨a, so', rfl, q17, ?_⟩
    refine cal_of (same_spec a a (po q17) p17) ?_
    rintro _ h18 ⟨f18, rfl⟩
    have q18 := q17.trans f18
    refine ⟨_, rfl, fun _ => ?_, fun e => by rw [begB_self] at e; simp at e⟩
    refine rdP (KO q18) (rdP (KA (g7.trans q18)) ?_)
    refine cal_of (begins_spec a a (po q18) (pa (g7.trans q18))) ?_
    rintro _ h19 ⟨f19, rfl⟩
    have hb : begB a (xs.take m) a xs = true := begB_iff.2 ⟨rfl, List.take_prefix m xs⟩
    rw [hb]
    exact ⟨_, rfl, hJ _ (q18.trans f19)⟩
  refine ⟨_, rfl, q11, fun ht => ?_, fun hf => ?_⟩
  · refine ⟨fun _ => ?_, fun e => ?_⟩
    · exact hself q11 _ (fun h'' g => ⟨rfl, g⟩) _ (fun _ => Iff.rfl)
    · unfold meetB at e; rw [ht] at e; simp at e
  · refine rdP (KB (g7.trans q11)) (rdP (KA (g7.trans q11)) ?_)
    refine cal_of (refBegins_spec b a (pb (g7.trans q11)) (pa (g7.trans q11))) ?_
    rintro _ h12 ⟨f12, rfl⟩
    have q12 := q11.trans f12
    refine ⟨_, rfl, q12, fun _ => ?_, fun e => ?_⟩
    · exact hself q12 _ (fun h'' g => ⟨rfl, g⟩) _ (fun _ => Iff.rfl)
    · unfold meetB at e; rw [hf] at e; simp at e
end
end Go.Proofs.Ytifjmbbnpkgmaaa

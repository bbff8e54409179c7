/-
  FlowForward, FlowBackward, FlowNils: walked.
-/
import Derived.Test.YtglhkodebehdbaaS13
namespace Go.Proofs.Ytglhkodebehdbaa
open Go Go.Lf

section
variable {h : Heap} {a0 : Sv} {a1 : Int} {a2 a3 a4 : Sv} {p : Pb}
theorem forward_walk (a0 : Sv) (a1 : Int) (a2 a3 a4 : Sv) (p : Pb) (h : Heap) (x : PbAt h a0 a1 a2 a3 a4 p) :
    CallsH Try.prog 5 #[pbV a0 a1 a2 a3 a4] h (fun v h' => v = .bool true ∧ Grow h h') := by
  apply F5
  unfold L5
  rintro p1 h1 rfl rfl
  have f1 : Grow h (h.push (.cells (pbC a0 a1 a2 a3 a4) 25)) := Fr.push _ _ _
  have kb := blk.new h (pbC a0 a1 a2 a3 a4) 25
  have e1 : h.push (.cells #[.slice a0.a a0.n a0.c, .int .i64 a1, .slice a2.a a2.n a2.c, .slice a3.a a3.n a3.c, .slice a4.a a4.n a4.c] 25) = h.push (.cells (pbC a0 a1 a2 a3 a4) 25) := rfl
  rw [e1]
  generalize h.push (.cells (pbC a0 a1 a2 a3 a4) 25) = h1 at *
  refine cal_of (flowed_spec h1) ?_
  rintro _ h2 ⟨rfl, f2⟩
  refine ⟨_, rfl, ?_⟩
  have K : ∀ {h' : Heap}, Grow h1 h' → blk h' h.size (pbC a0 a1 a2 a3 a4) := fun g => g.blk kb (fun h => h)
  have box : ∀ {h' : Heap}, Grow h1 h' → cl h' ⟨h.size, 0, none⟩ = some (.slice a0.a a0.n a0.c) ∧ cl h' ((⟨h.size, 0, none⟩ : Addr).add 1) = some (.int .i64 a1) ∧ cl h' ((⟨h.size, 0, none⟩ : Addr).add 2) = some (.slice a2.a a2.n a2.c) ∧
      cl h' ((⟨h.size, 0, none⟩ : Addr).add 3) = some (.slice a3.a a3.n a3.c) ∧ cl h' ((⟨h.size, 0, none⟩ : Addr).add 4) = some (.slice a4.a a4.n a4.c) :=
    fun g => ⟨by rw [(K g).cl]; rfl, by rw [add_plain, (K g).cl]; rfl, by rw [add_plain, (K g).cl]; rfl, by rw [add_plain, (K g).cl]; rfl, by rw [add_plain, (K g).cl]; rfl⟩
  refine ⟨fun b h' => Grow h1 h' ∧ (b = false → p.Sm), ⟨fun e => (by cases e), fun _ => ?_⟩, ?_⟩
  · obtain ⟨b1, b2, b3, b4, b5⟩ := box f2
    refine ⟨a0, a1, a2, a3, a4, b1, b2, b3, b4, b5, cal_of (small_spec (x.grow (f1.trans f2))) ?_⟩
    rintro _ h4 ⟨b, rfl, g4, hb⟩
    exact ⟨b, rfl, f2.trans g4, fun e => hb (by simpa using e)⟩
  rintro b h3 ⟨f3, hb⟩
  refine ⟨fun _ => ?_, fun eb => ?_⟩
  · refine cal_of (flowed_spec h3) ?_
    rintro _ h5 ⟨rfl, f5⟩
    exact ⟨_, rfl, rfl, (f1.trans f3).trans f5⟩
  have Sm := hb eb
  have B := Sm.bd
  obtain ⟨b1, b2, b3, b4, b5⟩ := box f3
  refine ⟨a0, a1, a2, a3, a4, b1, b2, b3, b4, b5, cal_of (forward_spec (x.grow (f1.trans f3)) B) ?_⟩
  rintro _ h6 ⟨f6, hno, hok⟩
  have f16 := f3.trans f6
  by_cases hc : p.chk = 0
  · obtain ⟨W, ba, tb, rb, S, rfl, ok, A, ls⟩ := hok hc
    refine ⟨_, rfl, _, rfl, _, rfl, _, rfl, _, rfl, ?_⟩
    obtain ⟨b1, b2, b3, b4, b5⟩ := box f16
    refine ⟨a0, a1, a2, a3, a4, b1, b2, b3, b4, b5, cal_of (check_ref (x.grow (f1.trans f16)) B) ?_⟩
    rintro _ h7 ⟨rfl, f7⟩
    refine ⟨_, rfl, ?_⟩
    rw [hc]
    have f17 := f16.trans f7
    refine ⟨fun e => (by cases e), fun _ => ?_⟩
    refine ⟨fun b h' => b = true ∧ Grow h7 h', ⟨fun _ => ?_, fun e => (by cases e)⟩, ?_⟩
    · obtain ⟨b1, b2, b3, b4, b5⟩ := box f17
      refine ⟨a0, a1, a2, a3, a4, b1, b2, b3, b4, b5, cal_of (check_spec (x.grow (f1.trans f17)) B) ?_⟩
      rintro _ h11 ⟨rfl, f11⟩
      exact ⟨_, rfl, by rw [hc]; rfl, f11⟩
    rintro _ h10 ⟨rfl, f10⟩
    have f110 := f17.trans f10
    refine ⟨fun b h' => b = true ∧ Grow h10 h', ⟨fun _ => ?_, fun e => (by cases e)⟩, ?_⟩
    · obtain ⟨b1, b2, b3, b4, b5⟩ := box f110
      refine ⟨a0, a1, a2, a3, a4, b1, b2, b3, b4, b5, cal_of (same_spec (x.grow (f1.trans f110)) ok (A.grow (f7.trans f10)) ⟨Try.f17, Try.func17, by kernel_rfl, by kernel_rfl⟩ fun {h'} g e he => ?_) ?_⟩
      · refine (ref_forward (x.grow ((f1.trans f110).trans g)) B ok e).mono ?_
        rintro v h'' ⟨gg, C, rfl, Bs, L, g', _⟩
        exact ⟨gg, C, rfl, Bs, fun i hi => L.eq (ls e (by omega)) hi, g'⟩
      · rintro _ h13 ⟨rfl, f13⟩
        exact ⟨_, rfl, rfl, f13⟩
    rintro _ h12 ⟨rfl, f12⟩
    exact ⟨rfl, (f1.trans f110).trans f12⟩
  · have hv := hno hc
    subst hv
    refine ⟨_, rfl, _, rfl, _, rfl, _, rfl, _, rfl, ?_⟩
    obtain ⟨b1, b2, b3, b4, b5⟩ := box f16
    refine ⟨a0, a1, a2, a3, a4, b1, b2, b3, b4, b5, cal_of (check_ref (x.grow (f1.trans f16)) B) ?_⟩
    rintro _ h7 ⟨rfl, f7⟩
    refine ⟨_, rfl, ?_⟩
    have f17 := f16.trans f7
    refine ⟨fun _ => ?_, fun e => absurd (by simpa using e) hc⟩
    refine ⟨fun b h' => b = true ∧ Grow h7 h', ⟨fun _ => ?_, fun e => by simp at e⟩, ?_⟩
    · obtain ⟨b1, b2, b3, b4, b5⟩ := box f17
      refine ⟨a0, a1, a2, a3, a4, b1, b2, b3, b4, b5, cal_of (check_spec (x.grow (f1.trans f17)) B) ?_⟩
      rintro _ h11 ⟨rfl, f11⟩
      exact ⟨_, rfl, by simp, f11⟩
    rintro _ h10 ⟨rfl, f10⟩
    exact ⟨rfl, (f1.trans f17).trans f10⟩

theorem backward_walk (a0 : Sv) (a1 : Int) (a2 a3 a4 : Sv) (p : Pb) (h : Heap) (x : PbAt h a0 a1 a2 a3 a4 p) :
    CallsH Try.prog 7 #[pbV a0 a1 a2 a3 a4] h (fun v h' => v = .bool true ∧ Grow h h') := by
  apply F7
  unfold L7
  rintro p1 h1 rfl rfl
  have f1 : Grow h (h.push (.cells (pbC a0 a1 a2 a3 a4) 25)) := Fr.push _ _ _
  have kb := blk.new h (pbC a0 a1 a2 a3 a4) 25
  have e1 : h.push (.cells #[.slice a0.a a0.n a0.c, .int .i64 a1, .slice a2.a a2.n a2.c, .slice a3.a a3.n a3.c, .slice a4.a a4.n a4.c] 25) = h.push (.cells (pbC a0 a1 a2 a3 a4) 25) := rfl
  rw [e1]
  generalize h.push (.cells (pbC a0 a1 a2 a3 a4) 25) = h1 at *
  refine cal_of (flowed_spec h1) ?_
  rintro _ h2 ⟨rfl, f2⟩
  refine ⟨_, rfl, ?_⟩
  have K : ∀ {h' : Heap}, Grow h1 h' → blk h' h.size (pbC a0 a1 a2 a3 a4) := fun g => g.blk kb (fun h => h)
  have box : ∀ {h' : Heap}, Grow h1 h' → cl h' ⟨h.size, 0, none⟩ = some (.slice a0.a a0.n a0.c) ∧ cl h' ((⟨h.size, 0, none⟩ : Addr).add 1) = some (.int .i64 a1) ∧ cl h' ((⟨h.size, 0, none⟩ : Addr).add 2) = some (.slice a2.a a2.n a2.c) ∧
      cl h' ((⟨h.size, 0, none⟩ : Addr).add 3) = some (.slice a3.a a3.n a3.c) ∧ cl h' ((⟨h.size, 0, none⟩ : Addr).add 4) = some (.slice a4.a a4.n a4.c) :=
    fun g => ⟨by rw [(K g).cl]; rfl, by rw [add_plain, (K g).cl]; rfl, by rw [add_plain, (K g).cl]; rfl, by rw [add_plain, (K g).cl]; rfl, by rw [add_plain, (K g).cl]; rfl⟩
  refine ⟨fun b h' => Grow h1 h' ∧ (b = false → p.Sm), ⟨fun e => (by cases e), fun _ => ?_⟩, ?_⟩
  · obtain ⟨b1, b2, b3, b4, b5⟩ := box f2
    refine ⟨a0, a1, a2, a3, a4, b1, b2, b3, b4, b5, cal_of (small_spec (x.grow (f1.trans f2))) ?_⟩
    rintro _ h4 ⟨b, rfl, g4, hb⟩
    exact ⟨b, rfl, f2.trans g4, fun e => hb (by simpa using e)⟩
  rintro b h3 ⟨f3, hb⟩
  refine ⟨fun _ => ?_, fun eb => ?_⟩
  · refine cal_of (flowed_spec h3) ?_
    rintro _ h5 ⟨rfl, f5⟩
    exact ⟨_, rfl, rfl, (f1.trans f3).trans f5⟩
  have Sm := hb eb
  have B := Sm.bd
  obtain ⟨b1, b2, b3, b4, b5⟩ := box f3
  refine ⟨a0, a1, a2, a3, a4, b1, b2, b3, b4, b5, cal_of (backward_spec (x.grow (f1.trans f3)) B) ?_⟩
  rintro _ h6 ⟨f6, hno, hok⟩
  have f16 := f3.trans f6
  by_cases hc : p.chk = 0
  · obtain ⟨W, ba, tb, rb, S, rfl, ok, A, ls⟩ := hok hc
    refine ⟨_, rfl, _, rfl, _, rfl, _, rfl, _, rfl, ?_⟩
    obtain ⟨b1, b2, b3, b4, b5⟩ := box f16
    refine ⟨a0, a1, a2, a3, a4, b1, b2, b3, b4, b5, cal_of (check_ref (x.grow (f1.trans f16)) B) ?_⟩
    rintro _ h7 ⟨rfl, f7⟩
    refine ⟨_, rfl, ?_⟩
    rw [hc]
    have f17 := f16.trans f7
    refine ⟨fun e => (by cases e), fun _ => ?_⟩
    refine ⟨fun b h' => b = true ∧ Grow h7 h', ⟨fun _ => ?_, fun e => (by cases e)⟩, ?_⟩
    · obtain ⟨b1, b2, b3, b4, b5⟩ := box f17
      refine ⟨a0, a1, a2, a3, a4, b1, b2, b3, b4, b5, cal_of (same_spec (x.grow (f1.trans f17)) ok (A.grow f7) ⟨Try.f20, Try.func20, by kernel_rfl, by kernel_rfl⟩ fun {h'} g e he => ?_) ?_⟩
      · refine (ref_backward (x.grow ((f1.trans f17).trans g)) B ok e).mono ?_
        rintro v h'' ⟨gg, C, rfl, Bs, L, g', _⟩
        exact ⟨gg, C, rfl, Bs, fun i hi => L.eq (ls e (by omega)) hi, g'⟩
      · rintro _ h13 ⟨rfl, f13⟩
        exact ⟨_, rfl, rfl, f13⟩
    rintro _ h12 ⟨rfl, f12⟩
    exact ⟨rfl, (f1.trans f17).trans f12⟩
  · have hv := hno hc
    subst hv
    refine ⟨_, rfl, _, rfl, _, rfl, _, rfl, _, rfl, ?_⟩
    obtain ⟨b1, b2, b3, b4, b5⟩ := box f16
    refine ⟨a0, a1, a2, a3, a4, b1, b2, b3, b4, b5, cal_of (check_ref (x.grow (f1.trans f16)) B) ?_⟩
    rintro _ h7 ⟨rfl, f7⟩
    refine ⟨_, rfl, fun _ => ⟨by simp, (f1.trans f16).trans f7⟩, fun e => absurd (by simpa using e) hc⟩
end

theorem nils_walk (w i e : Int) (h : Heap) : CallsH Try.prog 8 #[.int .i64 w, .int .i64 i, .int .i64 e] h (fun v h' => v = .bool true ∧ Grow h h') := by
  apply F8
  unfold L8
  have X : ∀ h' : Heap, PbAt h' ⟨none, 0, 0⟩ w ⟨none, 0, 0⟩ ⟨none, 0, 0⟩ ⟨none, 0, 0⟩ ⟨[], w, [], [], []⟩ := fun h' =>
    ⟨⟨rfl, fun i hi => by simp at hi⟩, rfl, ⟨rfl, fun i hi => by simp at hi⟩, ⟨rfl, fun i hi => by simp at hi⟩, IntsAt.nil _ _ _⟩
  have B : (⟨[], w, [], [], []⟩ : Pb).Bd := ⟨by simp, by simp, by simp, by simp, by simp, by simp, by simp⟩
  have hc : (⟨[], w, [], [], []⟩ : Pb).chk = if w < 0 ∨ 4000 < w then 2 else 0 := by
    simp [Pb.chk, Pb.wide, Pb.okB, fitsB, inB]
  refine cal_of (forward_spec (X h) B) ?_
  rintro v h1 ⟨f1, hno, hok⟩
  obtain ⟨x17, rfl⟩ : ∃ x, v = .tuple #[.pointer x, .int .i64 (⟨[], w, [], [], []⟩ : Pb).chk] := by
    by_cases e : (⟨[], w, [], [], []⟩ : Pb).chk = 0
    · obtain ⟨W, ba, tb, rb, S, rfl, _⟩ := hok e
      exact ⟨_, by rw [e]⟩
    · exact ⟨_, hno e⟩
  refine ⟨_, rfl, _, rfl, _, rfl, _, rfl, _, rfl, ?_⟩
  refine cal_of (backward_spec (X h1) B) ?_
  rintro v h2 ⟨f2, hno, hok⟩
  obtain ⟨x23, rfl⟩ : ∃ x, v = .tuple #[.pointer x, .int .i64 (⟨[], w, [], [], []⟩ : Pb).chk] := by
    by_cases e : (⟨[], w, [], [], []⟩ : Pb).chk = 0
    · obtain ⟨W, ba, tb, rb, S, rfl, _⟩ := hok e
      exact ⟨_, by rw [e]⟩
    · exact ⟨_, hno e⟩
  refine ⟨_, rfl, _, rfl, _, rfl, _, rfl, _, rfl, ?_⟩
  refine ⟨fun c => c = (⟨[], w, [], [], []⟩ : Pb).chk, ifb_iff (q := w < 0 ∨ 4000 < w) (by simp) (fun hq => ?_) (fun hq => ?_), ?_⟩
  · rw [hc, if_pos hq]
  · rw [hc, if_neg hq]
  rintro _ rfl
  refine cal_of (flowed_spec h2) ?_
  rintro _ h3 ⟨rfl, f3⟩
  refine ⟨_, rfl, ?_⟩
  refine ⟨fun b h' => b = true ∧ h3 = h', ⟨fun _ => ?_, fun e => by simp at e⟩, ?_⟩
  · refine cal_of (ansHas_nil i e) ?_
    rintro _ _ ⟨rfl, rfl⟩
    exact ⟨_, rfl, rfl, rfl⟩
  rintro _ _ ⟨rfl, rfl⟩
  refine ⟨fun b h' => b = true ∧ h3 = h', ⟨fun _ => ?_, fun e => (by cases e)⟩, ?_⟩
  · refine cal_of (ansList_nil i) ?_
    rintro _ _ ⟨rfl, rfl⟩
    exact ⟨⟨none, 0, 0⟩, rfl, rfl, rfl⟩
  rintro _ _ ⟨rfl, rfl⟩
  exact ⟨rfl, (f1.trans f2).trans f3⟩
end Go.Proofs.Ytglhkodebehdbaa

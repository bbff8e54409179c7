/-
  MirReaches walked.
-/
import Derived.Test.YtifjmbbnpkgmaaaM8
namespace Go.Proofs.Ytifjmbbnpkgmaaa
open Go Go.Lf Go.Lf.Rd
set_option linter.unusedVariables false

/-- operands in memory: their paths -/
def OpsAt (h : Heap) (s : Sv) : Prop := ∀ k, k < s.n → ∃ p t, s.a = some p ∧ cl h (((p.add (k * 5)).add 1).add 1) = some (.slice (t : Sv).a t.n t.c)
theorem OpsAt.grow {h h' : Heap} {s : Sv} (x : OpsAt h s) (g : Grow h h') : OpsAt h' s := fun k hk => by
  obtain ⟨p, t, e, c⟩ := x k hk
  exact ⟨p, t, e, g.clk c fun h => h⟩
section
variable {h : Heap}
theorem small_spec {nm : ByteArray} {pa : Int} {lo co : Sv} {l : List Iv} (hn : co.n = l.length) (hat : ∀ i (hi : i < l.length), ∃ p, co.a = some p ∧ Iv21 h (p.add (i * 21)) l[i]) (hop : ∀ v ∈ l, OpsAt h v.ra) :
    CallsH Try.prog 9 #[.agg (bvs nm pa lo co), .int .i64 40, .int .i64 40] h (fun v h' => Grow h h' ∧ ∃ r : Bool, v = .bool r ∧ (r = true → l.length ≤ 40)) := by
  apply F9
  unfold L9
  rintro p3 h1 rfl rfl
  have k1 := blk.new h (bvs nm pa lo co) 33
  have f1 : Grow h (h.push (.cells (bvs nm pa lo co) 33)) := Fr.push _ _ _
  generalize h.push (.cells (bvs nm pa lo co) 33) = h1 at *
  have K : ∀ {h'}, Grow h1 h' → blk h' h.size (bvs nm pa lo co) := fun g => g.blk k1 fun h => h
  have hco : ∀ {h'}, Grow h1 h' → cl h' ((⟨h.size, 0, none⟩ : Addr).add 3) = some (.slice co.a co.n co.c) := fun g => by rw [add_plain, (K g).cl]; rfl
  refine ldS_i (s := lo) (by rw [add_plain, k1.cl]; rfl) ?_
  refine ⟨fun c => c = false → l.length ≤ 40, ⟨fun e h => (by cases h), fun _ => ldS_i (s := co) (hco (Fr.refl _ _)) (fun e => ?_)⟩, ?_⟩
  · have := of_decide_eq_false e; omega
  rintro c1 hc1
  refine ⟨fun c => c = false → l.length ≤ 40, ⟨fun e h => (by cases h), fun e => ⟨nm, by rw [k1.cl]; rfl, fun _ => hc1 e⟩⟩, ?_⟩
  rintro c2 hc2
  refine ⟨fun _ => ⟨f1, false, rfl, fun e => (by cases e)⟩, fun e => ?_⟩
  have hl40 := hc2 e
  refine ⟨fun i h' => ∃ j : Nat, i = j ∧ j ≤ l.length ∧ Grow h1 h', fun i _ => l.length - i.toNat, ⟨0, rfl, Nat.zero_le _, Fr.refl _ _⟩, ?_⟩
  rintro _ h2 ⟨j, rfl, hj, g2⟩
  refine ldS_i (s := co) (hco g2) ?_
  refine ifb_iff (q := j < l.length) (by rw [hn]; simp) (fun hlt => ?_) (fun hge => ⟨f1.trans g2, true, rfl, fun _ => hl40⟩)
  refine ldS_i (s := co) (hco g2) ?_
  obtain ⟨p, ea, T⟩ := hat j hlt
  refine ⟨p, ea, by omega, by rw [hn]; omega, ?_⟩
  rw [Int.toNat_natCast]
  refine rdI (T.fr (f1.trans g2) fun h => h) ?_
  have hoj := hop l[j] (List.getElem_mem hlt)
  generalize l[j] = v at *
  refine mineI (v := v) fun h4 b4 f4 => ?_
  have T4 := Iv21.blk b4
  have g4 := g2.trans f4
  refine ldS_i (s := v.dp) (T4.nest 2 1 rfl) ?_
  refine ⟨fun c => c = false → v.ra.n ≤ 8, ⟨fun e h => (by cases h), fun _ => ldS_i (s := v.ra) (T4.nest 4 1 rfl) (fun e => ?_)⟩, ?_⟩
  · have := of_decide_eq_false e; omega
  rintro d2 hd2
  have n3 : ∀ {u : Value}, (ivs v)[7]? = some u → cl h4 ((((⟨h2.size, 0, none⟩ : Addr).add 4).add 2).add 1) = some u := fun hu => by
    have := T4.nest 4 3 hu
    rw [add_plain, add_plain] at this
    rw [add_plain, add_plain, add_plain]
    exact this
  have n5 : ∀ {u : Value}, (ivs v)[14]? = some u → cl h4 ((((⟨h2.size, 0, none⟩ : Addr).add 12).add 1).add 1) = some u := fun hu => by
    have := T4.nest 12 2 hu
    rw [add_plain, add_plain] at this
    rw [add_plain, add_plain, add_plain]
    exact this
  refine ⟨fun c => c = false → v.ra.n ≤ 8, ⟨fun e h => (by cases h), fun e => ldS_i (s := v.rq) (n3 rfl) (fun _ => hd2 e)⟩, ?_⟩
  rintro d3 hd3
  refine ⟨fun c => c = false → v.ra.n ≤ 8, ⟨fun e h => (by cases h), fun e => ⟨v.rn, T4.nest 4 5 rfl, fun _ => hd3 e⟩⟩, ?_⟩
  rintro d4 hd4
  refine ⟨fun c => c = false → v.ra.n ≤ 8, ⟨fun e h => (by cases h), fun e => ldS_i (s := v.cp) (n5 rfl) (fun _ => hd4 e)⟩, ?_⟩
  rintro d5 hd5
  refine ⟨fun c => c = false → v.ra.n ≤ 8, ⟨fun e h => (by cases h), fun e => ldS_i (s := v.rt) (T4.nest 4 7 rfl) (fun _ => hd5 e)⟩, ?_⟩
  rintro d6 hd6
  refine ⟨fun _ => ⟨f1.trans g4, false, rfl, fun e => (by cases e)⟩, fun e => ?_⟩
  have hra := hd6 e
  refine ⟨fun i => ∃ k : Nat, i = k ∧ k ≤ v.ra.n, fun i => v.ra.n - i.toNat, ⟨0, rfl, Nat.zero_le _⟩, ?_⟩
  rintro _ ⟨k, rfl, hk⟩
  refine ldS_i (s := v.ra) (T4.nest 4 1 rfl) ?_
  refine ifb_iff (q := k < v.ra.n) (by simp) (fun hkl => ?_) (fun hkg => ?_)
  · obtain ⟨q, t, eq_, c⟩ := (hoj.grow (f1.trans g4)) k hkl
    refine ldS_i (s := v.ra) (T4.nest 4 1 rfl) ⟨q, eq_, by omega, by omega, ldS_i (s := t) (by rw [Int.toNat_natCast]; exact c) ?_⟩
    refine ⟨fun _ => ⟨f1.trans g4, false, rfl, fun e => (by cases e)⟩, fun _ => ?_⟩
    rw [wrap_succ hkl (by omega)]
    exact ⟨⟨k + 1, rfl, hkl⟩, by simp; omega⟩
  · rw [wrap_succ hlt (by omega)]
    exact ⟨⟨j + 1, rfl, hlt, g4⟩, by dsimp only; omega⟩
theorem reaches_walk (nm : ByteArray) (pa : Int) (lo co : Sv) (l : List Iv) (h : Heap) (hn : co.n = l.length) (hat : ∀ i (hi : i < l.length), ∃ p, co.a = some p ∧ Iv21 h (p.add (i * 21)) l[i]) (hop : ∀ v ∈ l, OpsAt h v.ra) :
    CallsH Try.prog 4 #[.agg (bvs nm pa lo co)] h (fun v h' => v = .bool true ∧ Grow h h') := by
  apply F4
  unfold L4
  rintro p1 h1 rfl rfl
  have k1 := blk.new h (bvs nm pa lo co) 33
  have f1 : Grow h (h.push (.cells (bvs nm pa lo co) 33)) := Fr.push _ _ _
  generalize h.push (.cells (bvs nm pa lo co) 33) = h1 at *
  have K : ∀ {h'}, Grow h1 h' → blk h' h.size (bvs nm pa lo co) := fun g => g.blk k1 fun h => h
  refine cal_of coded_spec ?_
  rintro _ h2 ⟨f2, rfl⟩
  refine ⟨_, rfl, fun c h' => Grow h1 h' ∧ (c = false → l.length ≤ 40), ⟨fun e => (by cases e), fun _ => ?_⟩, ?_⟩
  · have B2 := K f2
    refine ⟨nm, pa, lo, co, by rw [B2.cl]; rfl, by rw [add_plain, B2.cl]; rfl, by rw [add_plain, B2.cl]; rfl, by rw [add_plain, B2.cl]; rfl, ?_⟩
    have g2 := f1.trans f2
    refine cal_of (small_spec hn (fun i hi => by obtain ⟨p, e, c⟩ := hat i hi; exact ⟨p, e, c.fr g2 fun h => h⟩) fun v hv => (hop v hv).grow g2) ?_
    rintro _ h4 ⟨f4, r, rfl, hr⟩
    exact ⟨_, rfl, f2.trans f4, fun e => hr (by simpa using e)⟩
  rintro c h3 ⟨g3, hc⟩
  refine ⟨fun _ => ?_, fun e => ?_⟩
  · refine cal_of coded_spec ?_
    rintro _ h5 ⟨f5, rfl⟩
    exact ⟨_, rfl, rfl, f1.trans (g3.trans f5)⟩
  have hl := hc e
  have C3 : ∀ {h'}, Grow h1 h' → CodeAt h' co l := fun g => ⟨hn, by omega, fun i hi => by obtain ⟨p, e, c⟩ := hat i hi; exact ⟨p, e, c.fr (f1.trans g) fun h => h⟩⟩
  refine ⟨fun h' => Grow h3 h', Fr.refl _ _, co, fun h' hs => by rw [add_plain, (K (g3.trans hs)).cl]; rfl, ?_⟩
  refine cal_of (reach_spec (K g3) (C3 g3) (by omega)) ?_
  rintro _ h6 ⟨f6, s14, rfl, hn14, hs14⟩
  refine ⟨s14, rfl, f6, ?_⟩
  refine cal_of (refReach_spec (C3 (g3.trans f6)) (by omega)) ?_
  rintro _ h7 ⟨f7, s17, rfl, hn17, g17, e17, _, S17⟩
  refine ⟨s17, rfl, ?_⟩
  have gall := f1.trans (g3.trans (f6.trans f7))
  refine ⟨fun e => by rw [hn14, hn17] at e; simp at e, fun _ => ?_⟩
  refine ⟨fun i => ∃ j : Nat, i = j ∧ j ≤ l.length, fun i => l.length - i.toNat, ⟨0, rfl, Nat.zero_le _⟩, ?_⟩
  rintro _ ⟨j, rfl, hj⟩
  refine ifb_iff (q := j < l.length) (by rw [hn14]; simp) (fun hlt => ?_) (fun hge => ⟨rfl, gall⟩)
  rcases hs14 with rfl | ⟨g14, e14, _, M14⟩
  · simp at hlt
  have M7 := M14.frame f7 fun h => h
  refine ⟨⟨g14, 0, none⟩, e14, by omega, by rw [hn14]; omega, ldB_i (x := reachF l j) (by rw [add_plain, Int.toNat_natCast, Nat.mul_one, Nat.zero_add]; exact M7.cell hlt) ?_⟩
  refine ⟨⟨g17, 0, none⟩, e17, by omega, by rw [hn17]; omega, ldI_i (by rw [add_plain, Int.toNat_natCast, Nat.mul_one, Nat.zero_add]; exact S17.get j hlt) ?_⟩
  refine ⟨fun e => ?_, fun _ => ?_⟩
  · exfalso
    revert e
    cases reachF l j <;> decide
  · rw [wrap_succ hlt (by omega)]
    exact ⟨⟨j + 1, rfl, hlt⟩, by simp; omega⟩
end
end Go.Proofs.Ytifjmbbnpkgmaaa

/-
  MirMeets walked: the guard, the longer paths, the answers.
-/
import Derived.Test.YtifjmbbnpkgmaaaM10
namespace Go.Proofs.Ytifjmbbnpkgmaaa
open Go Go.Lf
set_option linter.unusedVariables false

abbrev gvs (a : Int) (sa : Sv) (b : Int) (sb sx sy : Sv) : Array Value := #[.int .i64 a, .slice sa.a sa.n sa.c, .int .i64 b, .slice sb.a sb.n sb.c, .slice sx.a sx.n sx.c, .slice sy.a sy.n sy.c]
theorem meets_walk (a : Int) (sa : Sv) (b : Int) (sb sx sy : Sv) (xs ys us vs : List Int) (h : Heap) (ha : IntsAt h sa xs) (ca : sa.n ≤ sa.c) (hb : IntsAt h sb ys) (cb : sb.n ≤ sb.c) (hx : IntsAt h sx us) (hy : IntsAt h sy vs)
    (hw : xs.length ≤ 17592186044416 ∧ ys.length ≤ 17592186044416 ∧ us.length ≤ 17592186044416 ∧ vs.length ≤ 17592186044416) :
    CallsH Try.prog 3 #[.agg (gvs a sa b sb sx sy)] h (fun v h' => v = .bool true ∧ Grow h h') := by
  apply F3
  unfold L3
  rintro p1 h1 rfl rfl
  have k1 := blk.new h (gvs a sa b sb sx sy) 26
  have f1 : Grow h (h.push (.cells (gvs a sa b sb sx sy) 26)) := Fr.push _ _ _
  generalize h.push (.cells (gvs a sa b sb sx sy) 26) = h1 at *
  have K1 : ∀ {h'}, Grow h1 h' → blk h' h.size (gvs a sa b sb sx sy) := fun g => g.blk k1 fun h => h
  refine ⟨fun a3 b4 x5 y6 h' => ∃ ba bb, a3 = (⟨ba, 0, none⟩ : Addr) ∧ b4 = (⟨bb, 0, none⟩ : Addr) ∧ x5 = sx ∧ y6 = sy ∧ Grow h1 h' ∧ blk h' ba (plc a sa) ∧ blk h' bb (plc b sb), ?_, ?_⟩
  · refine ⟨fun h' => Grow h1 h', Fr.refl _ _, a, sa, fun h' g => by rw [(K1 g).cl]; rfl, fun h' g => by rw [add_plain, (K1 g).cl]; rfl, b, sb, fun h' g => by rw [add_plain, (K1 g).cl]; rfl, fun h' g => by rw [add_plain, add_plain, (K1 g).cl]; rfl, sx, fun h' g => by rw [add_plain, (K1 g).cl]; rfl, sy, fun h' g => by rw [add_plain, (K1 g).cl]; rfl, ?_, ?_⟩
    · refine newP fun h2 b2 f2 z2 => ⟨f2, newP fun h3 b3 f3 z3 => ⟨f2.trans f3, ?_⟩⟩
      have B2 := f3.blk b2 fun h => h
      refine stoP B2 rfl fun h4 b4 f4 => ?_
      have g4 : Grow h1 h4 := (f2.trans f3).trans' f4 fun i hi e => by omega
      refine ⟨g4, stoP (f4.blk b3 (by omega)) rfl fun h5 b5 f5 => ?_⟩
      have g5 : Grow h1 h5 := g4.trans' f5 fun i hi e => by omega
      exact ⟨g5, _, _, rfl, rfl, rfl, rfl, g5, f5.blk b4 (by omega), b5⟩
    · refine newP fun h2 b2 f2 z2 => ⟨f2, newP fun h3 b3 f3 z3 => ⟨f2.trans f3, ?_⟩⟩
      have B2 := f3.blk b2 fun h => h
      refine stoP b3 rfl fun h4 b4 f4 => ?_
      have g4 : Grow h1 h4 := (f2.trans f3).trans' f4 fun i hi e => by omega
      refine ⟨g4, stoP (f4.blk B2 (by omega)) rfl fun h5 b5 f5 => ?_⟩
      have g5 : Grow h1 h5 := g4.trans' f5 fun i hi e => by omega
      exact ⟨g5, _, _, rfl, rfl, rfl, rfl, g5, f5.blk b4 (by omega), b5⟩
  rintro _ _ _ _ h10 ⟨ba, bb, rfl, rfl, rfl, rfl, g10, bA, bB⟩
  refine cal_of coded_spec ?_
  rintro _ h11 ⟨f11, rfl⟩
  have BA := f11.blk bA fun h => h
  have BB := f11.blk bB fun h => h
  have g11 := g10.trans f11
  have hna := ha.len
  have hnb := hb.len
  have hnx := hx.len
  have hny := hy.len
  refine ⟨_, rfl, fun c => c = decide (40 < xs.length + ys.length + us.length + vs.length), ⟨fun e => (by cases e), fun _ => ldS_i (s := sa) (by rw [add_plain, BA.cl]; rfl) (ldS_i (s := sb) (by rw [add_plain, BB.cl]; rfl) ?_)⟩, ?_⟩
  · rw [hna, hnb, hnx, hny]
    have e1 : IntKind.i64.wrap ((xs.length : Int) + (ys.length : Int)) = ((xs.length + ys.length : Nat) : Int) := by rw [wrap64_id (by omega) (by omega)]; omega
    have e2 : IntKind.i64.wrap (((xs.length + ys.length : Nat) : Int) + (us.length : Int)) = ((xs.length + ys.length + us.length : Nat) : Int) := by rw [wrap64_id (by omega) (by omega)]; omega
    have e3 : IntKind.i64.wrap (((xs.length + ys.length + us.length : Nat) : Int) + (vs.length : Int)) = ((xs.length + ys.length + us.length + vs.length : Nat) : Int) := by rw [wrap64_id (by omega) (by omega)]; omega
    rw [e1, e2, e3]
    exact decide_eq_decide.2 (by omega)
  rintro _ rfl
  refine ifb_dec (fun hbig => ?_) (fun hsm => ?_)
  · refine cal_of coded_spec ?_
    rintro _ h12 ⟨f12, rfl⟩
    exact ⟨_, rfl, rfl, f1.trans (g11.trans f12)⟩
  have gh11 := f1.trans g11
  refine ⟨fun p h' => MadeP h11 a (xs ++ us) p h', regionP BA (ha.keep gh11 fun _ _ h => h) (hx.keep gh11 fun _ _ h => h) (by omega) (fun _ _ m => m), ?_⟩
  rintro _ h30 ⟨g30, bc, sc, rfl, bC, pC⟩
  have gh30 := gh11.trans g30
  refine ⟨fun p h' => MadeP h30 b (ys ++ vs) p h', regionP (g30.blk BB fun h => h) (hb.keep gh30 fun _ _ h => h) (hy.keep gh30 fun _ _ h => h) (by omega) (fun _ _ m => m), ?_⟩
  rintro _ h48 ⟨g48, bd, sd, rfl, bD, pD⟩
  have gh48 := gh30.trans g48
  have KA : ∀ {h'}, Grow h48 h' → blk h' ba (plc a sa) := fun g => (g30.trans (g48.trans g)).blk BA fun h => h
  have KB : ∀ {h'}, Grow h48 h' → blk h' bb (plc b sb) := fun g => (g30.trans (g48.trans g)).blk BB fun h => h
  have KC : ∀ {h'}, Grow h48 h' → blk h' bc (plc a sc) := fun g => (g48.trans g).blk bC fun h => h
  have KD : ∀ {h'}, Grow h48 h' → blk h' bd (plc b sd) := fun g => g.blk bD fun h => h
  have pa : ∀ {h'}, Grow h48 h' → PAt h' sa xs := fun g => ⟨ha.keep (gh48.trans g) fun _ _ h => h, ca, by omega⟩
  have pb : ∀ {h'}, Grow h48 h' → PAt h' sb ys := fun g => ⟨hb.keep (gh48.trans g) fun _ _ h => h, cb, by omega⟩
  have pc : ∀ {h'}, Grow h48 h' → PAt h' sc (xs ++ us) := fun g => pC.grow (g48.trans g)
  have pd : ∀ {h'}, Grow h48 h' → PAt h' sd (ys ++ vs) := fun g => pD.grow g
  have R := Fr.refl (fun _ => False) h48
  refine ⟨fun c h' => c = true ∧ Grow h48 h', ⟨fun h' => Grow h48 h', R, ?_⟩, ?_⟩
  rotate_left
  · rintro _ h73 ⟨rfl, g73⟩
    exact ⟨rfl, gh48.trans g73⟩
  refine rdP (KA R) (rdP (KB R) ?_)
  refine cal_of (meet_spec a b (pa R) (pb R)) ?_
  rintro _ h49 ⟨f49, rfl⟩
  refine ⟨_, rfl, f49, fun hab => ?_, fun hab => ?_⟩
  · refine ⟨fun _ => ?_, fun e => (by cases e)⟩
    refine rdP (KA f49) (rdP (KA f49) ?_)
    refine cal_of (meet_spec a a (pa f49) (pa f49)) ?_
    rintro _ h62 ⟨f62, rfl⟩
    have q62 := (f49).trans f62
    have haa : meetB a xs a xs = true := by unfold meetB; rw [begB_self]; rfl
    refine ⟨_, rfl, q62, fun _ => ?_, fun e => by rw [haa] at e; cases e⟩
    refine rdP (KA q62) (rdP (KC q62) ?_)
    refine cal_of (meet_spec a a (pa q62) (pc q62)) ?_
    rintro _ h63 ⟨f63, rfl⟩
    have q63 := q62.trans f63
    have hac : meetB a xs a (xs ++ us) = true := by unfold meetB; rw [Bool.or_eq_true]; exact .inl (begB_iff.2 ⟨rfl, List.prefix_append _ _⟩)
    refine ⟨_, rfl, q63, fun _ => ?_, fun e => by rw [hac] at e; cases e⟩
    refine rdP (KA q63) (rdP (KB q63) ?_)
    refine ⟨fun h' => Grow h48 h', fun _ h => h, q63, hdP (fun h' hs => KB hs) (hdP (fun h' hs => KA hs) ?_)⟩
    refine cal_of (meet_spec a b (pa q63) (pb q63)) ?_
    rintro _ h64 ⟨f64, rfl⟩
    have q64 := q63.trans f64
    refine ⟨_, rfl, q64, ?_⟩
    refine cal_of (meet_spec b a (pb q64) (pa q64)) ?_
    rintro _ h65 ⟨f65, rfl⟩
    exact ⟨_, rfl, by rw [meet_sym a b xs ys]; simp, q64.trans f65⟩
  · refine rdP (KC f49) (rdP (KD f49) ?_)
    refine cal_of (meet_spec a b (pc f49) (pd f49)) ?_
    rintro _ h50 ⟨f50, rfl⟩
    have q50 := f49.trans f50
    have hcd : meetB a (xs ++ us) b (ys ++ vs) = false := by
      cases h : meetB a (xs ++ us) b (ys ++ vs) with
      | false => rfl
      | true => rw [meet_parts h] at hab; cases hab
    refine ⟨_, rfl, q50, fun _ => ?_, fun e => by rw [hcd] at e; cases e⟩
    refine rdP (KA q50) (rdP (KA q50) ?_)
    refine cal_of (meet_spec a a (pa q50) (pa q50)) ?_
    rintro _ h62 ⟨f62, rfl⟩
    have q62 := (q50).trans f62
    have haa : meetB a xs a xs = true := by unfold meetB; rw [begB_self]; rfl
    refine ⟨_, rfl, q62, fun _ => ?_, fun e => by rw [haa] at e; cases e⟩
    refine rdP (KA q62) (rdP (KC q62) ?_)
    refine cal_of (meet_spec a a (pa q62) (pc q62)) ?_
    rintro _ h63 ⟨f63, rfl⟩
    have q63 := q62.trans f63
    have hac : meetB a xs a (xs ++ us) = true := by unfold meetB; rw [Bool.or_eq_true]; exact .inl (begB_iff.2 ⟨rfl, List.prefix_append _ _⟩)
    refine ⟨_, rfl, q63, fun _ => ?_, fun e => by rw [hac] at e; cases e⟩
    refine rdP (KA q63) (rdP (KB q63) ?_)
    refine ⟨fun h' => Grow h48 h', fun _ h => h, q63, hdP (fun h' hs => KB hs) (hdP (fun h' hs => KA hs) ?_)⟩
    refine cal_of (meet_spec a b (pa q63) (pb q63)) ?_
    rintro _ h64 ⟨f64, rfl⟩
    have q64 := q63.trans f64
    refine ⟨_, rfl, q64, ?_⟩
    refine cal_of (meet_spec b a (pb q64) (pa q64)) ?_
    rintro _ h65 ⟨f65, rfl⟩
    exact ⟨_, rfl, by rw [meet_sym a b xs ys]; simp, q64.trans f65⟩
end Go.Proofs.Ytifjmbbnpkgmaaa

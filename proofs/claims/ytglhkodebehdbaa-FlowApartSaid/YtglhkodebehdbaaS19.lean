/-
  FlowApart, walked.
-/
import Derived.Test.YtglhkodebehdbaaS18
namespace Go.Proofs.Ytglhkodebehdbaa
open Go Go.Lf

theorem apart_walk (a0 : Sv) (a1 : Int) (a2 a3 a4 : Sv) (p : Pb) (e1 : Int) (h : Heap) (x : PbAt h a0 a1 a2 a3 a4 p) :
    CallsH Try.prog 6 #[pbV a0 a1 a2 a3 a4, .int .i64 e1] h (fun v h' => v = .bool true ∧ Grow h h') := by
  apply F6
  unfold L6
  rintro p2 h1 rfl rfl
  have f1 : Grow h (h.push (.cells (pbC a0 a1 a2 a3 a4) 25)) := Fr.push _ _ _
  have kb := blk.new h (pbC a0 a1 a2 a3 a4) 25
  have ee : h.push (.cells #[.slice a0.a a0.n a0.c, .int .i64 a1, .slice a2.a a2.n a2.c, .slice a3.a a3.n a3.c, .slice a4.a a4.n a4.c] 25) = h.push (.cells (pbC a0 a1 a2 a3 a4) 25) := rfl
  rw [ee]
  generalize h.push (.cells (pbC a0 a1 a2 a3 a4) 25) = h1 at *
  rintro p3 h2 rfl rfl
  have f2 : Grow h1 (h1.push (.cells #[.int .i64 e1] 3)) := Fr.push _ _ _
  have kE2 := blk.new h1 #[.int .i64 e1] 3
  generalize h1.push (.cells #[.int .i64 e1] 3) = h2 at *
  refine cal_of (flowed_spec h2) ?_
  rintro _ h3 ⟨rfl, f3⟩
  refine ⟨_, rfl, ?_⟩
  have K : ∀ {h' : Heap}, Grow h2 h' → blk h' h.size (pbC a0 a1 a2 a3 a4) := fun g => (f2.trans g).blk kb (fun h => h)
  have KE : ∀ {h' : Heap}, Grow h2 h' → cl h' ⟨h1.size, 0, none⟩ = some (.int .i64 e1) := fun g => by rw [(g.blk kE2 (fun h => h)).cl]; rfl
  have box : ∀ {h' : Heap}, Grow h2 h' → cl h' ⟨h.size, 0, none⟩ = some (.slice a0.a a0.n a0.c) ∧ cl h' ((⟨h.size, 0, none⟩ : Addr).add 1) = some (.int .i64 a1) ∧ cl h' ((⟨h.size, 0, none⟩ : Addr).add 2) = some (.slice a2.a a2.n a2.c) ∧
      cl h' ((⟨h.size, 0, none⟩ : Addr).add 3) = some (.slice a3.a a3.n a3.c) ∧ cl h' ((⟨h.size, 0, none⟩ : Addr).add 4) = some (.slice a4.a a4.n a4.c) :=
    fun g => ⟨by rw [(K g).cl]; rfl, by rw [add_plain, (K g).cl]; rfl, by rw [add_plain, (K g).cl]; rfl, by rw [add_plain, (K g).cl]; rfl, by rw [add_plain, (K g).cl]; rfl⟩
  have f02 := f1.trans f2
  have hs := x.s.len
  have hw := x.w
  refine ⟨fun b h' => Grow h2 h' ∧ (b = false → p.Sm), ⟨fun e => (by cases e), fun _ => ?_⟩, ?_⟩
  · obtain ⟨b1, b2, b3, b4, b5⟩ := box f3
    refine ⟨a0, a1, a2, a3, a4, b1, b2, b3, b4, b5, cal_of (small_spec (x.grow (f02.trans f3))) ?_⟩
    rintro _ h4 ⟨b, rfl, g4, hb⟩
    exact ⟨b, rfl, f3.trans g4, fun e => hb (by simpa using e)⟩
  rintro b h4 ⟨f4, hb⟩
  refine ⟨fun c => c = false → b = false ∧ 0 ≤ e1, ⟨fun _ e => (by cases e), fun eb => ldI_i (KE f4) fun e => ⟨eb, by have := of_decide_eq_false e; omega⟩⟩, fun c q1 => ?_⟩
  refine ⟨fun d => d = false → (b = false ∧ 0 ≤ e1) ∧ e1 < p.w, ⟨fun _ e => (by cases e), fun ec => ldI_i (KE f4) (ldI_i (x := a1) (box f4).2.1 fun e => ⟨q1 ec, by have := of_decide_eq_false e; omega⟩)⟩, fun d q2 => ?_⟩
  refine ⟨fun k h' => Grow h2 h' ∧ (k = false → ((b = false ∧ 0 ≤ e1) ∧ e1 < p.w) ∧ p.chk = 0), ⟨fun _ => ⟨f4, fun e => (by cases e)⟩, fun ed => ?_⟩, ?_⟩
  · obtain ⟨b1, b2, b3, b4, b5⟩ := box f4
    refine ⟨a0, a1, a2, a3, a4, b1, b2, b3, b4, b5, cal_of (check_ref (x.grow (f02.trans f4)) (hb (q2 ed).1.1).bd) ?_⟩
    rintro _ h6 ⟨rfl, f6⟩
    exact ⟨_, rfl, f4.trans f6, fun e => ⟨q2 ed, by simpa using e⟩⟩
  rintro k h6 ⟨f6, q3⟩
  refine ⟨fun _ => ?_, fun ek => ?_⟩
  · refine cal_of (flowed_spec h6) ?_
    rintro _ h7 ⟨rfl, f7⟩
    exact ⟨_, rfl, rfl, (f02.trans f6).trans f7⟩
  obtain ⟨⟨⟨eb, he0⟩, he1⟩, hc⟩ := q3 ek
  have B := (hb eb).bd
  obtain ⟨e, rfl⟩ := Int.eq_ofNat_of_zero_le he0
  have f06 := f02.trans f6
  have x6 := x.grow f06
  have kE := f6.blk kE2 (fun h => h)
  refine ⟨Made h6 a0 p e, ?_, ?_⟩
  · have gh : Grow h6 h6 := Fr.refl _ _
    obtain ⟨b1, b2, b3, b4, b5⟩ := box f6
    refine ⟨Grow h6, Fr.refl _ _, a0, fun h' g => g.clk b1 (fun h => h), a2, fun h' g => g.clk b3 (fun h => h), a3, fun h' g => g.clk b4 (fun h => h), a4, fun h' g => g.clk b5 (fun h => h), ?_⟩
    clear b1 b2 b3 b4 b5
    refine ⟨?_, ?_, ?_⟩
    · refine cv (gh.blk kE fun h => h) (x6.g.keep gh fun _ _ h => h) B.g B.g1 ?_
      intro uA h6A tA LA eA kk
      refine ⟨uA, rfl, gh.trans kk, ?_⟩
      have GA : Grow h6A h6A := Fr.refl _ _
      replace gh := gh.trans kk
      clear kk
      refine ⟨?_, ?_, ?_⟩
      · refine cv (gh.blk kE fun h => h) (x6.k.keep gh fun _ _ h => h) B.k B.k1 ?_
        intro uB h6AB tB LB eB kk
        refine ⟨uB, rfl, gh.trans kk, ?_⟩
        have GB : Grow h6AB h6AB := Fr.refl _ _
        replace GA := GA.trans kk
        replace gh := gh.trans kk
        clear kk
        refine ⟨?_, ?_⟩
        · intro sN h6ABN eS eH
          subst eS
          have kk : Grow h6AB h6ABN := by rw [eH]; exact Fr.push _ _ _
          have kN : blk h6ABN h6AB.size #[.slice a4.a a4.n a4.c] := by rw [eH]; exact blk.new _ _ _
          have LN := one_list kN (x6.e.keep (gh.trans kk) fun _ _ h => h)
          have GN : Grow h6ABN h6ABN := Fr.refl _ _
          clear eH
          refine ⟨gh.trans kk, ?_⟩
          replace GA := GA.trans kk
          replace GB := GB.trans kk
          replace gh := gh.trans kk
          clear kk
          refine ⟨?_, ?_⟩
          · refine cv (gh.blk kE fun h => h) (LN.keep GN fun _ _ h => h) (by simp) (fun l hl => by simp at hl; subst hl; exact B.e) ?_
            intro uE h6ABNE tE LE eE kk
            obtain ⟨q56, u56, i1, i2, c56, y56, o56⟩ := one_of LE eE
            have GE : Grow h6ABNE h6ABNE := Fr.refl _ _
            refine ⟨uE, rfl, gh.trans kk, q56, i1, by omega, by omega, Grow h6ABNE, fun h g => (gh.trans kk).trans g, Fr.refl _ _, u56, fun h' g => g.clk c56 (fun h => h), ?_⟩
            replace GA := GA.trans kk
            replace GB := GB.trans kk
            replace GN := GN.trans kk
            replace gh := gh.trans kk
            clear kk
            intro pP h6ABNEP eS eH
            subst eS
            have kk : Grow h6ABNE h6ABNEP := by rw [eH]; exact Fr.push _ _ _
            obtain ⟨bP, hbP⟩ : ∃ b, b = h6ABNE.size := ⟨_, rfl⟩
            have kP : blk h6ABNEP bP #[.slice none 0 0, .int .i64 0, .slice none 0 0, .slice none 0 0, .slice none 0 0] := by rw [eH, hbP]; exact blk.new _ _ _
            have hP : h6.size ≤ bP := by rw [hbP]; exact gh.size
            have dA : h6A.size ≤ bP ∨ bP < h6.size := .inl (by rw [hbP]; exact GA.size)
            have dB : h6AB.size ≤ bP ∨ bP < h6A.size := .inl (by rw [hbP]; exact GB.size)
            have dE : h6ABNE.size ≤ bP ∨ bP < h6ABN.size := .inl (by rw [hbP]; exact GE.size)
            rw [← hbP]
            clear eH hbP
            refine ⟨kk, ?_⟩
            replace GA := GA.trans kk
            replace GB := GB.trans kk
            replace GN := GN.trans kk
            replace GE := GE.trans kk
            replace gh := gh.trans kk
            clear kk
            exact made_leaf x6 LA eA GA dA LB eB GB dB y56 o56 GE dE kP rfl hP gh rfl
          · intro pP h6ABNP eS eH
            subst eS
            have kk : Grow h6ABN h6ABNP := by rw [eH]; exact Fr.push _ _ _
            obtain ⟨bP, hbP⟩ : ∃ b, b = h6ABN.size := ⟨_, rfl⟩
            have kP : blk h6ABNP bP #[.slice none 0 0, .int .i64 0, .slice none 0 0, .slice none 0 0, .slice none 0 0] := by rw [eH, hbP]; exact blk.new _ _ _
            have hP : h6.size ≤ bP := by rw [hbP]; exact gh.size
            have dA : h6A.size ≤ bP ∨ bP < h6.size := .inl (by rw [hbP]; exact GA.size)
            have dB : h6AB.size ≤ bP ∨ bP < h6A.size := .inl (by rw [hbP]; exact GB.size)
            rw [← hbP]
            clear eH hbP
            refine ⟨gh.trans kk, ?_⟩
            replace GA := GA.trans kk
            replace GB := GB.trans kk
            replace GN := GN.trans kk
            replace gh := gh.trans kk
            clear kk
            refine cv (gh.blk kE fun h => h) (LN.keep GN fun _ _ h => h) (by simp) (fun l hl => by simp at hl; subst hl; exact B.e) ?_
            intro uE h6ABNPE tE LE eE kk
            obtain ⟨q56, u56, i1, i2, c56, y56, o56⟩ := one_of LE eE
            have GE : Grow h6ABNPE h6ABNPE := Fr.refl _ _
            have dE : h6ABNPE.size ≤ bP ∨ bP < h6ABNP.size := .inr kP.lt
            refine ⟨uE, rfl, gh.trans kk, q56, i1, by omega, by omega, ldS_i (s := u56) c56 ?_⟩
            replace GA := GA.trans kk
            replace GB := GB.trans kk
            replace GN := GN.trans kk
            replace kP := kk.blk kP (fun h => h)
            replace gh := gh.trans kk
            clear kk
            exact made_leaf x6 LA eA GA dA LB eB GB dB y56 o56 GE dE kP rfl hP gh rfl
        · intro pP h6ABP eS eH
          subst eS
          have kk : Grow h6AB h6ABP := by rw [eH]; exact Fr.push _ _ _
          obtain ⟨bP, hbP⟩ : ∃ b, b = h6AB.size := ⟨_, rfl⟩
          have kP : blk h6ABP bP #[.slice none 0 0, .int .i64 0, .slice none 0 0, .slice none 0 0, .slice none 0 0] := by rw [eH, hbP]; exact blk.new _ _ _
          have hP : h6.size ≤ bP := by rw [hbP]; exact gh.size
          have dA : h6A.size ≤ bP ∨ bP < h6.size := .inl (by rw [hbP]; exact GA.size)
          have dB : h6AB.size ≤ bP ∨ bP < h6A.size := .inl (by rw [hbP]; exact GB.size)
          rw [← hbP]
          clear eH hbP
          refine ⟨gh.trans kk, ?_⟩
          replace GA := GA.trans kk
          replace GB := GB.trans kk
          replace gh := gh.trans kk
          clear kk
          intro sN h6ABPN eS eH
          subst eS
          have kk : Grow h6ABP h6ABPN := by rw [eH]; exact Fr.push _ _ _
          have kN : blk h6ABPN h6ABP.size #[.slice a4.a a4.n a4.c] := by rw [eH]; exact blk.new _ _ _
          have LN := one_list kN (x6.e.keep (gh.trans kk) fun _ _ h => h)
          have GN : Grow h6ABPN h6ABPN := Fr.refl _ _
          clear eH
          refine ⟨gh.trans kk, ?_⟩
          replace GA := GA.trans kk
          replace GB := GB.trans kk
          replace kP := kk.blk kP (fun h => h)
          replace gh := gh.trans kk
          clear kk
          refine cv (gh.blk kE fun h => h) (LN.keep GN fun _ _ h => h) (by simp) (fun l hl => by simp at hl; subst hl; exact B.e) ?_
          intro uE h6ABPNE tE LE eE kk
          obtain ⟨q56, u56, i1, i2, c56, y56, o56⟩ := one_of LE eE
          have GE : Grow h6ABPNE h6ABPNE := Fr.refl _ _
          have dE : h6ABPNE.size ≤ bP ∨ bP < h6ABPN.size := .inr kP.lt
          refine ⟨uE, rfl, gh.trans kk, q56, i1, by omega, by omega, ldS_i (s := u56) c56 ?_⟩
          replace GA := GA.trans kk
          replace GB := GB.trans kk
          replace GN := GN.trans kk
          replace kP := kk.blk kP (fun h => h)
          replace gh := gh.trans kk
          clear kk
          exact made_leaf x6 LA eA GA dA LB eB GB dB y56 o56 GE dE kP rfl hP gh rfl
      · intro sN h6AN eS eH
        subst eS
        have kk : Grow h6A h6AN := by rw [eH]; exact Fr.push _ _ _
        have kN : blk h6AN h6A.size #[.slice a4.a a4.n a4.c] := by rw [eH]; exact blk.new _ _ _
        have LN := one_list kN (x6.e.keep (gh.trans kk) fun _ _ h => h)
        have GN : Grow h6AN h6AN := Fr.refl _ _
        clear eH
        refine ⟨gh.trans kk, ?_⟩
        replace GA := GA.trans kk
        replace gh := gh.trans kk
        clear kk
        refine ⟨?_, ?_⟩
        · refine cv (gh.blk kE fun h => h) (x6.k.keep gh fun _ _ h => h) B.k B.k1 ?_
          intro uB h6ANB tB LB eB kk
          refine ⟨uB, rfl, gh.trans kk, ?_⟩
          have GB : Grow h6ANB h6ANB := Fr.refl _ _
          replace GA := GA.trans kk
          replace GN := GN.trans kk
          replace gh := gh.trans kk
          clear kk
          refine ⟨?_, ?_⟩
          · refine cv (gh.blk kE fun h => h) (LN.keep GN fun _ _ h => h) (by simp) (fun l hl => by simp at hl; subst hl; exact B.e) ?_
            intro uE h6ANBE tE LE eE kk
            obtain ⟨q56, u56, i1, i2, c56, y56, o56⟩ := one_of LE eE
            have GE : Grow h6ANBE h6ANBE := Fr.refl _ _
            refine ⟨uE, rfl, gh.trans kk, q56, i1, by omega, by omega, Grow h6ANBE, fun h g => (gh.trans kk).trans g, Fr.refl _ _, u56, fun h' g => g.clk c56 (fun h => h), ?_⟩
            replace GA := GA.trans kk
            replace GB := GB.trans kk
            replace GN := GN.trans kk
            replace gh := gh.trans kk
            clear kk
            intro pP h6ANBEP eS eH
            subst eS
            have kk : Grow h6ANBE h6ANBEP := by rw [eH]; exact Fr.push _ _ _
            obtain ⟨bP, hbP⟩ : ∃ b, b = h6ANBE.size := ⟨_, rfl⟩
            have kP : blk h6ANBEP bP #[.slice none 0 0, .int .i64 0, .slice none 0 0, .slice none 0 0, .slice none 0 0] := by rw [eH, hbP]; exact blk.new _ _ _
            have hP : h6.size ≤ bP := by rw [hbP]; exact gh.size
            have dA : h6A.size ≤ bP ∨ bP < h6.size := .inl (by rw [hbP]; exact GA.size)
            have dB : h6ANB.size ≤ bP ∨ bP < h6AN.size := .inl (by rw [hbP]; exact GB.size)
            have dE : h6ANBE.size ≤ bP ∨ bP < h6ANB.size := .inl (by rw [hbP]; exact GE.size)
            rw [← hbP]
            clear eH hbP
            refine ⟨kk, ?_⟩
            replace GA := GA.trans kk
            replace GB := GB.trans kk
            replace GN := GN.trans kk
            replace GE := GE.trans kk
            replace gh := gh.trans kk
            clear kk
            exact made_leaf x6 LA eA GA dA LB eB GB dB y56 o56 GE dE kP rfl hP gh rfl
          · intro pP h6ANBP eS eH
            subst eS
            have kk : Grow h6ANB h6ANBP := by rw [eH]; exact Fr.push _ _ _
            obtain ⟨bP, hbP⟩ : ∃ b, b = h6ANB.size := ⟨_, rfl⟩
            have kP : blk h6ANBP bP #[.slice none 0 0, .int .i64 0, .slice none 0 0, .slice none 0 0, .slice none 0 0] := by rw [eH, hbP]; exact blk.new _ _ _
            have hP : h6.size ≤ bP := by rw [hbP]; exact gh.size
            have dA : h6A.size ≤ bP ∨ bP < h6.size := .inl (by rw [hbP]; exact GA.size)
            have dB : h6ANB.size ≤ bP ∨ bP < h6AN.size := .inl (by rw [hbP]; exact GB.size)
            rw [← hbP]
            clear eH hbP
            refine ⟨gh.trans kk, ?_⟩
            replace GA := GA.trans kk
            replace GB := GB.trans kk
            replace GN := GN.trans kk
            replace gh := gh.trans kk
            clear kk
            refine cv (gh.blk kE fun h => h) (LN.keep GN fun _ _ h => h) (by simp) (fun l hl => by simp at hl; subst hl; exact B.e) ?_
            intro uE h6ANBPE tE LE eE kk
            obtain ⟨q56, u56, i1, i2, c56, y56, o56⟩ := one_of LE eE
            have GE : Grow h6ANBPE h6ANBPE := Fr.refl _ _
            have dE : h6ANBPE.size ≤ bP ∨ bP < h6ANBP.size := .inr kP.lt
            refine ⟨uE, rfl, gh.trans kk, q56, i1, by omega, by omega, ldS_i (s := u56) c56 ?_⟩
            replace GA := GA.trans kk
            replace GB := GB.trans kk
            replace GN := GN.trans kk
            replace kP := kk.blk kP (fun h => h)
            replace gh := gh.trans kk
            clear kk
            exact made_leaf x6 LA eA GA dA LB eB GB dB y56 o56 GE dE kP rfl hP gh rfl
        · intro pP h6ANP eS eH
          subst eS
          have kk : Grow h6AN h6ANP := by rw [eH]; exact Fr.push _ _ _
          obtain ⟨bP, hbP⟩ : ∃ b, b = h6AN.size := ⟨_, rfl⟩
          have kP : blk h6ANP bP #[.slice none 0 0, .int .i64 0, .slice none 0 0, .slice none 0 0, .slice none 0 0] := by rw [eH, hbP]; exact blk.new _ _ _
          have hP : h6.size ≤ bP := by rw [hbP]; exact gh.size
          have dA : h6A.size ≤ bP ∨ bP < h6.size := .inl (by rw [hbP]; exact GA.size)
          rw [← hbP]
          clear eH hbP
          refine ⟨gh.trans kk, ?_⟩
          replace GA := GA.trans kk
          replace GN := GN.trans kk
          replace gh := gh.trans kk
          clear kk
          refine cv (gh.blk kE fun h => h) (x6.k.keep gh fun _ _ h => h) B.k B.k1 ?_
          intro uB h6ANPB tB LB eB kk
          refine ⟨uB, rfl, gh.trans kk, ?_⟩
          have GB : Grow h6ANPB h6ANPB := Fr.refl _ _
          have dB : h6ANPB.size ≤ bP ∨ bP < h6ANP.size := .inr kP.lt
          replace GA := GA.trans kk
          replace GN := GN.trans kk
          replace kP := kk.blk kP (fun h => h)
          replace gh := gh.trans kk
          clear kk
          refine cv (gh.blk kE fun h => h) (LN.keep GN fun _ _ h => h) (by simp) (fun l hl => by simp at hl; subst hl; exact B.e) ?_
          intro uE h6ANPBE tE LE eE kk
          obtain ⟨q56, u56, i1, i2, c56, y56, o56⟩ := one_of LE eE
          have GE : Grow h6ANPBE h6ANPBE := Fr.refl _ _
          have dE : h6ANPBE.size ≤ bP ∨ bP < h6ANPB.size := .inr kP.lt
          refine ⟨uE, rfl, gh.trans kk, q56, i1, by omega, by omega, ldS_i (s := u56) c56 ?_⟩
          replace GA := GA.trans kk
          replace GB := GB.trans kk
          replace GN := GN.trans kk
          replace kP := kk.blk kP (fun h => h)
          replace gh := gh.trans kk
          clear kk
          exact made_leaf x6 LA eA GA dA LB eB GB dB y56 o56 GE dE kP rfl hP gh rfl
      · intro pP h6AP eS eH
        subst eS
        have kk : Grow h6A h6AP := by rw [eH]; exact Fr.push _ _ _
        obtain ⟨bP, hbP⟩ : ∃ b, b = h6A.size := ⟨_, rfl⟩
        have kP : blk h6AP bP #[.slice none 0 0, .int .i64 0, .slice none 0 0, .slice none 0 0, .slice none 0 0] := by rw [eH, hbP]; exact blk.new _ _ _
        have hP : h6.size ≤ bP := by rw [hbP]; exact gh.size
        have dA : h6A.size ≤ bP ∨ bP < h6.size := .inl (by rw [hbP]; exact GA.size)
        rw [← hbP]
        clear eH hbP
        refine ⟨gh.trans kk, ?_⟩
        replace GA := GA.trans kk
        replace gh := gh.trans kk
        clear kk
        refine ⟨?_, ?_⟩
        · refine cv (gh.blk kE fun h => h) (x6.k.keep gh fun _ _ h => h) B.k B.k1 ?_
          intro uB h6APB tB LB eB kk
          refine ⟨uB, rfl, gh.trans kk, ?_⟩
          have GB : Grow h6APB h6APB := Fr.refl _ _
          have dB : h6APB.size ≤ bP ∨ bP < h6AP.size := .inr kP.lt
          replace GA := GA.trans kk
          replace kP := kk.blk kP (fun h => h)
          replace gh := gh.trans kk
          clear kk
          intro sN h6APBN eS eH
          subst eS
          have kk : Grow h6APB h6APBN := by rw [eH]; exact Fr.push _ _ _
          have kN : blk h6APBN h6APB.size #[.slice a4.a a4.n a4.c] := by rw [eH]; exact blk.new _ _ _
          have LN := one_list kN (x6.e.keep (gh.trans kk) fun _ _ h => h)
          have GN : Grow h6APBN h6APBN := Fr.refl _ _
          clear eH
          refine ⟨gh.trans kk, ?_⟩
          replace GA := GA.trans kk
          replace GB := GB.trans kk
          replace kP := kk.blk kP (fun h => h)
          replace gh := gh.trans kk
          clear kk
          refine cv (gh.blk kE fun h => h) (LN.keep GN fun _ _ h => h) (by simp) (fun l hl => by simp at hl; subst hl; exact B.e) ?_
          intro uE h6APBNE tE LE eE kk
          obtain ⟨q56, u56, i1, i2, c56, y56, o56⟩ := one_of LE eE
          have GE : Grow h6APBNE h6APBNE := Fr.refl _ _
          have dE : h6APBNE.size ≤ bP ∨ bP < h6APBN.size := .inr kP.lt
          refine ⟨uE, rfl, gh.trans kk, q56, i1, by omega, by omega, ldS_i (s := u56) c56 ?_⟩
          replace GA := GA.trans kk
          replace GB := GB.trans kk
          replace GN := GN.trans kk
          replace kP := kk.blk kP (fun h => h)
          replace gh := gh.trans kk
          clear kk
          exact made_leaf x6 LA eA GA dA LB eB GB dB y56 o56 GE dE kP rfl hP gh rfl
        · intro sN h6APN eS eH
          subst eS
          have kk : Grow h6AP h6APN := by rw [eH]; exact Fr.push _ _ _
          have kN : blk h6APN h6AP.size #[.slice a4.a a4.n a4.c] := by rw [eH]; exact blk.new _ _ _
          have LN := one_list kN (x6.e.keep (gh.trans kk) fun _ _ h => h)
          have GN : Grow h6APN h6APN := Fr.refl _ _
          clear eH
          refine ⟨gh.trans kk, ?_⟩
          replace GA := GA.trans kk
          replace kP := kk.blk kP (fun h => h)
          replace gh := gh.trans kk
          clear kk
          refine cv (gh.blk kE fun h => h) (x6.k.keep gh fun _ _ h => h) B.k B.k1 ?_
          intro uB h6APNB tB LB eB kk
          refine ⟨uB, rfl, gh.trans kk, ?_⟩
          have GB : Grow h6APNB h6APNB := Fr.refl _ _
          have dB : h6APNB.size ≤ bP ∨ bP < h6APN.size := .inr kP.lt
          replace GA := GA.trans kk
          replace GN := GN.trans kk
          replace kP := kk.blk kP (fun h => h)
          replace gh := gh.trans kk
          clear kk
          refine cv (gh.blk kE fun h => h) (LN.keep GN fun _ _ h => h) (by simp) (fun l hl => by simp at hl; subst hl; exact B.e) ?_
          intro uE h6APNBE tE LE eE kk
          obtain ⟨q56, u56, i1, i2, c56, y56, o56⟩ := one_of LE eE
          have GE : Grow h6APNBE h6APNBE := Fr.refl _ _
          have dE : h6APNBE.size ≤ bP ∨ bP < h6APNB.size := .inr kP.lt
          refine ⟨uE, rfl, gh.trans kk, q56, i1, by omega, by omega, ldS_i (s := u56) c56 ?_⟩
          replace GA := GA.trans kk
          replace GB := GB.trans kk
          replace GN := GN.trans kk
          replace kP := kk.blk kP (fun h => h)
          replace gh := gh.trans kk
          clear kk
          exact made_leaf x6 LA eA GA dA LB eB GB dB y56 o56 GE dE kP rfl hP gh rfl
    · intro sN h6N eS eH
      subst eS
      have kk : Grow h6 h6N := by rw [eH]; exact Fr.push _ _ _
      have kN : blk h6N h6.size #[.slice a4.a a4.n a4.c] := by rw [eH]; exact blk.new _ _ _
      have LN := one_list kN (x6.e.keep (gh.trans kk) fun _ _ h => h)
      have GN : Grow h6N h6N := Fr.refl _ _
      clear eH
      refine ⟨gh.trans kk, ?_⟩
      replace gh := gh.trans kk
      clear kk
      refine ⟨?_, ?_⟩
      · refine cv (gh.blk kE fun h => h) (x6.g.keep gh fun _ _ h => h) B.g B.g1 ?_
        intro uA h6NA tA LA eA kk
        refine ⟨uA, rfl, gh.trans kk, ?_⟩
        have GA : Grow h6NA h6NA := Fr.refl _ _
        replace GN := GN.trans kk
        replace gh := gh.trans kk
        clear kk
        refine ⟨?_, ?_⟩
        · refine cv (gh.blk kE fun h => h) (x6.k.keep gh fun _ _ h => h) B.k B.k1 ?_
          intro uB h6NAB tB LB eB kk
          refine ⟨uB, rfl, gh.trans kk, ?_⟩
          have GB : Grow h6NAB h6NAB := Fr.refl _ _
          replace GA := GA.trans kk
          replace GN := GN.trans kk
          replace gh := gh.trans kk
          clear kk
          refine ⟨?_, ?_⟩
          · refine cv (gh.blk kE fun h => h) (LN.keep GN fun _ _ h => h) (by simp) (fun l hl => by simp at hl; subst hl; exact B.e) ?_
            intro uE h6NABE tE LE eE kk
            obtain ⟨q56, u56, i1, i2, c56, y56, o56⟩ := one_of LE eE
            have GE : Grow h6NABE h6NABE := Fr.refl _ _
            refine ⟨uE, rfl, gh.trans kk, q56, i1, by omega, by omega, Grow h6NABE, fun h g => (gh.trans kk).trans g, Fr.refl _ _, u56, fun h' g => g.clk c56 (fun h => h), ?_⟩
            replace GA := GA.trans kk
            replace GB := GB.trans kk
            replace GN := GN.trans kk
            replace gh := gh.trans kk
            clear kk
            intro pP h6NABEP eS eH
            subst eS
            have kk : Grow h6NABE h6NABEP := by rw [eH]; exact Fr.push _ _ _
            obtain ⟨bP, hbP⟩ : ∃ b, b = h6NABE.size := ⟨_, rfl⟩
            have kP : blk h6NABEP bP #[.slice none 0 0, .int .i64 0, .slice none 0 0, .slice none 0 0, .slice none 0 0] := by rw [eH, hbP]; exact blk.new _ _ _
            have hP : h6.size ≤ bP := by rw [hbP]; exact gh.size
            have dA : h6NA.size ≤ bP ∨ bP < h6N.size := .inl (by rw [hbP]; exact GA.size)
            have dB : h6NAB.size ≤ bP ∨ bP < h6NA.size := .inl (by rw [hbP]; exact GB.size)
            have dE : h6NABE.size ≤ bP ∨ bP < h6NAB.size := .inl (by rw [hbP]; exact GE.size)
            rw [← hbP]
            clear eH hbP
            refine ⟨kk, ?_⟩
            replace GA := GA.trans kk
            replace GB := GB.trans kk
            replace GN := GN.trans kk
            replace GE := GE.trans kk
            replace gh := gh.trans kk
            clear kk
            exact made_leaf x6 LA eA GA dA LB eB GB dB y56 o56 GE dE kP rfl hP gh rfl
          · intro pP h6NABP eS eH
            subst eS
            have kk : Grow h6NAB h6NABP := by rw [eH]; exact Fr.push _ _ _
            obtain ⟨bP, hbP⟩ : ∃ b, b = h6NAB.size := ⟨_, rfl⟩
            have kP : blk h6NABP bP #[.slice none 0 0, .int .i64 0, .slice none 0 0, .slice none 0 0, .slice none 0 0] := by rw [eH, hbP]; exact blk.new _ _ _
            have hP : h6.size ≤ bP := by rw [hbP]; exact gh.size
            have dA : h6NA.size ≤ bP ∨ bP < h6N.size := .inl (by rw [hbP]; exact GA.size)
            have dB : h6NAB.size ≤ bP ∨ bP < h6NA.size := .inl (by rw [hbP]; exact GB.size)
            rw [← hbP]
            clear eH hbP
            refine ⟨gh.trans kk, ?_⟩
            replace GA := GA.trans kk
            replace GB := GB.trans kk
            replace GN := GN.trans kk
            replace gh := gh.trans kk
            clear kk
            refine cv (gh.blk kE fun h => h) (LN.keep GN fun _ _ h => h) (by simp) (fun l hl => by simp at hl; subst hl; exact B.e) ?_
            intro uE h6NABPE tE LE eE kk
            obtain ⟨q56, u56, i1, i2, c56, y56, o56⟩ := one_of LE eE
            have GE : Grow h6NABPE h6NABPE := Fr.refl _ _
            have dE : h6NABPE.size ≤ bP ∨ bP < h6NABP.size := .inr kP.lt
            refine ⟨uE, rfl, gh.trans kk, q56, i1, by omega, by omega, ldS_i (s := u56) c56 ?_⟩
            replace GA := GA.trans kk
            replace GB := GB.trans kk
            replace GN := GN.trans kk
            replace kP := kk.blk kP (fun h => h)
            replace gh := gh.trans kk
            clear kk
            exact made_leaf x6 LA eA GA dA LB eB GB dB y56 o56 GE dE kP rfl hP gh rfl
        · intro pP h6NAP eS eH
          subst eS
          have kk : Grow h6NA h6NAP := by rw [eH]; exact Fr.push _ _ _
          obtain ⟨bP, hbP⟩ : ∃ b, b = h6NA.size := ⟨_, rfl⟩
          have kP : blk h6NAP bP #[.slice none 0 0, .int .i64 0, .slice none 0 0, .slice none 0 0, .slice none 0 0] := by rw [eH, hbP]; exact blk.new _ _ _
          have hP : h6.size ≤ bP := by rw [hbP]; exact gh.size
          have dA : h6NA.size ≤ bP ∨ bP < h6N.size := .inl (by rw [hbP]; exact GA.size)
          rw [← hbP]
          clear eH hbP
          refine ⟨gh.trans kk, ?_⟩
          replace GA := GA.trans kk
          replace GN := GN.trans kk
          replace gh := gh.trans kk
          clear kk
          refine cv (gh.blk kE fun h => h) (x6.k.keep gh fun _ _ h => h) B.k B.k1 ?_
          intro uB h6NAPB tB LB eB kk
          refine ⟨uB, rfl, gh.trans kk, ?_⟩
          have GB : Grow h6NAPB h6NAPB := Fr.refl _ _
          have dB : h6NAPB.size ≤ bP ∨ bP < h6NAP.size := .inr kP.lt
          replace GA := GA.trans kk
          replace GN := GN.trans kk
          replace kP := kk.blk kP (fun h => h)
          replace gh := gh.trans kk
          clear kk
          refine cv (gh.blk kE fun h => h) (LN.keep GN fun _ _ h => h) (by simp) (fun l hl => by simp at hl; subst hl; exact B.e) ?_
          intro uE h6NAPBE tE LE eE kk
          obtain ⟨q56, u56, i1, i2, c56, y56, o56⟩ := one_of LE eE
          have GE : Grow h6NAPBE h6NAPBE := Fr.refl _ _
          have dE : h6NAPBE.size ≤ bP ∨ bP < h6NAPB.size := .inr kP.lt
          refine ⟨uE, rfl, gh.trans kk, q56, i1, by omega, by omega, ldS_i (s := u56) c56 ?_⟩
          replace GA := GA.trans kk
          replace GB := GB.trans kk
          replace GN := GN.trans kk
          replace kP := kk.blk kP (fun h => h)
          replace gh := gh.trans kk
          clear kk
          exact made_leaf x6 LA eA GA dA LB eB GB dB y56 o56 GE dE kP rfl hP gh rfl
      · intro pP h6NP eS eH
        subst eS
        have kk : Grow h6N h6NP := by rw [eH]; exact Fr.push _ _ _
        obtain ⟨bP, hbP⟩ : ∃ b, b = h6N.size := ⟨_, rfl⟩
        have kP : blk h6NP bP #[.slice none 0 0, .int .i64 0, .slice none 0 0, .slice none 0 0, .slice none 0 0] := by rw [eH, hbP]; exact blk.new _ _ _
        have hP : h6.size ≤ bP := by rw [hbP]; exact gh.size
        rw [← hbP]
        clear eH hbP
        refine ⟨gh.trans kk, ?_⟩
        replace GN := GN.trans kk
        replace gh := gh.trans kk
        clear kk
        refine cv (gh.blk kE fun h => h) (x6.g.keep gh fun _ _ h => h) B.g B.g1 ?_
        intro uA h6NPA tA LA eA kk
        refine ⟨uA, rfl, gh.trans kk, ?_⟩
        have GA : Grow h6NPA h6NPA := Fr.refl _ _
        have dA : h6NPA.size ≤ bP ∨ bP < h6NP.size := .inr kP.lt
        replace GN := GN.trans kk
        replace kP := kk.blk kP (fun h => h)
        replace gh := gh.trans kk
        clear kk
        refine cv (gh.blk kE fun h => h) (x6.k.keep gh fun _ _ h => h) B.k B.k1 ?_
        intro uB h6NPAB tB LB eB kk
        refine ⟨uB, rfl, gh.trans kk, ?_⟩
        have GB : Grow h6NPAB h6NPAB := Fr.refl _ _
        have dB : h6NPAB.size ≤ bP ∨ bP < h6NPA.size := .inr kP.lt
        replace GA := GA.trans kk
        replace GN := GN.trans kk
        replace kP := kk.blk kP (fun h => h)
        replace gh := gh.trans kk
        clear kk
        refine cv (gh.blk kE fun h => h) (LN.keep GN fun _ _ h => h) (by simp) (fun l hl => by simp at hl; subst hl; exact B.e) ?_
        intro uE h6NPABE tE LE eE kk
        obtain ⟨q56, u56, i1, i2, c56, y56, o56⟩ := one_of LE eE
        have GE : Grow h6NPABE h6NPABE := Fr.refl _ _
        have dE : h6NPABE.size ≤ bP ∨ bP < h6NPAB.size := .inr kP.lt
        refine ⟨uE, rfl, gh.trans kk, q56, i1, by omega, by omega, ldS_i (s := u56) c56 ?_⟩
        replace GA := GA.trans kk
        replace GB := GB.trans kk
        replace GN := GN.trans kk
        replace kP := kk.blk kP (fun h => h)
        replace gh := gh.trans kk
        clear kk
        exact made_leaf x6 LA eA GA dA LB eB GB dB y56 o56 GE dE kP rfl hP gh rfl
    · intro pP h6P eS eH
      subst eS
      have kk : Grow h6 h6P := by rw [eH]; exact Fr.push _ _ _
      obtain ⟨bP, hbP⟩ : ∃ b, b = h6.size := ⟨_, rfl⟩
      have kP : blk h6P bP #[.slice none 0 0, .int .i64 0, .slice none 0 0, .slice none 0 0, .slice none 0 0] := by rw [eH, hbP]; exact blk.new _ _ _
      have hP : h6.size ≤ bP := by rw [hbP]; exact gh.size
      rw [← hbP]
      clear eH hbP
      refine ⟨gh.trans kk, ?_⟩
      replace gh := gh.trans kk
      clear kk
      refine ⟨?_, ?_⟩
      · refine cv (gh.blk kE fun h => h) (x6.g.keep gh fun _ _ h => h) B.g B.g1 ?_
        intro uA h6PA tA LA eA kk
        refine ⟨uA, rfl, gh.trans kk, ?_⟩
        have GA : Grow h6PA h6PA := Fr.refl _ _
        have dA : h6PA.size ≤ bP ∨ bP < h6P.size := .inr kP.lt
        replace kP := kk.blk kP (fun h => h)
        replace gh := gh.trans kk
        clear kk
        refine ⟨?_, ?_⟩
        · refine cv (gh.blk kE fun h => h) (x6.k.keep gh fun _ _ h => h) B.k B.k1 ?_
          intro uB h6PAB tB LB eB kk
          refine ⟨uB, rfl, gh.trans kk, ?_⟩
          have GB : Grow h6PAB h6PAB := Fr.refl _ _
          have dB : h6PAB.size ≤ bP ∨ bP < h6PA.size := .inr kP.lt
          replace GA := GA.trans kk
          replace kP := kk.blk kP (fun h => h)
          replace gh := gh.trans kk
          clear kk
          intro sN h6PABN eS eH
          subst eS
          have kk : Grow h6PAB h6PABN := by rw [eH]; exact Fr.push _ _ _
          have kN : blk h6PABN h6PAB.size #[.slice a4.a a4.n a4.c] := by rw [eH]; exact blk.new _ _ _
          have LN := one_list kN (x6.e.keep (gh.trans kk) fun _ _ h => h)
          have GN : Grow h6PABN h6PABN := Fr.refl _ _
          clear eH
          refine ⟨gh.trans kk, ?_⟩
          replace GA := GA.trans kk
          replace GB := GB.trans kk
          replace kP := kk.blk kP (fun h => h)
          replace gh := gh.trans kk
          clear kk
          refine cv (gh.blk kE fun h => h) (LN.keep GN fun _ _ h => h) (by simp) (fun l hl => by simp at hl; subst hl; exact B.e) ?_
          intro uE h6PABNE tE LE eE kk
          obtain ⟨q56, u56, i1, i2, c56, y56, o56⟩ := one_of LE eE
          have GE : Grow h6PABNE h6PABNE := Fr.refl _ _
          have dE : h6PABNE.size ≤ bP ∨ bP < h6PABN.size := .inr kP.lt
          refine ⟨uE, rfl, gh.trans kk, q56, i1, by omega, by omega, ldS_i (s := u56) c56 ?_⟩
          replace GA := GA.trans kk
          replace GB := GB.trans kk
          replace GN := GN.trans kk
          replace kP := kk.blk kP (fun h => h)
          replace gh := gh.trans kk
          clear kk
          exact made_leaf x6 LA eA GA dA LB eB GB dB y56 o56 GE dE kP rfl hP gh rfl
        · intro sN h6PAN eS eH
          subst eS
          have kk : Grow h6PA h6PAN := by rw [eH]; exact Fr.push _ _ _
          have kN : blk h6PAN h6PA.size #[.slice a4.a a4.n a4.c] := by rw [eH]; exact blk.new _ _ _
          have LN := one_list kN (x6.e.keep (gh.trans kk) fun _ _ h => h)
          have GN : Grow h6PAN h6PAN := Fr.refl _ _
          clear eH
          refine ⟨gh.trans kk, ?_⟩
          replace GA := GA.trans kk
          replace kP := kk.blk kP (fun h => h)
          replace gh := gh.trans kk
          clear kk
          refine cv (gh.blk kE fun h => h) (x6.k.keep gh fun _ _ h => h) B.k B.k1 ?_
          intro uB h6PANB tB LB eB kk
          refine ⟨uB, rfl, gh.trans kk, ?_⟩
          have GB : Grow h6PANB h6PANB := Fr.refl _ _
          have dB : h6PANB.size ≤ bP ∨ bP < h6PAN.size := .inr kP.lt
          replace GA := GA.trans kk
          replace GN := GN.trans kk
          replace kP := kk.blk kP (fun h => h)
          replace gh := gh.trans kk
          clear kk
          refine cv (gh.blk kE fun h => h) (LN.keep GN fun _ _ h => h) (by simp) (fun l hl => by simp at hl; subst hl; exact B.e) ?_
          intro uE h6PANBE tE LE eE kk
          obtain ⟨q56, u56, i1, i2, c56, y56, o56⟩ := one_of LE eE
          have GE : Grow h6PANBE h6PANBE := Fr.refl _ _
          have dE : h6PANBE.size ≤ bP ∨ bP < h6PANB.size := .inr kP.lt
          refine ⟨uE, rfl, gh.trans kk, q56, i1, by omega, by omega, ldS_i (s := u56) c56 ?_⟩
          replace GA := GA.trans kk
          replace GB := GB.trans kk
          replace GN := GN.trans kk
          replace kP := kk.blk kP (fun h => h)
          replace gh := gh.trans kk
          clear kk
          exact made_leaf x6 LA eA GA dA LB eB GB dB y56 o56 GE dE kP rfl hP gh rfl
      · intro sN h6PN eS eH
        subst eS
        have kk : Grow h6P h6PN := by rw [eH]; exact Fr.push _ _ _
        have kN : blk h6PN h6P.size #[.slice a4.a a4.n a4.c] := by rw [eH]; exact blk.new _ _ _
        have LN := one_list kN (x6.e.keep (gh.trans kk) fun _ _ h => h)
        have GN : Grow h6PN h6PN := Fr.refl _ _
        clear eH
        refine ⟨gh.trans kk, ?_⟩
        replace kP := kk.blk kP (fun h => h)
        replace gh := gh.trans kk
        clear kk
        refine cv (gh.blk kE fun h => h) (x6.g.keep gh fun _ _ h => h) B.g B.g1 ?_
        intro uA h6PNA tA LA eA kk
        refine ⟨uA, rfl, gh.trans kk, ?_⟩
        have GA : Grow h6PNA h6PNA := Fr.refl _ _
        have dA : h6PNA.size ≤ bP ∨ bP < h6PN.size := .inr kP.lt
        replace GN := GN.trans kk
        replace kP := kk.blk kP (fun h => h)
        replace gh := gh.trans kk
        clear kk
        refine cv (gh.blk kE fun h => h) (x6.k.keep gh fun _ _ h => h) B.k B.k1 ?_
        intro uB h6PNAB tB LB eB kk
        refine ⟨uB, rfl, gh.trans kk, ?_⟩
        have GB : Grow h6PNAB h6PNAB := Fr.refl _ _
        have dB : h6PNAB.size ≤ bP ∨ bP < h6PNA.size := .inr kP.lt
        replace GA := GA.trans kk
        replace GN := GN.trans kk
        replace kP := kk.blk kP (fun h => h)
        replace gh := gh.trans kk
        clear kk
        refine cv (gh.blk kE fun h => h) (LN.keep GN fun _ _ h => h) (by simp) (fun l hl => by simp at hl; subst hl; exact B.e) ?_
        intro uE h6PNABE tE LE eE kk
        obtain ⟨q56, u56, i1, i2, c56, y56, o56⟩ := one_of LE eE
        have GE : Grow h6PNABE h6PNABE := Fr.refl _ _
        have dE : h6PNABE.size ≤ bP ∨ bP < h6PNAB.size := .inr kP.lt
        refine ⟨uE, rfl, gh.trans kk, q56, i1, by omega, by omega, ldS_i (s := u56) c56 ?_⟩
        replace GA := GA.trans kk
        replace GB := GB.trans kk
        replace GN := GN.trans kk
        replace kP := kk.blk kP (fun h => h)
        replace gh := gh.trans kk
        clear kk
        exact made_leaf x6 LA eA GA dA LB eB GB dB y56 o56 GE dE kP rfl hP gh rfl
  rintro _ h76 ⟨bP, uA, uB, uE, rfl, kP, xq, f76⟩
  have f276 := f6.trans f76
  have x76 := x6.grow f76
  obtain ⟨b1, b2, b3, b4, b5⟩ := box f276
  refine ⟨a0, a1, a2, a3, a4, b1, b2, b3, b4, b5, cal_of (forward_spec x76 B) ?_⟩
  rintro _ h77 ⟨f77, -, hok⟩
  obtain ⟨W, ba, tb, rb, S, rfl, ok, A, ls⟩ := hok hc
  refine ⟨_, rfl, _, rfl, _, rfl, _, rfl, _, rfl, ?_⟩
  have boxq : ∀ {h' : Heap}, Grow h76 h' → cl h' ⟨bP, 0, none⟩ = some (.slice a0.a a0.n a0.c) ∧ cl h' ((⟨bP, 0, none⟩ : Addr).add 1) = some (.int .i64 1) ∧ cl h' ((⟨bP, 0, none⟩ : Addr).add 2) = some (.slice uA.a uA.n uA.c) ∧
      cl h' ((⟨bP, 0, none⟩ : Addr).add 3) = some (.slice uB.a uB.n uB.c) ∧ cl h' ((⟨bP, 0, none⟩ : Addr).add 4) = some (.slice uE.a uE.n uE.c) :=
    fun g => ⟨by rw [(g.blk kP fun h => h).cl]; rfl, by rw [add_plain, (g.blk kP fun h => h).cl]; rfl, by rw [add_plain, (g.blk kP fun h => h).cl]; rfl, by rw [add_plain, (g.blk kP fun h => h).cl]; rfl, by rw [add_plain, (g.blk kP fun h => h).cl]; rfl⟩
  obtain ⟨b1, b2, b3, b4, b5⟩ := boxq f77
  refine ⟨a0, 1, uA, uB, uE, b1, b2, b3, b4, b5, cal_of (forward_spec (xq.grow f77) (bd_only B)) ?_⟩
  rintro _ h78 ⟨f78, -, hok⟩
  obtain ⟨W2, ba2, tb2, rb2, S2, rfl, ok2, A2, ls2⟩ := hok (chk_only hc)
  refine ⟨_, rfl, _, rfl, _, rfl, _, rfl, _, rfl, ?_⟩
  have f778 := f77.trans f78
  obtain ⟨b1, b2, b3, b4, b5⟩ := box (f276.trans f778)
  refine ⟨a0, a1, a2, a3, a4, b1, b2, b3, b4, b5, cal_of (backward_spec (x76.grow f778) B) ?_⟩
  rintro _ h79 ⟨f79, -, hok⟩
  obtain ⟨W3, ba3, tb3, rb3, S3, rfl, ok3, A3, ls3⟩ := hok hc
  refine ⟨_, rfl, _, rfl, _, rfl, _, rfl, _, rfl, ?_⟩
  have f779 := f778.trans f79
  obtain ⟨b1, b2, b3, b4, b5⟩ := boxq f779
  refine ⟨a0, 1, uA, uB, uE, b1, b2, b3, b4, b5, cal_of (backward_spec (xq.grow f779) (bd_only B)) ?_⟩
  rintro _ h80 ⟨f80, -, hok⟩
  obtain ⟨W4, ba4, tb4, rb4, S4, rfl, ok4, A4, ls4⟩ := hok (chk_only hc)
  refine ⟨_, rfl, _, rfl, _, rfl, _, rfl, _, rfl, fun e => (by cases e), fun _ => ?_⟩
  have f780 := f779.trans f80
  have hW2 : W2 = 1 := by have := ok2.w; simp [Pb.only] at this; omega
  have hW4 : W4 = 1 := by have := ok4.w; simp [Pb.only] at this; omega
  have hW3 : W3 = W := by have h1 := ok.w; have h2 := ok3.w; omega
  subst hW2 hW4 hW3
  have hwl := ok3.wl
  have heW : e < W3 := by have := ok3.w; omega
  have hn := ok3.n
  refine ⟨fun y h81 => ∃ k : Nat, y = k ∧ k ≤ p.s.length ∧ Grow h80 h81, fun y _ => (p.s.length - y).toNat, ⟨0, rfl, by omega, Fr.refl _ _⟩, ?_⟩
  rintro y h81 ⟨k, rfl, hk, g81⟩
  have f281 := f276.trans (f780.trans g81)
  refine ldS_i (s := a0) (box f281).1 (ifb_dec (fun hlt => ?_) (fun _ => ⟨rfl, f02.trans f281⟩))
  have hkl : k < p.s.length := by omega
  have hwk : IntKind.i64.wrap ((k : Int) + 1) = ((k + 1 : Nat) : Int) := by rw [wrap64_id (by omega) (by omega)]; omega
  refine ldI_i (KE f281) ?_
  refine cal_of (ansHas_spec (A.grow (f78.trans (f79.trans (f80.trans g81)))) (by omega) (by omega) k e) ?_
  rintro _ _ ⟨rfl, rfl⟩
  refine ⟨_, rfl, ?_⟩
  refine cal_of (ansHas_spec (A2.grow (f79.trans (f80.trans g81))) (by omega) (by omega) k 0) ?_
  rintro _ _ ⟨rfl, rfl⟩
  refine ⟨_, rfl, ?_⟩
  have eF : S k e = S2 k 0 := (ls e (by omega)).eq (lsF_only (ls2 0 (by omega))) hkl
  have eB : S3 k e = S4 k 0 := (ls3 e (by omega)).eq (lsB_only (ls4 0 (by omega))) hkl
  have v1 : hasS p.s.length W3 S k e = S k e := by simp [hasS, hkl, heW]
  have v2 : hasS p.s.length 1 S2 k 0 = S2 k 0 := by simp [hasS, hkl]
  have v3 : hasS p.s.length W3 S3 k e = S3 k e := by simp [hasS, hkl, heW]
  have v4 : hasS p.s.length 1 S4 k 0 = S4 k 0 := by simp [hasS, hkl]
  refine ⟨fun b h' => b = false ∧ h81 = h', ⟨fun ht => ?_, fun _ => ?_⟩, ?_⟩
  · exfalso
    revert ht
    show (hasS p.s.length W3 S k e != hasS p.s.length 1 S2 k 0) = true → False
    rw [v1, v2, eF]
    simp
  · refine ldI_i (KE f281) ?_
    refine cal_of (ansHas_spec (A3.grow (f80.trans g81)) (by omega) (by omega) k e) ?_
    rintro _ _ ⟨rfl, rfl⟩
    refine ⟨_, rfl, ?_⟩
    refine cal_of (ansHas_spec (A4.grow g81) (by omega) (by omega) k 0) ?_
    rintro _ _ ⟨rfl, rfl⟩
    refine ⟨_, rfl, ?_, rfl⟩
    show (hasS p.s.length W3 S3 k e != hasS p.s.length 1 S4 k 0) = false
    rw [v3, v4, eB]
    simp
  rintro _ _ ⟨rfl, rfl⟩
  exact ⟨fun e => (by cases e), fun _ => ⟨⟨k + 1, hwk, by omega, g81⟩, by rw [hwk]; (try dsimp only); omega⟩⟩
end Go.Proofs.Ytglhkodebehdbaa

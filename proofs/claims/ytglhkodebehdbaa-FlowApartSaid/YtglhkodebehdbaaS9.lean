/-
  The program's Backward, walked.
-/
import Derived.Test.YtglhkodebehdbaaS8
namespace Go.Proofs.Ytglhkodebehdbaa
open Go Go.Lf

section
variable {h : Heap} {a0 : Sv} {a1 : Int} {a2 a3 a4 : Sv} {p : Pb}
def SoundB (p : Pb) (m : Nat) (S : Nat → Nat → Bool) : Prop := ∀ e, e < m → ∀ D, ClB p e D → ∀ i, i < p.s.length → S i e = true → D i = true
def GoB (p : Pb) (m : Nat) (S : Nat → Nat → Bool) (i : Nat) : Prop := ∀ e, e < m → lv p e i (anyS p (fun j => S j e) i) = true → S i e = true

theorem backward_spec (x : PbAt h a0 a1 a2 a3 a4 p) (B : p.Bd) :
    CallsH Try.prog 19 #[pbV a0 a1 a2 a3 a4] h (fun v h' => Grow h h' ∧ (p.chk ≠ 0 → v = .tuple #[.pointer none, .int .i64 p.chk]) ∧
      (p.chk = 0 → ∃ (W : Nat) (ba : Nat) (tb : Sv) (rb : Nat → Nat) (S : Nat → Nat → Bool), v = .tuple #[.pointer (some ⟨ba, 0, none⟩), .int .i64 0] ∧ p.Ok W ∧ AnsOk ba tb rb p.s.length ((W + 63) / 64) W S h' ∧ ∀ e, e < 64 * ((W + 63) / 64) → LsB p e fun i => S i e)) := by
  apply F19
  unfold L19
  rintro p1 h1 rfl rfl
  have f1 : Grow h (h.push (.cells (pbC a0 a1 a2 a3 a4) 25)) := Fr.push _ _ _
  have kb := blk.new h (pbC a0 a1 a2 a3 a4) 25
  have e1 : h.push (.cells #[.slice a0.a a0.n a0.c, .int .i64 a1, .slice a2.a a2.n a2.c, .slice a3.a a3.n a3.c, .slice a4.a a4.n a4.c] 25) = h.push (.cells (pbC a0 a1 a2 a3 a4) 25) := rfl
  rw [e1]
  have hs1 : (h.push (.cells (pbC a0 a1 a2 a3 a4) 25)).size = h.size + 1 := by simp
  generalize h.push (.cells (pbC a0 a1 a2 a3 a4) 25) = h1 at *
  refine ⟨a0, a1, a2, a3, a4, by rw [kb.cl]; rfl, by rw [add_plain, kb.cl]; rfl, by rw [add_plain, kb.cl]; rfl, by rw [add_plain, kb.cl]; rfl, by rw [add_plain, kb.cl]; rfl, ?_⟩
  refine cal_of (check_spec (x.grow f1) B) ?_
  rintro _ h2 ⟨rfl, f2⟩
  refine ⟨_, rfl, ?_⟩
  have f12 := f1.trans f2
  have kb2 := f2.blk kb (fun h => h)
  refine ifb_iff (q := p.chk ≠ 0) (by simp) (fun hne => ⟨f12, fun _ => rfl, fun e => absurd e hne⟩) (fun heq => ?_)
  have heq : p.chk = 0 := Classical.not_not.1 heq
  obtain ⟨W, ok⟩ := Pb.chk_ok heq
  refine ⟨a0, a1, a2, a3, a4, by rw [kb2.cl]; rfl, by rw [add_plain, kb2.cl]; rfl, by rw [add_plain, kb2.cl]; rfl, by rw [add_plain, kb2.cl]; rfl, by rw [add_plain, kb2.cl]; rfl, ?_⟩
  refine cal_of (empty_spec (x.grow f12) ok.w ok.wl B.s) ?_
  rintro _ h3 ⟨ba, tb, rb, rfl, A3, f3, hba⟩
  refine ⟨_, rfl, ?_⟩
  have hW := ok.wl
  have hnw : W ≤ 64 * ((W + 63) / 64) := by omega
  have hnw2 : (W + 63) / 64 ≤ 1000000 := by omega
  generalize hnwe : (W + 63) / 64 = nw at *
  have hsn := x.s.len
  have hn := ok.n
  have f13 := f12.trans f3
  have kb3 := f3.blk kb2 (fun h => h)
  have hba1 : h.size < ba := by have := f2.size; omega
  have keep : ∀ {ha hb : Heap} {r : Nat}, Grow h ha → blk ha h.size (pbC a0 a1 a2 a3 a4) → Fr (fun b => b = rb r) ha hb → r < p.s.length → Grow h hb ∧ blk hb h.size (pbC a0 a1 a2 a3 a4) := by
    intro ha hb r g k f hr
    have := (A3.row r hr).1
    exact ⟨g.trans' f fun i hi e => by omega, f.blk k (by omega)⟩
  have hww : IntKind.i64.wrap ((IntKind.i64.wrap ((W : Int) + 63)).tdiv 64) = ((nw : Nat) : Int) := by
    rw [wrap64_id (x := (W : Int) + 63) (by omega) (by omega), Int.tdiv_eq_ediv_of_nonneg (by omega), wrap64_id (by omega) (by omega)]
    omega
  have hw : a1 = (W : Int) := by rw [x.w, ok.w]
  refine ⟨fun b h6 => ∃ S, AnsOk ba tb rb p.s.length nw W S h6 ∧ SoundB p (64 * nw) S ∧ Grow h h6 ∧ blk h6 h.size (pbC a0 a1 a2 a3 a4) ∧ (b = false → ∀ i, i < p.s.length → GoB p (64 * nw) S i),
    fun b h6 => 2 * left p.s.length nw rb h6 + (if b then 1 else 0), ⟨_, A3, fun _ _ _ _ _ _ h => (by cases h), f13, kb3, fun e => (by cases e)⟩, ?_⟩
  rintro b h6 ⟨S0, A6, sd6, g6, kb6, cl6⟩
  refine ⟨fun eb => ?_, fun eb => ?_⟩
  · subst eb
    refine ldS_i (s := a0) (by rw [kb6.cl]; rfl) ?_
    refine ⟨fun b y h7 => ∃ (i : Nat) (S : Nat → Nat → Bool), y = (i : Int) - 1 ∧ i ≤ p.s.length ∧ AnsOk ba tb rb p.s.length nw W S h7 ∧ SoundB p (64 * nw) S ∧ Grow h h7 ∧ blk h7 h.size (pbC a0 a1 a2 a3 a4) ∧
        LeS p.s.length (64 * nw) S0 S ∧ (b = true → NewS p.s.length (64 * nw) S0 S) ∧ (b = false → EqS p.s.length (64 * nw) S0 S ∧ ∀ j, i ≤ j → j < p.s.length → GoB p (64 * nw) S j),
      fun _ y _ => (y + 1).toNat, ⟨p.s.length, S0, by rw [wrap64_id (by omega) (by omega)]; omega, by omega, A6, sd6, g6, kb6, fun _ _ _ _ h => h, fun e => (by cases e), fun _ => ⟨fun _ _ _ _ => rfl, fun _ h h' => (by omega)⟩⟩, ?_⟩
    rintro b y h7 ⟨i1, S1, rfl, hi, A7, sd7, g7, kb7, le7, nw7, cl7⟩
    refine ifb_dec (fun hlt => ?_) (fun hge => ?_)
    · obtain ⟨i, rfl⟩ : ∃ i, i1 = i + 1 := ⟨i1 - 1, by omega⟩
      have hil : i < p.s.length := by omega
      have hyi : ((i + 1 : Nat) : Int) - 1 = (i : Int) := by omega
      rw [hyi]
      have hwi : IntKind.i64.wrap ((i : Int) - 1) = (i : Int) - 1 := by rw [wrap64_id (by omega) (by omega)]
      refine ldI_i (x := (W : Int)) (by rw [add_plain, kb7.cl, ← hw]; rfl) ?_
      rw [hww]
      refine ⟨by omega, by omega, by show ((8 : Nat) : Int) * ((nw : Nat) : Int) ≤ _; omega, by omega, ?_⟩
      rintro s22 h8 rfl rfl
      simp only [Int.toNat_natCast]
      have f8 : Grow h7 (h7.push (.cells (madeCells (Value.int .u64 0).cells (nw * 1)) 36)) := Fr.push _ _ _
      have W8 := made_words h7 nw
      generalize h7.push (.cells (madeCells (Value.int .u64 0).cells (nw * 1)) 36) = h8 at *
      have kb8 := f8.blk kb7 (fun h => h)
      refine ldS_i (s := a0) (by rw [kb8.cl]; rfl) ?_
      refine ListsAt.getg x.s (g7.trans f8) hil fun t yt => ?_
      have hts : at_ p.s i = p.s[i] := at_lt hil
      have hin : ∀ y ∈ p.s[i], 0 ≤ y ∧ y < p.s.length := by rw [← hts]; exact ok.s i
      have hlen := B.s1 _ (List.getElem_mem hil)
      have htn := yt.len
      have hgs := g7.size
      refine ⟨fun z h9 => ∃ k : Nat, z = k ∧ k ≤ p.s[i].length ∧ WordsAt h9 h7.size nw (fun e => (p.s[i].take k).any fun y => S1 y.toNat e) ∧ Fr (fun b => b = h7.size) h8 h9,
        fun z _ => (p.s[i].length - z).toNat, ⟨0, rfl, by omega, W8.congr (by simp), Fr.refl _ _⟩, ?_⟩
      rintro z h9 ⟨k, rfl, hk9, W9, f9⟩
      have g79 : Grow h7 h9 := f8.trans' f9 fun i hi e => by omega
      have g9 := g7.trans g79
      have A9 := A7.grow g79
      have kb9 := g79.blk kb7 (fun h => h)
      refine ifb_dec (fun hlt => ?_) (fun hge => ?_)
      · have hkl : k < p.s[i].length := by omega
        have hwk : IntKind.i64.wrap ((k : Int) + 1) = ((k + 1 : Nat) : Int) := by rw [wrap64_id (by omega) (by omega)]; omega
        refine (yt.keep g9 fun _ _ h => h).get hkl ?_
        obtain ⟨to, eto⟩ := Int.eq_ofNat_of_zero_le (hin _ (List.getElem_mem hkl)).1
        have hto := (hin _ (List.getElem_mem hkl)).2
        rw [eto] at hto ⊢
        have hto : to < p.s.length := by omega
        refine nn_i (ldS_i (s := tb) (by rw [add_plain]; exact A9.ct) (A9.get hto ?_))
        have hrow := (A7.row to hto).2.2.lt
        refine cal_of (join_spec W9 (A9.row to hto).2.2 (by omega) hnw2) ?_
        rintro _ h10 ⟨nb, rfl, W10, f10, -, -⟩
        refine ⟨nb, rfl, ⟨k + 1, hwk, by omega, W10.congr fun e he => ?_, f9.trans f10⟩, by rw [hwk]; (try dsimp only); omega⟩
        rw [List.take_succ_eq_append_getElem hkl, List.any_append, eto]
        simp
      · have hk : k = p.s[i].length := by omega
        subst hk
        rw [List.take_length, ← hts] at W9
        refine ⟨fun b' h11 => ∃ S, AnsOk ba tb rb p.s.length nw W S h11 ∧ SoundB p (64 * nw) S ∧ Grow h h11 ∧ blk h11 h.size (pbC a0 a1 a2 a3 a4) ∧
            LeS p.s.length (64 * nw) S0 S ∧ (b' = true → NewS p.s.length (64 * nw) S0 S) ∧ (b' = false → EqS p.s.length (64 * nw) S0 S ∧ ∀ j, i ≤ j → j < p.s.length → GoB p (64 * nw) S j), ?_,
          fun b' h11 ⟨S, q1, q2, q3, q4, q5, q6, q7⟩ => ⟨⟨i, S, hwi, by omega, q1, q2, q3, q4, q5, q6, q7⟩, by rw [hwi]; (try dsimp only); omega⟩⟩
        refine ⟨Grow h9, Fr.refl _ _, nn_i ?_⟩
        refine ⟨a0, a1, a2, a3, a4, by rw [kb9.cl]; rfl, by rw [add_plain, kb9.cl]; rfl, by rw [add_plain, kb9.cl]; rfl, by rw [add_plain, kb9.cl]; rfl, by rw [add_plain, kb9.cl]; rfl, ?_⟩
        refine ⟨tb, fun h' g => by rw [add_plain, Nat.zero_add]; exact g.clk A9.ct (fun h => h), ?_⟩
        obtain ⟨gt, egt, cgt⟩ := A9.cell hil
        refine ixS_i egt (by omega) (by rw [A9.len]; omega) ?_
        refine ⟨⟨some ⟨rb i, 0, none⟩, nw, nw⟩, fun h' g => by rw [Nat.mul_one, add_plain, Nat.zero_add]; exact g.clk cgt (fun h => h), ?_⟩
        have hg : ∀ l ∈ p.g, ∀ y ∈ l, 0 ≤ y ∧ y < ((64 * nw : Nat) : Int) := fun l hl y hy => by have := ok.g l hl y hy; omega
        have hk : ∀ l ∈ p.k, ∀ y ∈ l, 0 ≤ y ∧ y < ((64 * nw : Nat) : Int) := fun l hl y hy => by have := ok.k l hl y hy; omega
        refine cal_of (through_spec x B g9 W9 hg hk hnw2 i) ?_
        rintro _ h10 ⟨g', rfl, hg', W10, f10⟩
        refine ⟨⟨some ⟨g', 0, none⟩, nw, nw⟩, rfl, f10, ?_⟩
        have A10 := A9.grow f10
        have hrow := (A9.row i hil).2.2.lt
        refine cal_of (join_spec (A10.row i hil).2.2 W10 (by omega) hnw2) ?_
        rintro _ h11 ⟨nb, rfl, W11, f11, nb1, nb2⟩
        refine ⟨nb, rfl, ?_⟩
        have A11 := A10.set hil f11 W11
        obtain ⟨g11, kb11⟩ := keep (g9.trans f10) (f10.blk kb9 (fun h => h)) f11 hil
        have thr : ∀ e : Nat, (decide ((e : Int) ∈ at_ p.g i) || ((at_ p.s i).any fun y => S1 y.toNat e) && !decide ((e : Int) ∈ at_ p.k i)) = lv p e i (anyS p (fun j => S1 j e) i) := fun e => rfl
        simp only [thr] at A11 nb1 nb2
        have snd : SoundB p (64 * nw) (fun j => if j = i then fun e => S1 i e || lv p e i (anyS p (fun j => S1 j e) i) else S1 j) := by
          intro e he D hD j hj hS
          by_cases ej : j = i
          · subst ej
            simp only [if_true, Bool.or_eq_true] at hS
            rcases hS with hS | hS
            · exact sd7 e he D hD j hj hS
            · refine hD.go j hil (lv_mono (fun h => anyS_mono (fun y hy hS => ?_) h) hS)
              have := ok.s j y hy
              exact sd7 e he D hD _ (by omega) hS
          · simp only [ej, if_false] at hS
            exact sd7 e he D hD j hj hS
        have le11 : LeS p.s.length (64 * nw) S1 (fun j => if j = i then fun e => S1 i e || lv p e i (anyS p (fun j => S1 j e) i) else S1 j) := by
          intro j e hj he hS
          by_cases ej : j = i
          · subst ej; simp [hS]
          · simp [ej, hS]
        have le11' : LeS p.s.length (64 * nw) S0 (fun j => if j = i then fun e => S1 i e || lv p e i (anyS p (fun j => S1 j e) i) else S1 j) :=
          fun j e hj he hS => le11 j e hj he (le7 j e hj he hS)
        refine ⟨fun hb => ⟨_, A11, snd, g11, kb11, le11', fun _ => ?_, fun e => (by cases e)⟩, fun hb => ⟨_, A11, snd, g11, kb11, le11', fun hb' => ?_, fun hb' => ?_⟩⟩
        · obtain ⟨e, he, o1, o2⟩ := nb1 hb
          refine ⟨i, e, hil, he, ?_, by simp [o1]⟩
          cases h0 : S0 i e with
          | false => rfl
          | true => rw [le7 i e hil he h0] at o2; cases o2
        · obtain ⟨j, e, hj, he, q1, q2⟩ := nw7 hb'
          exact ⟨j, e, hj, he, q1, le11 j e hj he q2⟩
        · obtain ⟨d1, d2⟩ := cl7 hb'
          have same : ∀ j e, e < 64 * nw → (if j = i then fun e => S1 i e || lv p e i (anyS p (fun j => S1 j e) i) else S1 j) e = S1 j e := by
            intro j e he
            by_cases ej : j = i
            · subst ej
              simp only [if_true]
              cases hl : lv p e j (anyS p (fun j => S1 j e) j) with
              | false => simp
              | true => simp [nb2 hb e he hl]
            · simp only [ej, if_false]
          refine ⟨fun j e hj he => (d1 j e hj he).trans (same j e he).symm, fun j h1 h2 e he hl => ?_⟩
          refine (same j e he).trans ?_
          have hl' : lv p e j (anyS p (fun j => S1 j e) j) = true := by
            refine lv_mono (fun h => anyS_mono (fun y hy hS => ?_) h) hl
            exact (same _ e he).symm.trans hS
          by_cases ej : j = i
          · subst ej
            exact nb2 hb e he hl'
          · exact d2 j (by omega) h2 e he hl'
    · have hie : i1 = 0 := by omega
      subst hie
      refine ⟨⟨S1, A7, sd7, g7, kb7, fun hb j hj => (cl7 hb).2 j (by omega) hj⟩, ?_⟩
      dsimp only
      rw [A7.left, A6.left]
      have b0 := cntS_le p.s.length (64 * nw) S0
      have b1 := cntS_le p.s.length (64 * nw) S1
      cases b with
      | true =>
        obtain ⟨j, e, hj, he, q1, q2⟩ := nw7 rfl
        have := cntS_lt le7 hj he q1 q2
        simp only [if_true]
        omega
      | false =>
        have := cntS_congr (cl7 rfl).1
        simp only [if_true]
        rw [this]
        simp
  · subst eb
    refine ⟨g6, fun hne => absurd heq hne, fun _ => ⟨W, ba, tb, rb, S0, rfl, ok, by rw [hnwe]; exact A6, fun e he => ?_⟩⟩
    rw [hnwe] at he
    exact ⟨⟨fun i hi => cl6 rfl i hi e he⟩, sd6 e he⟩
end
end Go.Proofs.Ytglhkodebehdbaa

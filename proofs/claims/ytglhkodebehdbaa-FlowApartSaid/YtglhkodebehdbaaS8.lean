/-
  The program's Forward, walked.
-/
import Derived.Test.YtglhkodebehdbaaS7
namespace Go.Proofs.Ytglhkodebehdbaa
open Go Go.Lf

/-- what Check asks -/
structure Pb.Ok (p : Pb) (W : Nat) : Prop where
  n : p.s.length ≤ 1201
  w : p.w = W
  wl : W ≤ 4000
  s : p.In
  g : ∀ l ∈ p.g, ∀ y ∈ l, 0 ≤ y ∧ y < (W : Int)
  k : ∀ l ∈ p.k, ∀ y ∈ l, 0 ≤ y ∧ y < (W : Int)
  e : ∀ y ∈ p.e, 0 ≤ y ∧ y < (W : Int)
  gl : p.g.length ≤ p.s.length
  kl : p.k.length ≤ p.s.length
theorem fitsB_iff {n : Nat} {m : Int} {ls : List (List Int)} : fitsB n m ls = true ↔ ls.length ≤ n ∧ ∀ l ∈ ls, ∀ y ∈ l, 0 ≤ y ∧ y < m := by
  simp [fitsB, inB]
theorem Pb.chk_ok {p : Pb} (h : p.chk = 0) : ∃ W : Nat, p.Ok W := by
  unfold Pb.chk at h
  split at h
  · simp at h
  split at h
  · rename_i h1 h2
    have h1' : ¬ 1201 < p.s.length ∧ ¬ p.w < 0 ∧ ¬ 4000 < p.w := by simp [Pb.wide] at h1; omega
    obtain ⟨W, hW⟩ := Int.eq_ofNat_of_zero_le (show 0 ≤ p.w by omega)
    simp only [Pb.okB, Bool.and_eq_true] at h2
    obtain ⟨⟨⟨a1, a2⟩, a3⟩, a4⟩ := h2
    have b1 := fitsB_iff.1 a1
    have b2 := fitsB_iff.1 a2
    have b3 := fitsB_iff.1 a3
    have b4 := fitsB_iff.1 a4
    rw [hW] at b2 b3 b4
    refine ⟨W, by omega, hW, by omega, fun i y hy => ?_, b2.2, b3.2, b4.2 p.e (by simp), b2.1, b3.1⟩
    rcases Nat.lt_or_ge i p.s.length with hi | hi
    · rw [at_lt hi] at hy; exact b1.2 _ (List.getElem_mem hi) y hy
    · rw [at_ge hi] at hy; cases hy
  · simp at h

/-- a list, off an elder heap -/
theorem ListsAt.getg {h h' : Heap} {s : Sv} {ls : List (List Int)} (x : ListsAt h s ls) (g : Grow h h') {i : Nat} (hi : i < ls.length) {K : Sv → Prop} (k : ∀ t, IntsAt h t ls[i] → K t) : ixS s i fun q => ldS h' (q.add ((i : Int).toNat * 1)) K := by
  obtain ⟨p, e, t, c, y⟩ := x.at_ i hi
  exact ⟨p, e, by omega, by rw [x.len]; omega, t, by rw [Int.toNat_natCast]; exact g.clk c (fun h => h), k t y⟩

section
variable {h : Heap} {a0 : Sv} {a1 : Int} {a2 a3 a4 : Sv} {p : Pb}
theorem suc_len {ls : List (List Int)} (hls : ∀ l ∈ ls, l.length ≤ 1000000) (i : Nat) : (at_ ls i).length ≤ 1000000 := by
  rcases Nat.lt_or_ge i ls.length with hi | hi
  · rw [at_lt hi]; exact hls _ (List.getElem_mem hi)
  · rw [at_ge hi]; simp

def SoundF (p : Pb) (m : Nat) (S : Nat → Nat → Bool) : Prop := ∀ e, e < m → ∀ D, ClF p e D → ∀ i, i < p.s.length → S i e = true → D i = true
def EntF (p : Pb) (m : Nat) (S : Nat → Nat → Bool) : Prop := ∀ e, e < m → 0 < p.s.length → (e : Int) ∈ p.e → S 0 e = true
def GoF (p : Pb) (m : Nat) (S : Nat → Nat → Bool) (i : Nat) : Prop := ∀ e, e < m → lv p e i (S i e) = true → ∀ y ∈ at_ p.s i, S y.toNat e = true
def LeS (n m : Nat) (S S' : Nat → Nat → Bool) : Prop := ∀ i e, i < n → e < m → S i e = true → S' i e = true
def EqS (n m : Nat) (S S' : Nat → Nat → Bool) : Prop := ∀ i e, i < n → e < m → S i e = S' i e
def NewS (n m : Nat) (S S' : Nat → Nat → Bool) : Prop := ∃ i e, i < n ∧ e < m ∧ S i e = false ∧ S' i e = true

theorem forward_spec (x : PbAt h a0 a1 a2 a3 a4 p) (B : p.Bd) :
    CallsH Try.prog 12 #[pbV a0 a1 a2 a3 a4] h (fun v h' => Grow h h' ∧ (p.chk ≠ 0 → v = .tuple #[.pointer none, .int .i64 p.chk]) ∧
      (p.chk = 0 → ∃ (W : Nat) (ba : Nat) (tb : Sv) (rb : Nat → Nat) (S : Nat → Nat → Bool), v = .tuple #[.pointer (some ⟨ba, 0, none⟩), .int .i64 0] ∧ p.Ok W ∧ AnsOk ba tb rb p.s.length ((W + 63) / 64) W S h' ∧ ∀ e, e < 64 * ((W + 63) / 64) → LsF p e fun i => S i e)) := by
  apply F12
  unfold L12
  rintro p1 h1 rfl rfl
  have f1 : Grow h (h.push (.cells (pbC a0 a1 a2 a3 a4) 25)) := Fr.push _ _ _
  have kb := blk.new h (pbC a0 a1 a2 a3 a4) 25
  have e1 : h.push (.cells #[.slice a0.a a0.n a0.c, .int .i64 a1, .slice a2.a a2.n a2.c, .slice a3.a a3.n a3.c, .slice a4.a a4.n a4.c] 25) = h.push (.cells (pbC a0 a1 a2 a3 a4) 25) := rfl
  rw [e1]
  have hs1 : (h.push (.cells (pbC a0 a1 a2 a3 a4) 25)).size = h.size + 1 := by simp
  generalize h.push (.cells (pbC a0 a1 a2 a3 a4) 25) = h1 at *
  refine ⟨a0, a1, a2, a3, a4, by rw [kb.cl]; rfl, by rw [add_plain, kb.cl]; rfl, by rw [add_plain, kb.cl]; rfl, by rw [add_plain, kb.cl]; rfl, by rw [add_plain, kb.cl]; rfl, ?_⟩
  refine cal_of (check_spec (x.grow f1) B) ?_
  rintro _ h2 ⟨rfl, f2⟩
  refine ⟨_, rfl, ?_⟩
  have f12 := f1.trans f2
  have kb2 := f2.blk kb (fun h => h)
  refine ifb_iff (q := p.chk ≠ 0) (by simp) (fun hne => ⟨f12, fun _ => rfl, fun e => absurd e hne⟩) (fun heq => ?_)
  have heq : p.chk = 0 := Classical.not_not.1 heq
  obtain ⟨W, ok⟩ := Pb.chk_ok heq
  refine ⟨a0, a1, a2, a3, a4, by rw [kb2.cl]; rfl, by rw [add_plain, kb2.cl]; rfl, by rw [add_plain, kb2.cl]; rfl, by rw [add_plain, kb2.cl]; rfl, by rw [add_plain, kb2.cl]; rfl, ?_⟩
  refine cal_of (empty_spec (x.grow f12) ok.w ok.wl B.s) ?_
  rintro _ h3 ⟨ba, tb, rb, rfl, A3, f3, hba⟩
  refine ⟨_, rfl, ?_⟩
  have hW := ok.wl
  have hnw : W ≤ 64 * ((W + 63) / 64) := by omega
  have hnw2 : (W + 63) / 64 ≤ 1000000 := by omega
  generalize hnwe : (W + 63) / 64 = nw at *
  have hsn := x.s.len
  have hn := ok.n
  have f13 := f12.trans f3
  have kb3 := f3.blk kb2 (fun h => h)
  have hba1 : h.size < ba := by have := f2.size; omega
  -- what was there, and the box, stay while rows turn
  have keep : ∀ {ha hb : Heap} {r : Nat}, Grow h ha → blk ha h.size (pbC a0 a1 a2 a3 a4) → Fr (fun b => b = rb r) ha hb → r < p.s.length → Grow h hb ∧ blk hb h.size (pbC a0 a1 a2 a3 a4) := by
    intro ha hb r g k f hr
    have := (A3.row r hr).1
    exact ⟨g.trans' f fun i hi e => by omega, f.blk k (by omega)⟩
  refine ⟨fun h5 => ∃ S, AnsOk ba tb rb p.s.length nw W S h5 ∧ SoundF p (64 * nw) S ∧ EntF p (64 * nw) S ∧ Grow h h5 ∧ blk h5 h.size (pbC a0 a1 a2 a3 a4), ?_, ?_⟩
  · refine nn_i (ldS_i (s := tb) (by rw [add_plain]; exact A3.ct) ?_)
    rw [A3.len]
    refine ifb_dec (fun hpos => ?_) (fun hz => ⟨_, A3, fun _ _ _ _ _ _ h => (by cases h), fun _ _ h => (by omega), f13, kb3⟩)
    have hpos : 0 < p.s.length := by omega
    refine nn_i (ldS_i (s := tb) (by rw [add_plain]; exact A3.ct) ?_)
    obtain ⟨g, eg, cg⟩ := A3.cell hpos
    refine ixS_i eg (by omega) (by rw [A3.len]; omega) ?_
    refine ldS_i (s := ⟨some ⟨rb 0, 0, none⟩, nw, nw⟩) cg ?_
    refine ldS_i (s := a4) (by rw [add_plain, kb3.cl]; rfl) ?_
    have hr := (A3.row 0 hpos).1
    refine cal_of (put_spec x.e f13 (by omega) (A3.row 0 hpos).2.2 (fun y hy => ?_) hnw2 B.e) ?_
    · show 0 ≤ y ∧ y < ((64 * nw : Nat) : Int)
      have := ok.e y hy; omega
    rintro _ h4 ⟨W4, f4⟩
    have A4 := A3.set hpos f4 W4
    obtain ⟨g4, kb4⟩ := keep f13 kb3 f4 hpos
    refine ⟨_, A4, fun e he D hD i hi hS => ?_, fun e he h0 hin => by simp [hin], g4, kb4⟩
    by_cases ei : i = 0
    · subst ei
      simp at hS
      exact hD.ent hpos hS
    · simp [ei] at hS
  rintro h5 ⟨S5, A5, sd5, en5, g5, kb5⟩
  refine ⟨fun b h6 => ∃ S, AnsOk ba tb rb p.s.length nw W S h6 ∧ SoundF p (64 * nw) S ∧ EntF p (64 * nw) S ∧ Grow h h6 ∧ blk h6 h.size (pbC a0 a1 a2 a3 a4) ∧ (b = false → ∀ i, i < p.s.length → GoF p (64 * nw) S i),
    fun b h6 => 2 * left p.s.length nw rb h6 + (if b then 1 else 0), ⟨S5, A5, sd5, en5, g5, kb5, fun e => (by cases e)⟩, ?_⟩
  rintro b h6 ⟨S0, A6, sd6, en6, g6, kb6, cl6⟩
  refine ⟨fun eb => ?_, fun eb => ?_⟩
  · subst eb
    refine ldS_i (s := a0) (by rw [kb6.cl]; rfl) ?_
    refine ⟨fun b y h7 => ∃ (i : Nat) (S : Nat → Nat → Bool), y = i ∧ i ≤ p.s.length ∧ AnsOk ba tb rb p.s.length nw W S h7 ∧ SoundF p (64 * nw) S ∧ EntF p (64 * nw) S ∧ Grow h h7 ∧ blk h7 h.size (pbC a0 a1 a2 a3 a4) ∧
        LeS p.s.length (64 * nw) S0 S ∧ (b = true → NewS p.s.length (64 * nw) S0 S) ∧ (b = false → EqS p.s.length (64 * nw) S0 S ∧ ∀ j, j < i → GoF p (64 * nw) S j),
      fun _ y _ => (p.s.length - y).toNat, ⟨0, S0, rfl, by omega, A6, sd6, en6, g6, kb6, fun _ _ _ _ h => h, fun e => (by cases e), fun _ => ⟨fun _ _ _ _ => rfl, fun _ h => (by omega)⟩⟩, ?_⟩
    rintro b y h7 ⟨i, S1, rfl, hi, A7, sd7, en7, g7, kb7, le7, nw7, cl7⟩
    refine ifb_dec (fun hlt => ?_) (fun hge => ?_)
    · have hil : i < p.s.length := by omega
      have hwi : IntKind.i64.wrap ((i : Int) + 1) = ((i + 1 : Nat) : Int) := by rw [wrap64_id (by omega) (by omega)]; omega
      refine ListsAt.getg x.s g7 hil fun t yt => ?_
      refine ⟨a0, a1, a2, a3, a4, by rw [kb7.cl]; rfl, by rw [add_plain, kb7.cl]; rfl, by rw [add_plain, kb7.cl]; rfl, by rw [add_plain, kb7.cl]; rfl, by rw [add_plain, kb7.cl]; rfl, ?_⟩
      refine nn_i (ldS_i (s := tb) (by rw [add_plain]; exact A7.ct) (A7.get hil ?_))
      have hg : ∀ l ∈ p.g, ∀ y ∈ l, 0 ≤ y ∧ y < ((64 * nw : Nat) : Int) := fun l hl y hy => by have := ok.g l hl y hy; omega
      have hk : ∀ l ∈ p.k, ∀ y ∈ l, 0 ≤ y ∧ y < ((64 * nw : Nat) : Int) := fun l hl y hy => by have := ok.k l hl y hy; omega
      refine cal_of (through_spec x B g7 (A7.row i hil).2.2 hg hk hnw2 i) ?_
      rintro _ h8 ⟨g', rfl, hg', W8, f8⟩
      refine ⟨⟨some ⟨g', 0, none⟩, nw, nw⟩, rfl, ?_⟩
      have hts : at_ p.s i = p.s[i] := at_lt hil
      have hin : ∀ y ∈ p.s[i], 0 ≤ y ∧ y < p.s.length := by rw [← hts]; exact ok.s i
      have hlen := B.s1 _ (List.getElem_mem hil)
      have htn := yt.len
      refine ⟨fun b' z h9 => ∃ (k : Nat) (S : Nat → Nat → Bool), z = k ∧ k ≤ p.s[i].length ∧ AnsOk ba tb rb p.s.length nw W S h9 ∧ SoundF p (64 * nw) S ∧ EntF p (64 * nw) S ∧ Grow h h9 ∧ blk h9 h.size (pbC a0 a1 a2 a3 a4) ∧
          WordsAt h9 g' nw (fun e => lv p e i (S1 i e)) ∧ LeS p.s.length (64 * nw) S1 S ∧ (b' = true → NewS p.s.length (64 * nw) S0 S) ∧
          (b' = false → b = false ∧ EqS p.s.length (64 * nw) S0 S ∧ ∀ y ∈ p.s[i].take k, ∀ e, e < 64 * nw → lv p e i (S1 i e) = true → S y.toNat e = true),
        fun _ z _ => (p.s[i].length - z).toNat, ⟨0, S1, rfl, by omega, A7.grow f8, sd7, en7, g7.trans f8, f8.blk kb7 (fun h => h), W8, fun _ _ _ _ h => h, nw7, fun e => ⟨e, (cl7 e).1, fun y hy => (by simp at hy)⟩⟩, ?_⟩
      rintro b' z h9 ⟨k, S2, rfl, hk9, A9, sd9, en9, g9, kb9, W9, le9, nw9, cl9⟩
      refine ifb_dec (fun hlt => ?_) (fun hge => ?_)
      · have hkl : k < p.s[i].length := by omega
        have hwk : IntKind.i64.wrap ((k : Int) + 1) = ((k + 1 : Nat) : Int) := by rw [wrap64_id (by omega) (by omega)]; omega
        refine (yt.keep g9 fun _ _ h => h).get hkl ?_
        obtain ⟨to, eto⟩ := Int.eq_ofNat_of_zero_le (hin _ (List.getElem_mem hkl)).1
        have hto := (hin _ (List.getElem_mem hkl)).2
        have hmem : ((to : Nat) : Int) ∈ at_ p.s i := by rw [hts, ← eto]; exact List.getElem_mem hkl
        rw [eto] at hto ⊢
        have hto : to < p.s.length := by omega
        refine nn_i (ldS_i (s := tb) (by rw [add_plain]; exact A9.ct) (A9.get hto ?_))
        have hrow := (A7.row to hto).2.2.lt
        refine cal_of (join_spec (A9.row to hto).2.2 W9 (by omega) hnw2) ?_
        rintro _ h10 ⟨nb, rfl, W10, f10, nb1, nb2⟩
        refine ⟨nb, rfl, ⟨k + 1, _, hwk, by omega, A9.set hto f10 W10, fun e he D hD j hj hS => ?_, fun e he h0 hen => ?_, (keep g9 kb9 f10 hto).1, (keep g9 kb9 f10 hto).2,
          W9.frame f10 (by omega), fun j e hj he hS => ?_, fun hb => ?_, fun hb => ?_⟩, by rw [hwk]; (try dsimp only); omega⟩
        · by_cases ej : j = to
          · subst ej
            simp only [if_true, Bool.or_eq_true] at hS
            rcases hS with hS | hS
            · exact sd9 e he D hD j hj hS
            · have := hD.go i hil (lv_mono (sd7 e he D hD i hil) hS) _ hmem
              simpa using this
          · simp only [ej, if_false] at hS
            exact sd9 e he D hD j hj hS
        · have := en9 e he h0 hen
          by_cases ej : 0 = to
          · subst ej; simp [this]
          · simp [ej, this]
        · have := le9 j e hj he hS
          by_cases ej : j = to
          · subst ej; simp [this]
          · simp [ej, this]
        · rcases Bool.or_eq_true_iff.1 hb with hb | hb
          · obtain ⟨e, he, o1, o2⟩ := nb1 hb
            refine ⟨to, e, hto, he, ?_, by simp [o1]⟩
            cases h0 : S0 to e with
            | false => rfl
            | true => rw [le9 to e hto he (le7 to e hto he h0)] at o2; cases o2
          · obtain ⟨j, e, hj, he, q1, q2⟩ := nw9 hb
            refine ⟨j, e, hj, he, q1, ?_⟩
            by_cases ej : j = to
            · subst ej; simp [q2]
            · simp [ej, q2]
        · obtain ⟨hb1, hb2⟩ := Bool.or_eq_false_iff.1 hb
          obtain ⟨c1, c2, c3⟩ := cl9 hb2
          have same : ∀ j e, e < 64 * nw → (if j = to then fun e => S2 to e || lv p e i (S1 i e) else S2 j) e = S2 j e := by
            intro j e he
            by_cases ej : j = to
            · subst ej
              simp only [if_true]
              cases hl : lv p e i (S1 i e) with
              | false => simp
              | true => simp [nb2 hb1 e he hl]
            · simp only [ej, if_false]
          refine ⟨c1, fun j e hj he => (c2 j e hj he).trans (same j e he).symm, fun y hy e he hl => ?_⟩
          rw [same _ _ he]
          rw [List.take_succ_eq_append_getElem hkl] at hy
          rcases List.mem_append.1 hy with hy | hy
          · exact c3 y hy e he hl
          · simp only [List.mem_singleton] at hy
            rw [hy, eto, Int.toNat_natCast]
            exact nb2 hb1 e he hl
      · have hk : k = p.s[i].length := by omega
        subst hk
        rw [List.take_length] at cl9
        refine ⟨⟨i + 1, S2, hwi, by omega, A9, sd9, en9, g9, kb9, fun j e hj he hS => le9 j e hj he (le7 j e hj he hS), nw9, fun hb => ?_⟩, by rw [hwi]; (try dsimp only); omega⟩
        obtain ⟨c1, c2, c3⟩ := cl9 hb
        obtain ⟨d1, d2⟩ := cl7 c1
        have e12 : ∀ j e, j < p.s.length → e < 64 * nw → S1 j e = S2 j e := fun j e hj he => (d1 j e hj he).symm.trans (c2 j e hj he)
        refine ⟨c2, fun j hj => ?_⟩
        by_cases ej : j = i
        · subst ej
          intro e he hl y hy
          rw [hts] at hy
          refine c3 y hy e he ?_
          rw [e12 j e hil he]
          exact hl
        · intro e he hl y hy
          have hy' := ok.s j y hy
          rw [← e12 _ _ (by omega) he]
          refine d2 j (by omega) e he ?_ y hy
          rw [e12 j e (by omega) he]
          exact hl
    · have hie : i = p.s.length := by omega
      subst hie
      refine ⟨⟨S1, A7, sd7, en7, g7, kb7, fun hb => (cl7 hb).2⟩, ?_⟩
      dsimp only
      rw [A7.left, A6.left]
      have b0 := cntS_le p.s.length (64 * nw) S0
      have b1 := cntS_le p.s.length (64 * nw) S1
      cases b with
      | true =>
        obtain ⟨j, e, hj, he, q1, q2⟩ := nw7 rfl
        have := cntS_lt le7 hj he q1 q2
        simp only [if_true]
        omega
      | false =>
        have := cntS_congr (cl7 rfl).1
        simp only [if_true]
        rw [this]
        simp
  · subst eb
    refine ⟨g6, fun hne => absurd heq hne, fun _ => ⟨W, ba, tb, rb, S0, rfl, ok, by rw [hnwe]; exact A6, fun e he => ?_⟩⟩
    rw [hnwe] at he
    exact ⟨⟨en6 e he, fun i hi => cl6 rfl i hi e he⟩, sd6 e he⟩
end
end Go.Proofs.Ytglhkodebehdbaa

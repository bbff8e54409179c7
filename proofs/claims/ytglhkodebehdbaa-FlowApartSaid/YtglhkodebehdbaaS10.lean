/-
  The document's Forward and Backward, walked.
-/
import Derived.Test.YtglhkodebehdbaaS9
namespace Go.Proofs.Ytglhkodebehdbaa
open Go Go.Lf

/-- a row of marks in memory -/
def BoolsAt (h : Heap) (g n : Nat) (C : Nat → Bool) : Prop := ∃ cs : Array Value, blk h g cs ∧ cs.size = n ∧ ∀ k, k < n → cs[k]? = some (.bool (C k))
theorem BoolsAt.frame {h h' : Heap} {g n : Nat} {C : Nat → Bool} {T : Nat → Prop} (x : BoolsAt h g n C) (fr : Fr T h h') (hT : ¬ T g) : BoolsAt h' g n C := by
  obtain ⟨cs, k, r⟩ := x
  exact ⟨cs, fr.blk k hT, r⟩
theorem BoolsAt.cell {h : Heap} {g n : Nat} {C : Nat → Bool} (x : BoolsAt h g n C) {k : Nat} (hk : k < n) : cl h ⟨g, k, none⟩ = some (.bool (C k)) := by
  obtain ⟨cs, kb, s, r⟩ := x
  rw [kb.cl, r k hk]
theorem BoolsAt.congr {h : Heap} {g n : Nat} {C D : Nat → Bool} (x : BoolsAt h g n C) (e : ∀ k, k < n → C k = D k) : BoolsAt h g n D := by
  obtain ⟨cs, kb, s, r⟩ := x
  exact ⟨cs, kb, s, fun k hk => by rw [r k hk, e k hk]⟩
theorem BoolsAt.put {h : Heap} {g n : Nat} {C : Nat → Bool} (x : BoolsAt h g n C) {k : Nat} (hk : k < n) (b : Bool) {K : Heap → Prop}
    (kk : ∀ h', BoolsAt h' g n (fun j => if j = k then b else C j) → Fr (fun i => i = g) h h' → K h') : sto h ⟨g, k, none⟩ (.bool b) K := by
  obtain ⟨cs, kb, s, r⟩ := x
  refine sto_i kb (by omega) (kk _ ⟨_, kb.sc k _, by simp [s], fun j hj => ?_⟩ (Fr.scb _ _ _ _))
  rw [Array.getElem?_setIfInBounds]
  by_cases e : k = j
  · subst e; simp [s, hk]
  · have e' : ¬ j = k := fun h => e h.symm
    simp [e, e', r j hj]
theorem made_bools (h : Heap) (n : Nat) : BoolsAt (h.push (.cells (madeCells (Value.bool false).cells (n * 1)) 4)) h.size n (fun _ => false) := by
  refine ⟨_, blk.new _ _ _, by rw [size_madeCells, Nat.mul_one], fun k hk => ?_⟩
  rw [made_get _ rfl, if_pos (by omega)]

section
variable {h : Heap} {a0 : Sv} {a1 : Int} {a2 a3 a4 : Sv} {p : Pb}
theorem has_spec' {h : Heap} {s : Sv} {ls : List (List Int)} (x : ListsAt h s ls) (i : Nat) (e : Nat) (hl : ∀ l ∈ ls, l.length ≤ 1000000) :
    CallsH Try.prog 27 #[.slice s.a s.n s.c, .int .i64 i, .int .i64 e] h (fun v h' => h = h' ∧ v = .bool (decide ((e : Int) ∈ at_ ls i))) :=
  has_spec x i e (suc_len hl i)
theorem leaves_spec (x : PbAt h a0 a1 a2 a3 a4 p) (B : p.Bd) (i e : Nat) (b : Bool) :
    CallsH Try.prog 30 #[pbV a0 a1 a2 a3 a4, .int .i64 i, .int .i64 e, .bool b] h (fun v h' => v = .bool (lv p e i b) ∧ Grow h h') := by
  apply F30
  unfold L30
  rintro p1 h1 rfl rfl
  have f1 : Grow h (h.push (.cells (pbC a0 a1 a2 a3 a4) 25)) := Fr.push _ _ _
  have kb := blk.new h (pbC a0 a1 a2 a3 a4) 25
  have e1 : h.push (.cells #[.slice a0.a a0.n a0.c, .int .i64 a1, .slice a2.a a2.n a2.c, .slice a3.a a3.n a3.c, .slice a4.a a4.n a4.c] 25) = h.push (.cells (pbC a0 a1 a2 a3 a4) 25) := rfl
  rw [e1]
  generalize h.push (.cells (pbC a0 a1 a2 a3 a4) 25) = h1 at *
  have x1 := x.grow f1
  refine ldS_i (s := a2) (by rw [add_plain, kb.cl]; rfl) ?_
  refine cal_of (has_spec' x1.g i e B.g1) ?_
  rintro _ _ ⟨rfl, rfl⟩
  refine ⟨_, rfl, fun c h' => c = lv p e i b ∧ h' = h1, ⟨fun eg => ⟨by simp [lv, gen, eg], rfl⟩, fun ng => ?_⟩, ?_⟩
  · refine ⟨fun c h' => c = (b && !kil p e i) ∧ h' = h1, ⟨fun eb => ?_, fun eb => ?_⟩, ?_⟩
    · refine ldS_i (s := a3) (by rw [add_plain, kb.cl]; rfl) ?_
      refine cal_of (has_spec' x1.k i e B.k1) ?_
      rintro _ _ ⟨rfl, rfl⟩
      exact ⟨_, rfl, by rw [eb]; rfl, rfl⟩
    · exact ⟨by rw [eb]; rfl, rfl⟩
    · rintro _ _ ⟨rfl, rfl⟩
      exact ⟨by unfold lv gen; rw [ng]; rfl, rfl⟩
  · rintro _ _ ⟨rfl, rfl⟩
    exact ⟨rfl, f1⟩

theorem ref_forward (x : PbAt h a0 a1 a2 a3 a4 p) (B : p.Bd) {W : Nat} (ok : p.Ok W) (e : Nat) :
    CallsH Try.prog 17 #[pbV a0 a1 a2 a3 a4, .int .i64 e] h (fun v h' => ∃ g C, v = .slice (some ⟨g, 0, none⟩) p.s.length p.s.length ∧ BoolsAt h' g p.s.length C ∧ LsF p e C ∧ Grow h h' ∧ h.size ≤ g) := by
  apply F17
  unfold L17
  rintro p1 h1 rfl rfl
  have f1 : Grow h (h.push (.cells (pbC a0 a1 a2 a3 a4) 25)) := Fr.push _ _ _
  have kb := blk.new h (pbC a0 a1 a2 a3 a4) 25
  have e1 : h.push (.cells #[.slice a0.a a0.n a0.c, .int .i64 a1, .slice a2.a a2.n a2.c, .slice a3.a a3.n a3.c, .slice a4.a a4.n a4.c] 25) = h.push (.cells (pbC a0 a1 a2 a3 a4) 25) := rfl
  rw [e1]
  have hs1 : (h.push (.cells (pbC a0 a1 a2 a3 a4) 25)).size = h.size + 1 := by simp
  generalize h.push (.cells (pbC a0 a1 a2 a3 a4) 25) = h1 at *
  refine ldS_i (s := a0) (by rw [kb.cl]; rfl) ?_
  have hn := ok.n
  rw [x.s.len]
  generalize hne : p.s.length = n at *
  refine ⟨by omega, by omega, by show ((1 : Nat) : Int) * ((n : Nat) : Int) ≤ _; omega, by omega, ?_⟩
  rintro s14 h2 rfl rfl
  simp only [Int.toNat_natCast]
  have f2 : Grow h1 (h1.push (.cells (madeCells (Value.bool false).cells (n * 1)) 4)) := Fr.push _ _ _
  have M2 := made_bools h1 n
  have hs2 : (h1.push (.cells (madeCells (Value.bool false).cells (n * 1)) 4)).size = h1.size + 1 := by simp
  generalize h1.push (.cells (madeCells (Value.bool false).cells (n * 1)) 4) = h2 at *
  have f12 := f1.trans f2
  have kb2 := f2.blk kb (fun h => h)
  -- the state of a round
  refine ⟨fun h7 => ∃ C, BoolsAt h7 h1.size n C ∧ (0 < n → (e : Int) ∈ p.e → C 0 = true) ∧ (∀ D, ClF p e D → ∀ k, k < n → C k = true → D k = true) ∧ Grow h h7 ∧ blk h7 h.size (pbC a0 a1 a2 a3 a4), ?_, ?_⟩
  · refine ⟨fun b h3 => b = decide (0 < n ∧ (e : Int) ∈ p.e) ∧ Grow h2 h3, ⟨fun hp => ?_, fun hp => ?_⟩, ?_⟩
    · refine ldS_i (s := a4) (by rw [add_plain, kb2.cl]; rfl) ?_
      rintro s20 h4 rfl rfl
      have f4 : Grow h2 (h2.push (.cells #[.slice a4.a a4.n a4.c] 23)) := Fr.push _ _ _
      have k4 := blk.new h2 #[.slice a4.a a4.n a4.c] 23
      generalize h2.push (.cells #[.slice a4.a a4.n a4.c] 23) = h4 at *
      have L := one_list k4 ((x.e.keep f12 fun _ _ h => h).keep f4 fun _ _ h => h)
      refine cal_of (has_spec' L 0 e (fun l hl => by simp at hl; subst hl; exact B.e)) ?_
      rintro _ _ ⟨rfl, rfl⟩
      refine ⟨_, rfl, ?_, f4⟩
      have : 0 < n := by have := of_decide_eq_true hp; omega
      simp [at_, this]
    · have : ¬ 0 < n := by have := of_decide_eq_false hp; omega
      exact ⟨by simp [this], Fr.refl _ _⟩
    · rintro _ h3 ⟨rfl, f3⟩
      have M3 := M2.frame f3 (fun h => h)
      have kb3 := f3.blk kb2 (fun h => h)
      refine ifb_dec (fun hp => ?_) (fun hp => ?_)
      · refine ixS_i rfl (by omega) (by show (0 : Int) < ((n : Nat) : Int); omega) ?_
        refine M3.put hp.1 true fun h6 M6 f6 => ⟨_, M6, fun _ _ => rfl, fun D hD k hk hC => ?_, (f12.trans f3).trans' f6 (fun i hi e => by omega), f6.blk kb3 (by omega)⟩
        by_cases ek : k = 0
        · subst ek; exact hD.ent (by omega) hp.2
        · simp [ek] at hC
      · exact ⟨_, M3, fun h1 h2 => absurd ⟨h1, h2⟩ hp, fun _ _ _ _ h => (by cases h), f12.trans f3, kb3⟩
  rintro h7 ⟨C7, M7, en7, sd7, g7, kb7⟩
  refine ⟨fun y h8 => ∃ (r : Nat) (C : Nat → Bool), y = r ∧ r ≤ n + 1 ∧ BoolsAt h8 h1.size n C ∧ (0 < n → (e : Int) ∈ p.e → C 0 = true) ∧ (∀ D, ClF p e D → ∀ k, k < n → C k = true → D k = true) ∧ Grow h h8 ∧ blk h8 h.size (pbC a0 a1 a2 a3 a4) ∧
      (ClF p e C ∨ r ≤ cnt C n), fun y _ => (n + 1 - y).toNat, ⟨0, C7, rfl, by omega, M7, en7, sd7, g7, kb7, .inr (by omega)⟩, ?_⟩
  rintro y h8 ⟨r, C0, rfl, hr, M8, en8, sd8, g8, kb8, rd8⟩
  refine ifb_dec (fun hle => ?_) (fun hgt => ?_)
  · have hwr : IntKind.i64.wrap ((r : Int) + 1) = ((r + 1 : Nat) : Int) := by rw [wrap64_id (by omega) (by omega)]; omega
    refine ⟨fun y h9 => ∃ (i : Nat) (C : Nat → Bool), y = i ∧ i ≤ n ∧ BoolsAt h9 h1.size n C ∧ (∀ D, ClF p e D → ∀ k, k < n → C k = true → D k = true) ∧ Grow h h9 ∧ blk h9 h.size (pbC a0 a1 a2 a3 a4) ∧
        (∀ k, k < n → C0 k = true → C k = true) ∧ ((∀ k, k < n → C k = C0 k) → ∀ j, j < i → lv p e j (C j) = true → ∀ y ∈ at_ p.s j, C y.toNat = true),
      fun y _ => (n - y).toNat, ⟨0, C0, rfl, by omega, M8, sd8, g8, kb8, fun _ _ h => h, fun _ j hj => (by omega)⟩, ?_⟩
    rintro y h9 ⟨i, C1, rfl, hi, M9, sd9, g9, kb9, le9, cl9⟩
    refine ifb_dec (fun hlt => ?_) (fun hge => ?_)
    · have hil : i < n := by omega
      have hil' : i < p.s.length := by omega
      have hwi : IntKind.i64.wrap ((i : Int) + 1) = ((i + 1 : Nat) : Int) := by rw [wrap64_id (by omega) (by omega)]; omega
      have hts : at_ p.s i = p.s[i] := at_lt hil'
      have hin : ∀ y ∈ p.s[i], 0 ≤ y ∧ y < n := by have := ok.s i; rw [hts, hne] at this; exact this
      have hlen := B.s1 _ (List.getElem_mem hil')
      refine ⟨fun h13 => ∃ C, BoolsAt h13 h1.size n C ∧ (∀ D, ClF p e D → ∀ k, k < n → C k = true → D k = true) ∧ Grow h h13 ∧ blk h13 h.size (pbC a0 a1 a2 a3 a4) ∧
        (∀ k, k < n → C0 k = true → C k = true) ∧ ((∀ k, k < n → C k = C0 k) → ∀ j, j < i + 1 → lv p e j (C j) = true → ∀ y ∈ at_ p.s j, C y.toNat = true), ?_,
        fun h13 ⟨C, q1, q2, q3, q4, q5, q6⟩ => ⟨⟨i + 1, C, hwi, by omega, q1, q2, q3, q4, q5, q6⟩, by rw [hwi]; (try dsimp only); omega⟩⟩
      refine ⟨a0, a1, a2, a3, a4, by rw [kb9.cl]; rfl, by rw [add_plain, kb9.cl]; rfl, by rw [add_plain, kb9.cl]; rfl, by rw [add_plain, kb9.cl]; rfl, by rw [add_plain, kb9.cl]; rfl, ?_⟩
      refine ixS_i rfl (by omega) (by show (i : Int) < ((n : Nat) : Int); omega) ?_
      refine ldB_i (x := C1 i) (by rw [Int.toNat_natCast, Nat.mul_one, add_plain, Nat.zero_add]; exact M9.cell hil) ?_
      refine cal_of (leaves_spec (x.grow g9) B i e (C1 i)) ?_
      rintro _ h10 ⟨rfl, f10⟩
      refine ⟨_, rfl, ?_⟩
      have M10 := M9.frame f10 (fun h => h)
      have g10 := g9.trans f10
      have kb10 := f10.blk kb9 (fun h => h)
      refine ⟨fun hl => ⟨C1, M10, sd9, g10, kb10, le9, fun he j hj hv => ?_⟩, fun hl => ?_⟩
      · by_cases ej : j = i
        · subst ej; rw [hv] at hl; cases hl
        · exact cl9 he j (by omega) hv
      have hl : lv p e i (C1 i) = true := by simpa using hl
      refine ⟨fun z h11 => ∃ (k : Nat) (C : Nat → Bool), z = k ∧ k ≤ p.s[i].length ∧ BoolsAt h11 h1.size n C ∧ (∀ D, ClF p e D → ∀ k, k < n → C k = true → D k = true) ∧ Grow h h11 ∧ blk h11 h.size (pbC a0 a1 a2 a3 a4) ∧
          (∀ k, k < n → C1 k = true → C k = true) ∧ (∀ y ∈ p.s[i].take k, C y.toNat = true),
        fun z _ => (p.s[i].length - z).toNat, ⟨0, C1, rfl, by omega, M10, sd9, g10, kb10, fun _ _ h => h, fun y hy => (by simp at hy)⟩, ?_⟩
      rintro z h11 ⟨k, C2, rfl, hk11, M11, sd11, g11, kb11, le11, in11⟩
      refine ldS_i (s := a0) (by rw [kb11.cl]; rfl) ?_
      refine ListsAt.getg x.s g11 hil' fun t yt => ?_
      have htn := yt.len
      refine ifb_dec (fun hlt => ?_) (fun hge => ?_)
      · have hkl : k < p.s[i].length := by omega
        have hwk : IntKind.i64.wrap ((k : Int) + 1) = ((k + 1 : Nat) : Int) := by rw [wrap64_id (by omega) (by omega)]; omega
        refine ldS_i (s := a0) (by rw [kb11.cl]; rfl) ?_
        refine ListsAt.getg x.s g11 hil' fun t yt => ?_
        refine (yt.keep g11 fun _ _ h => h).get hkl ?_
        obtain ⟨to, eto⟩ := Int.eq_ofNat_of_zero_le (hin _ (List.getElem_mem hkl)).1
        have hto := (hin _ (List.getElem_mem hkl)).2
        have hmem : ((to : Nat) : Int) ∈ at_ p.s i := by rw [hts, ← eto]; exact List.getElem_mem hkl
        rw [eto] at hto ⊢
        have hto : to < n := by omega
        refine ixS_i rfl (by omega) (by show (to : Int) < ((n : Nat) : Int); omega) ?_
        rw [Int.toNat_natCast, Nat.mul_one, add_plain, Nat.zero_add]
        refine M11.put hto true fun h12 M12 f12' => ⟨⟨k + 1, _, hwk, by omega, M12, fun D hD j hj hC => ?_, g11.trans' f12' (fun i hi e => by omega), f12'.blk kb11 (by omega), fun j hj hC => ?_, fun y hy => ?_⟩, by rw [hwk]; (try dsimp only); omega⟩
        · by_cases ej : j = to
          · subst ej
            have := hD.go i hil' (lv_mono (sd9 D hD i hil) hl) _ hmem
            simpa using this
          · simp only [ej, if_false] at hC
            exact sd11 D hD j hj hC
        · by_cases ej : j = to
          · simp [ej]
          · simp [ej, le11 j hj hC]
        · rw [List.take_succ_eq_append_getElem hkl] at hy
          by_cases ey : y.toNat = to
          · simp [ey]
          · rcases List.mem_append.1 hy with hy | hy
            · simp [ey, in11 y hy]
            · simp only [List.mem_singleton] at hy
              rw [hy, eto] at ey
              exact absurd (Int.toNat_natCast _) ey
      · have hk : k = p.s[i].length := by omega
        subst hk
        rw [List.take_length] at in11
        refine ⟨C2, M11, sd11, g11, kb11, fun j hj hC => le11 j hj (le9 j hj hC), fun he j hj hv => ?_⟩
        have e01 : ∀ k, k < n → C1 k = C0 k := fun k hk => Bool.eq_iff_iff.2 ⟨fun h => by rw [← he k hk]; exact le11 k hk h, fun h => le9 k hk h⟩
        have e12 : ∀ k, k < n → C2 k = C1 k := fun k hk => (he k hk).trans (e01 k hk).symm
        by_cases ej : j = i
        · subst ej
          rw [hts]; exact in11
        · intro y hy
          have := ok.s j y hy
          rw [e12 y.toNat (by omega)]
          rw [e12 j (by omega)] at hv
          exact cl9 e01 j (by omega) hv y hy
    · have hie : i = n := by omega
      subst hie
      refine ⟨⟨r + 1, C1, hwr, by omega, M9, fun h1 h2 => le9 0 h1 (en8 h1 h2), sd9, g9, kb9, ?_⟩, by rw [hwr]; (try dsimp only); omega⟩
      refine round_end (P := ClF p e) rd8 le9 (fun hP => sd9 C0 hP) (fun he => ⟨fun h1 h2 => le9 0 (by omega) (en8 (by omega) h2), fun j hj hv => cl9 he j (by omega) hv⟩)
  · have hre : r = n + 1 := by omega
    subst hre
    refine ⟨h1.size, C0, rfl, M8, ⟨rd8.resolve_right fun h => ?_, fun D hD i hi => sd8 D hD i (by omega)⟩, g8, by omega⟩
    have := cnt_le C0 n
    omega
end
end Go.Proofs.Ytglhkodebehdbaa

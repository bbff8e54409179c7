/-
  The document's Backward, walked.
-/
import Derived.Test.YtglhkodebehdbaaS10
namespace Go.Proofs.Ytglhkodebehdbaa
open Go Go.Lf

section
variable {h : Heap} {a0 : Sv} {a1 : Int} {a2 a3 a4 : Sv} {p : Pb}
theorem ref_backward (x : PbAt h a0 a1 a2 a3 a4 p) (B : p.Bd) {W : Nat} (ok : p.Ok W) (e : Nat) :
    CallsH Try.prog 20 #[pbV a0 a1 a2 a3 a4, .int .i64 e] h (fun v h' => ∃ g C, v = .slice (some ⟨g, 0, none⟩) p.s.length p.s.length ∧ BoolsAt h' g p.s.length C ∧ LsB p e C ∧ Grow h h' ∧ h.size ≤ g) := by
  apply F20
  unfold L20
  rintro p1 h1 rfl rfl
  have f1 : Grow h (h.push (.cells (pbC a0 a1 a2 a3 a4) 25)) := Fr.push _ _ _
  have kb := blk.new h (pbC a0 a1 a2 a3 a4) 25
  have e1 : h.push (.cells #[.slice a0.a a0.n a0.c, .int .i64 a1, .slice a2.a a2.n a2.c, .slice a3.a a3.n a3.c, .slice a4.a a4.n a4.c] 25) = h.push (.cells (pbC a0 a1 a2 a3 a4) 25) := rfl
  rw [e1]
  have hs1 : (h.push (.cells (pbC a0 a1 a2 a3 a4) 25)).size = h.size + 1 := by simp
  generalize h.push (.cells (pbC a0 a1 a2 a3 a4) 25) = h1 at *
  refine ldS_i (s := a0) (by rw [kb.cl]; rfl) ?_
  have hn := ok.n
  rw [x.s.len]
  generalize hne : p.s.length = n at *
  refine ⟨by omega, by omega, by show ((1 : Nat) : Int) * ((n : Nat) : Int) ≤ _; omega, by omega, ?_⟩
  rintro s15 h2 rfl rfl
  simp only [Int.toNat_natCast]
  have f2 : Grow h1 (h1.push (.cells (madeCells (Value.bool false).cells (n * 1)) 4)) := Fr.push _ _ _
  have M2 := made_bools h1 n
  have hs2 : (h1.push (.cells (madeCells (Value.bool false).cells (n * 1)) 4)).size = h1.size + 1 := by simp
  generalize h1.push (.cells (madeCells (Value.bool false).cells (n * 1)) 4) = h2 at *
  have f12 := f1.trans f2
  have kb2 := f2.blk kb (fun h => h)
  have anyeq : ∀ {C D : Nat → Bool} {i : Nat}, (∀ k, k < n → C k = true → D k = true) → anyS p C i = true → anyS p D i = true := fun hle ha =>
    anyS_mono (fun y hy hC => hle _ (by have := ok.s _ y hy; omega) hC) ha
  refine ⟨fun y h8 => ∃ (r : Nat) (C : Nat → Bool), y = r ∧ r ≤ n + 1 ∧ BoolsAt h8 h1.size n C ∧ (∀ D, ClB p e D → ∀ k, k < n → C k = true → D k = true) ∧ (∀ j, j < n → C j = true → lv p e j (anyS p C j) = true) ∧ Grow h h8 ∧ blk h8 h.size (pbC a0 a1 a2 a3 a4) ∧
      (ClB p e C ∨ r ≤ cnt C n), fun y _ => (n + 1 - y).toNat, ⟨0, _, rfl, by omega, M2, fun _ _ _ _ h => (by cases h), fun _ _ h => (by cases h), f12, kb2, .inr (by omega)⟩, ?_⟩
  rintro y h8 ⟨r, C0, rfl, hr, M8, sd8, pf8, g8, kb8, rd8⟩
  refine ifb_dec (fun hle => ?_) (fun hgt => ?_)
  · have hwr : IntKind.i64.wrap ((r : Int) + 1) = ((r + 1 : Nat) : Int) := by rw [wrap64_id (by omega) (by omega)]; omega
    refine ⟨fun y h9 => ∃ (i : Nat) (C : Nat → Bool), y = i ∧ i ≤ n ∧ BoolsAt h9 h1.size n C ∧ (∀ D, ClB p e D → ∀ k, k < n → C k = true → D k = true) ∧ (∀ j, j < n → C j = true → lv p e j (anyS p C j) = true) ∧ Grow h h9 ∧ blk h9 h.size (pbC a0 a1 a2 a3 a4) ∧
        (∀ k, k < n → C0 k = true → C k = true) ∧ ((∀ k, k < n → C k = C0 k) → ∀ j, j < i → lv p e j (anyS p C j) = true → C j = true),
      fun y _ => (n - y).toNat, ⟨0, C0, rfl, by omega, M8, sd8, pf8, g8, kb8, fun _ _ h => h, fun _ j hj => (by omega)⟩, ?_⟩
    rintro y h9 ⟨i, C1, rfl, hi, M9, sd9, pf9, g9, kb9, le9, cl9⟩
    refine ifb_dec (fun hlt => ?_) (fun hge => ?_)
    · have hil : i < n := by omega
      have hil' : i < p.s.length := by omega
      have hwi : IntKind.i64.wrap ((i : Int) + 1) = ((i + 1 : Nat) : Int) := by rw [wrap64_id (by omega) (by omega)]; omega
      have hts : at_ p.s i = p.s[i] := at_lt hil'
      have hin : ∀ y ∈ p.s[i], 0 ≤ y ∧ y < n := by have := ok.s i; rw [hts, hne] at this; exact this
      have hlen := B.s1 _ (List.getElem_mem hil')
      refine ⟨fun b z => ∃ k : Nat, z = k ∧ k ≤ p.s[i].length ∧ b = (p.s[i].take k).any (fun y => C1 y.toNat), fun _ z => (p.s[i].length - z).toNat, ⟨0, rfl, by omega, by simp⟩, ?_⟩
      rintro b z ⟨k, rfl, hk, hb⟩
      refine ldS_i (s := a0) (by rw [kb9.cl]; rfl) ?_
      refine ListsAt.getg x.s g9 hil' fun t yt => ?_
      have htn := yt.len
      refine ifb_dec (fun hlt => ?_) (fun hge => ?_)
      · have hkl : k < p.s[i].length := by omega
        have hwk : IntKind.i64.wrap ((k : Int) + 1) = ((k + 1 : Nat) : Int) := by rw [wrap64_id (by omega) (by omega)]; omega
        have hnx : (p.s[i].take (k + 1)).any (fun y => C1 y.toNat) = (b || C1 (p.s[i][k].toNat)) := by
          rw [List.take_succ_eq_append_getElem hkl, List.any_append, hb]
          simp
        refine ⟨fun b' => b' = (b || C1 (p.s[i][k].toNat)), ⟨fun eb => by rw [eb, Bool.true_or], fun eb => ?_⟩, ?_⟩
        · refine ldS_i (s := a0) (by rw [kb9.cl]; rfl) ?_
          refine ListsAt.getg x.s g9 hil' fun t yt => ?_
          refine (yt.keep g9 fun _ _ h => h).get hkl ?_
          obtain ⟨to, eto⟩ := Int.eq_ofNat_of_zero_le (hin _ (List.getElem_mem hkl)).1
          have hto := (hin _ (List.getElem_mem hkl)).2
          rw [eto] at hto ⊢
          have hto : to < n := by omega
          refine ixS_i rfl (by omega) (by show (to : Int) < ((n : Nat) : Int); omega) ?_
          rw [Int.toNat_natCast, Nat.mul_one, add_plain, Nat.zero_add]
          refine ldB_i (M9.cell hto) ?_
          rw [eb, Bool.false_or]
        · rintro _ rfl
          exact ⟨⟨k + 1, hwk, by omega, hnx.symm⟩, by rw [hwk]; (try dsimp only); omega⟩
      · have hk : k = p.s[i].length := by omega
        subst hk
        rw [List.take_length, ← hts] at hb
        have hb : b = anyS p C1 i := hb
        refine ⟨a0, a1, a2, a3, a4, by rw [kb9.cl]; rfl, by rw [add_plain, kb9.cl]; rfl, by rw [add_plain, kb9.cl]; rfl, by rw [add_plain, kb9.cl]; rfl, by rw [add_plain, kb9.cl]; rfl, ?_⟩
        refine cal_of (leaves_spec (x.grow g9) B i e b) ?_
        rintro _ h10 ⟨rfl, f10⟩
        refine ⟨_, rfl, ?_⟩
        have M10 := M9.frame f10 (fun h => h)
        have g10 := g9.trans f10
        have kb10 := f10.blk kb9 (fun h => h)
        refine ixS_i rfl (by omega) (by show (i : Int) < ((n : Nat) : Int); omega) ?_
        rw [Int.toNat_natCast, Nat.mul_one, add_plain, Nat.zero_add, hb]
        refine M10.put hil _ fun h11 M11 f11 => ?_
        have up : ∀ k, k < n → C1 k = true → (fun j => if j = i then lv p e i (anyS p C1 i) else C1 j) k = true := by
          intro k hk hC
          by_cases ek : k = i
          · subst ek
            simp only [if_true]
            exact pf9 k (by omega) hC
          · simp only [ek, if_false]
            exact hC
        refine ⟨⟨i + 1, _, hwi, by omega, M11, fun D hD k hk hC => ?_, fun j hj hC => ?_, g10.trans' f11 (fun i hi e => by omega), f11.blk kb10 (by omega), fun k hk hC => up k hk (le9 k hk hC), fun he j hj hv => ?_⟩, by rw [hwi]; (try dsimp only); omega⟩
        · by_cases ek : k = i
          · subst ek
            simp only [if_true] at hC
            exact hD.go k hil' (lv_mono (anyeq fun j hj => sd9 D hD j hj) hC)
          · simp only [ek, if_false] at hC
            exact sd9 D hD k hk hC
        · refine lv_mono (anyeq up) ?_
          by_cases ej : j = i
          · subst ej
            simpa using hC
          · simp only [ej, if_false] at hC
            exact pf9 j hj hC
        · have e01 : ∀ k, k < n → C1 k = C0 k := fun k hk => Bool.eq_iff_iff.2 ⟨fun h => (he k hk).symm.trans (up k hk h), fun h => le9 k hk h⟩
          have hv' : lv p e j (anyS p C1 j) = true := by
            refine lv_mono (anyeq fun k hk hC => ?_) hv
            rw [e01 k hk]
            exact (he k hk).symm.trans hC
          by_cases ej : j = i
          · subst ej
            simpa using hv'
          · simp only [ej, if_false]
            exact cl9 e01 j (by omega) hv'
    · have hie : i = n := by omega
      subst hie
      refine ⟨⟨r + 1, C1, hwr, by omega, M9, sd9, pf9, g9, kb9, ?_⟩, by rw [hwr]; (try dsimp only); omega⟩
      exact round_end (P := ClB p e) rd8 le9 (fun hP => sd9 C0 hP) (fun he => ⟨fun j hj hv => cl9 he j (by omega) hv⟩)
  · have hre : r = n + 1 := by omega
    subst hre
    refine ⟨h1.size, C0, rfl, M8, ⟨rd8.resolve_right fun h => ?_, fun D hD i hi => sd8 D hD i (by omega)⟩, g8, by omega⟩
    have := cnt_le C0 n
    omega
end
end Go.Proofs.Ytglhkodebehdbaa

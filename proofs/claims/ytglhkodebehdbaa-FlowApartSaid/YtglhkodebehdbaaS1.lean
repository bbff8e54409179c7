/-
  What the functions of layer 15 that look at lists tell.
-/
import Derived.Test.YtglhkodebehdbaaLiftL
import Derived.Test.YtglhkodebehdbaaG
namespace Go.Proofs.Ytglhkodebehdbaa
open Go Go.Lf

/-- a problem -/
structure Pb where
  s : List (List Int)
  w : Int
  g : List (List Int)
  k : List (List Int)
  e : List Int
structure PbAt (h : Heap) (a0 : Sv) (a1 : Int) (a2 a3 a4 : Sv) (p : Pb) : Prop where
  s : ListsAt h a0 p.s
  w : a1 = p.w
  g : ListsAt h a2 p.g
  k : ListsAt h a3 p.k
  e : IntsAt h a4 p.e
theorem PbAt.keep {h h' : Heap} {a0 : Sv} {a1 : Int} {a2 a3 a4 : Sv} {p : Pb} {T : Nat → Prop} (x : PbAt h a0 a1 a2 a3 a4 p) (f : Fr T h h') (hT : ∀ b, b < h.size → ¬ T b) : PbAt h' a0 a1 a2 a3 a4 p :=
  ⟨x.s.keep f hT, x.w, x.g.keep f hT, x.k.keep f hT, x.e.keep f hT⟩
theorem PbAt.grow {h h' : Heap} {a0 : Sv} {a1 : Int} {a2 a3 a4 : Sv} {p : Pb} (x : PbAt h a0 a1 a2 a3 a4 p) (f : Grow h h') : PbAt h' a0 a1 a2 a3 a4 p := x.keep f fun _ _ h => h

def at_ (ls : List (List Int)) (i : Nat) : List Int := (ls[i]?).getD []
theorem at_lt {ls : List (List Int)} {i : Nat} (hi : i < ls.length) : at_ ls i = ls[i] := by simp [at_, hi]
theorem at_ge {ls : List (List Int)} {i : Nat} (hi : ls.length ≤ i) : at_ ls i = [] := by simp [at_, hi]

/-- all numbers of lists are from 0 to below `m` -/
def inB (m : Int) (l : List Int) : Bool := l.all fun y => decide (0 ≤ y ∧ y < m)

theorem list_spec {h0 h : Heap} {s : Sv} {ls : List (List Int)} (x : ListsAt h0 s ls) (g : Grow h0 h) (i : Nat) :
    CallsH Try.prog 31 #[.slice s.a s.n s.c, .int .i64 i] h (fun v h' => h = h' ∧ ∃ t : Sv, v = t.v ∧ IntsAt h0 t (at_ ls i)) := by
  apply F31
  unfold L31
  refine ifb_dec (fun hle => ?_) (fun hgt => ?_)
  · refine ⟨rfl, ⟨none, 0, 0⟩, rfl, ?_⟩
    rw [at_ge (by rw [x.len] at hle; omega)]
    exact IntsAt.nil _ _ _
  · have hi : i < ls.length := by rw [x.len] at hgt; omega
    obtain ⟨p, e, t, c, y⟩ := x.at_ i hi
    refine ⟨p, e, by omega, by rw [x.len]; omega, t, by rw [Int.toNat_natCast]; exact g.clk c (fun h => h), rfl, t, rfl, ?_⟩
    rw [at_lt hi]
    exact y

theorem has_spec {h : Heap} {s : Sv} {ls : List (List Int)} (x : ListsAt h s ls) (i : Nat) (e : Int) (hl : (at_ ls i).length ≤ 1000000) :
    CallsH Try.prog 27 #[.slice s.a s.n s.c, .int .i64 i, .int .i64 e] h (fun v h' => h = h' ∧ v = .bool (decide (e ∈ at_ ls i))) := by
  apply F27
  unfold L27
  refine ifb_dec (fun hle => ?_) (fun hgt => ?_)
  · rw [at_ge (by rw [x.len] at hle; omega)]
    exact ⟨rfl, by simp⟩
  have hi : i < ls.length := by rw [x.len] at hgt; omega
  rw [at_lt hi] at hl ⊢
  refine ⟨fun y => ∃ k : Nat, y = k ∧ k ≤ ls[i].length ∧ e ∉ ls[i].take k, fun y => (ls[i].length - y).toNat, ⟨0, rfl, by omega, by simp⟩, ?_⟩
  rintro y ⟨k, rfl, hk, hno⟩
  refine x.get hi fun t y => ?_
  have htl := y.len
  refine ifb_dec (fun hlt => ?_) (fun hge => ?_)
  · have hkl : k < ls[i].length := by omega
    have hwk : IntKind.i64.wrap ((k : Int) + 1) = ((k + 1 : Nat) : Int) := by rw [wrap64_id (by omega) (by omega)]; omega
    refine x.get hi fun t' y' => y'.get hkl ?_
    refine ifb_iff (q := ls[i][k] = e) (by simp) (fun he => ⟨rfl, ?_⟩) (fun hne => ?_)
    · have : e ∈ ls[i] := by rw [← he]; exact List.getElem_mem hkl
      simp [this]
    · refine ⟨⟨k + 1, hwk, by omega, ?_⟩, by rw [hwk]; (try dsimp only); omega⟩
      rw [List.take_succ_eq_append_getElem hkl]
      simp only [List.mem_append, List.mem_singleton]
      exact fun h => h.elim hno fun h => hne h.symm
  · have : k = ls[i].length := by omega
    subst this
    rw [List.take_length] at hno
    exact ⟨rfl, by simp [hno]⟩

theorem all_take_succ {α : Type} {l : List α} {k : Nat} (hk : k < l.length) (f : α → Bool) : (l.take (k + 1)).all f = ((l.take k).all f && f l[k]) := by
  rw [List.take_succ_eq_append_getElem hk, List.all_append]
  simp

theorem fits_spec {h : Heap} {s : Sv} {ls : List (List Int)} (x : ListsAt h s ls) (n : Nat) (most : Int) (hn : n ≤ 1000000) (hl : ∀ l ∈ ls, l.length ≤ 1000000) :
    CallsH Try.prog 28 #[.slice s.a s.n s.c, .int .i64 n, .int .i64 most] h (fun v h' => h = h' ∧ v = .bool (decide (ls.length ≤ n) && ls.all (inB most))) := by
  apply F28
  unfold L28
  have hsl := x.len
  refine ifb_dec (fun hlt => ?_) (fun hge => ?_)
  · have : ¬ ls.length ≤ n := by omega
    exact ⟨rfl, by simp [this]⟩
  have hle : ls.length ≤ n := by omega
  refine ⟨fun y => ∃ i : Nat, y = i ∧ i ≤ ls.length ∧ (ls.take i).all (inB most) = true, fun y => (ls.length - y).toNat, ⟨0, rfl, by omega, by simp⟩, ?_⟩
  rintro y ⟨i, rfl, hi, hall⟩
  refine ifb_dec (fun hlt => ?_) (fun hge => ?_)
  · have hil : i < ls.length := by omega
    have hwi : IntKind.i64.wrap ((i : Int) + 1) = ((i + 1 : Nat) : Int) := by rw [wrap64_id (by omega) (by omega)]; omega
    have hll := hl _ (List.getElem_mem hil)
    refine x.get hil fun t y => ?_
    have htl := y.len
    refine ⟨fun z => ∃ k : Nat, z = k ∧ k ≤ ls[i].length ∧ inB most (ls[i].take k) = true, fun z => (ls[i].length - z).toNat, ⟨0, rfl, by omega, by simp [inB]⟩, ?_⟩
    rintro z ⟨k, rfl, hk, hak⟩
    refine ifb_dec (fun hlt => ?_) (fun hge => ?_)
    · have hkl : k < ls[i].length := by omega
      have hwk : IntKind.i64.wrap ((k : Int) + 1) = ((k + 1 : Nat) : Int) := by rw [wrap64_id (by omega) (by omega)]; omega
      refine y.get hkl ?_
      refine ifb_iff (q := ¬ (0 ≤ ls[i][k] ∧ ls[i][k] < most)) (by simp; omega) (fun hb => ⟨rfl, ?_⟩) (fun hb => ?_)
      · have : ls.all (inB most) = false := by
          rw [List.all_eq_false]
          refine ⟨ls[i], List.getElem_mem hil, ?_⟩
          rw [Bool.not_eq_true, inB, List.all_eq_false]
          exact ⟨_, List.getElem_mem hkl, by simpa using hb⟩
        simp [this]
      · refine ⟨⟨k + 1, hwk, by omega, ?_⟩, by rw [hwk]; (try dsimp only); omega⟩
        rw [inB, all_take_succ hkl, ← inB, hak, Bool.true_and]
        exact decide_eq_true (Classical.not_not.1 hb)
    · have : k = ls[i].length := by omega
      subst this
      rw [List.take_length] at hak
      refine ⟨⟨i + 1, hwi, by omega, ?_⟩, by rw [hwi]; (try dsimp only); omega⟩
      rw [all_take_succ hil, hall, hak]
      rfl
  · have : i = ls.length := by omega
    subst this
    rw [List.take_length] at hall
    exact ⟨rfl, by simp [hall, hle]⟩

theorem in_spec {h : Heap} {s : Sv} {ls : List (List Int)} (x : ListsAt h s ls) (n : Int) (most : Int) (hn : ls.length ≤ 1000000) (hl : ∀ l ∈ ls, l.length ≤ 1000000) :
    CallsH Try.prog 22 #[.slice s.a s.n s.c, .int .i64 n, .int .i64 most] h (fun v h' => h = h' ∧ v = .bool (decide ((ls.length : Int) ≤ n) && ls.all (inB most))) := by
  apply F22
  unfold L22
  have hsl := x.len
  refine ⟨fun y => ∃ i : Nat, y = i ∧ i ≤ ls.length ∧ (ls.take i).all (inB most) = true, fun y => (ls.length - y).toNat, ⟨0, rfl, by omega, by simp⟩, ?_⟩
  rintro y ⟨i, rfl, hi, hall⟩
  refine ifb_dec (fun hlt => ?_) (fun hge => ?_)
  · have hil : i < ls.length := by omega
    have hwi : IntKind.i64.wrap ((i : Int) + 1) = ((i + 1 : Nat) : Int) := by rw [wrap64_id (by omega) (by omega)]; omega
    have hll := hl _ (List.getElem_mem hil)
    refine ⟨fun z => ∃ k : Nat, z = k ∧ k ≤ ls[i].length ∧ inB most (ls[i].take k) = true, fun z => (ls[i].length - z).toNat, ⟨0, rfl, by omega, by simp [inB]⟩, ?_⟩
    rintro z ⟨k, rfl, hk, hak⟩
    refine x.get hil fun t y => ?_
    have htl := y.len
    refine ifb_dec (fun hlt => ?_) (fun hge => ?_)
    · have hkl : k < ls[i].length := by omega
      have hwk : IntKind.i64.wrap ((k : Int) + 1) = ((k + 1 : Nat) : Int) := by rw [wrap64_id (by omega) (by omega)]; omega
      refine x.get hil fun t y => y.get hkl ?_
      refine ⟨fun b => b = !(decide (0 ≤ ls[i][k] ∧ ls[i][k] < most)), ⟨fun e => ?_, fun e => x.get hil fun t y => y.get hkl ?_⟩, ?_⟩
      · have : ¬ 0 ≤ ls[i][k] := by simp at e; omega
        simp [this]
      · have : 0 ≤ ls[i][k] := by simp at e; omega
        show _ = _
        rw [Bool.eq_iff_iff]
        simp [this]
      rintro b rfl
      refine ifb_iff (q := ¬ (0 ≤ ls[i][k] ∧ ls[i][k] < most)) (by simp; omega) (fun hb => ⟨rfl, ?_⟩) (fun hb => ?_)
      · have : ls.all (inB most) = false := by
          rw [List.all_eq_false]
          refine ⟨ls[i], List.getElem_mem hil, ?_⟩
          rw [Bool.not_eq_true, inB, List.all_eq_false]
          exact ⟨_, List.getElem_mem hkl, by simpa using hb⟩
        simp [this]
      · refine ⟨⟨k + 1, hwk, by omega, ?_⟩, by rw [hwk]; (try dsimp only); omega⟩
        rw [inB, all_take_succ hkl, ← inB, hak, Bool.true_and]
        exact decide_eq_true (Classical.not_not.1 hb)
    · have : k = ls[i].length := by omega
      subst this
      rw [List.take_length] at hak
      refine ⟨⟨i + 1, hwi, by omega, ?_⟩, by rw [hwi]; (try dsimp only); omega⟩
      rw [all_take_succ hil, hall, hak]
      rfl
  · have : i = ls.length := by omega
    subst this
    rw [List.take_length] at hall
    exact ⟨rfl, by rw [hall, Bool.and_true, hsl]⟩
end Go.Proofs.Ytglhkodebehdbaa

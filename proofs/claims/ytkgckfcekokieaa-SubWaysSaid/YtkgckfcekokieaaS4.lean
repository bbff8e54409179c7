/-
  What two types ask for, as the program tells it; a small call that must hold; SubSelf walked.
-/
import Derived.Test.YtkgckfcekokieaaS3
namespace Go.Proofs.Ytkgckfcekokieaa
open Go Go.Lf

theorem bnd8 {n : Nat} (h : n ≤ 8) : bnd n ≤ 305830 := by
  have : ∀ n, n ≤ 8 → bnd n ≤ 305830 := by decide
  exact this n h
section
variable {Q : Nat → Prop} {h : Heap}
theorem pairs_spec {w : Option Nat} {ws : List (ByteArray × List Int)} (a b : Ty) (n : Nat) (hn : n ≤ 8) (hsm : small n a = true) (v v' : Tv) (h : Heap) (hv : TyAt (fun b => b < h.size) h a v) (hv' : TyAt (fun b => b < h.size) h b v') (hw : WaysAt (fun b => b < h.size) h w ws) :
    CallsH Try.prog 9 #[.map w, .agg (tvs v), .agg (tvs v')] h (fun x h' => Grow h h' ∧ ((same a b = true ∧ ∃ s : Sv, x = .tuple #[.slice s.a s.n s.c, .bool true] ∧ Own h' h.size 2 s (prs (seeL (ofW ws) a 1 b))) ∨ (same a b = false ∧ x = .tuple #[.slice none 0 0, .bool false]))) := by
  apply F9
  unfold L9
  refine new6 (v := v) fun h1 b1 f1 _ => new6 (v := v') fun h2 b2 f2 z2 => ?_
  have g2 : Grow h h2 := f1.trans f2
  have B1 := f2.blk b1 (fun h => h)
  refine rd6 (Tv6.blk B1) (rd6 (Tv6.blk b2) ?_)
  refine cal_of (same_spec a b n (by omega) hsm v v' h2 (hv.grow g2) (hv'.grow g2)) ?_
  rintro _ h3 ⟨f3, rfl⟩
  refine ⟨_, rfl, fun e => ⟨g2.trans f3, .inr ⟨by simpa using e, rfl⟩⟩, fun e => ?_⟩
  have hs : same a b = true := by simpa using e
  have g3 := g2.trans f3
  rintro p15 h4 rfl rfl
  have f4 : Grow h3 (h3.push (.cells #[Value.map w, Value.slice (⟨none, 0, 0⟩ : Sv).a (⟨none, 0, 0⟩ : Sv).n (⟨none, 0, 0⟩ : Sv).c] 49)) := Fr.push _ _ _
  have b4 := blk.new h3 #[Value.map w, Value.slice (⟨none, 0, 0⟩ : Sv).a (⟨none, 0, 0⟩ : Sv).n (⟨none, 0, 0⟩ : Sv).c] 49
  have g4 := g3.trans f4
  refine rd6 (Tv6.blk ((f3.trans f4).blk B1 (fun h => h))) (rd6 (Tv6.blk ((f3.trans f4).blk b2 (fun h => h))) ?_)
  have hQ : ∀ b, b < h.size → b < h.size → b < h3.size := fun b h1 _ => by have := g3.size; omega
  have hb := bnd8 hn
  refine cal_of (see_spec (B := h3.size + 1) (pb := h3.size) (w := w) (ws := ws) a b n hsm hs v v' _ ⟨none, 0, 0⟩ [] 1 ((hv.weak hQ).grow g4) ((hv'.weak hQ).grow g4) ((hw.weak hQ).fr g4 fun _ _ h => h) ⟨b4, Own.nil _ _ _, by omega, by simp⟩ (by simp; omega)) ?_
  rintro _ h5 ⟨s5, p5, f5, o5⟩
  have g5 : Grow h h5 := g4.trans' f5 fun i hi e => by
    have := g3.size
    rcases e with e | ⟨a, e, _⟩
    · omega
    · cases e
  refine ⟨s5, by rw [add_plain, p5.box.cl]; rfl, g5, .inl ⟨hs, s5, rfl, ?_⟩⟩
  have o := p5.own
  refine ⟨o.len, o.mem.imp id ?_⟩
  rintro ⟨g, cur, q1, q2, q3⟩
  exact ⟨g, cur, q1, by have := g3.size; omega, q3⟩
theorem both_spec {w : Option Nat} {ws : List (ByteArray × List Int)} (a b : Ty) (n : Nat) (hn : n ≤ 8) (hsm : small n a = true) (v v' : Tv) (h : Heap) (hv : TyAt (fun b => b < h.size) h a v) (hv' : TyAt (fun b => b < h.size) h b v') (hw : WaysAt (fun b => b < h.size) h w ws) :
    CallsH Try.prog 13 #[.map w, .agg (tvs v), .agg (tvs v')] h (fun x h' => Grow h h' ∧ ((same a b = true ∧ ∃ s : Sv, x = .tuple #[.slice s.a s.n s.c, .bool true] ∧ Own h' h.size 2 s (prs (seeL (ofW ws) a 3 b))) ∨ (same a b = false ∧ x = .tuple #[.slice none 0 0, .bool false]))) := by
  apply F13
  unfold L13
  refine new6 (v := v) fun h1 b1 f1 _ => new6 (v := v') fun h2 b2 f2 z2 => ?_
  have g2 : Grow h h2 := f1.trans f2
  have B1 := f2.blk b1 (fun h => h)
  refine rd6 (Tv6.blk B1) (rd6 (Tv6.blk b2) ?_)
  refine cal_of (same_spec a b n (by omega) hsm v v' h2 (hv.grow g2) (hv'.grow g2)) ?_
  rintro _ h3 ⟨f3, rfl⟩
  refine ⟨_, rfl, fun e => ⟨g2.trans f3, .inr ⟨by simpa using e, rfl⟩⟩, fun e => ?_⟩
  have hs : same a b = true := by simpa using e
  have g3 := g2.trans f3
  rintro p15 h4 rfl rfl
  have f4 : Grow h3 (h3.push (.cells #[Value.map w, Value.slice (⟨none, 0, 0⟩ : Sv).a (⟨none, 0, 0⟩ : Sv).n (⟨none, 0, 0⟩ : Sv).c] 49)) := Fr.push _ _ _
  have b4 := blk.new h3 #[Value.map w, Value.slice (⟨none, 0, 0⟩ : Sv).a (⟨none, 0, 0⟩ : Sv).n (⟨none, 0, 0⟩ : Sv).c] 49
  have g4 := g3.trans f4
  refine rd6 (Tv6.blk ((f3.trans f4).blk B1 (fun h => h))) (rd6 (Tv6.blk ((f3.trans f4).blk b2 (fun h => h))) ?_)
  have hQ : ∀ b, b < h.size → b < h.size → b < h3.size := fun b h1 _ => by have := g3.size; omega
  have hb := bnd8 hn
  refine cal_of (see_spec (B := h3.size + 1) (pb := h3.size) (w := w) (ws := ws) a b n hsm hs v v' _ ⟨none, 0, 0⟩ [] 3 ((hv.weak hQ).grow g4) ((hv'.weak hQ).grow g4) ((hw.weak hQ).fr g4 fun _ _ h => h) ⟨b4, Own.nil _ _ _, by omega, by simp⟩ (by simp; omega)) ?_
  rintro _ h5 ⟨s5, p5, f5, o5⟩
  have g5 : Grow h h5 := g4.trans' f5 fun i hi e => by
    have := g3.size
    rcases e with e | ⟨a, e, _⟩
    · omega
    · cases e
  refine ⟨s5, by rw [add_plain, p5.box.cl]; rfl, g5, .inl ⟨hs, s5, rfl, ?_⟩⟩
  have o := p5.own
  refine ⟨o.len, o.mem.imp id ?_⟩
  rintro ⟨g, cur, q1, q2, q3⟩
  exact ⟨g, cur, q1, by have := g3.size; omega, q3⟩
def refT (r : Int) : Ty := .mk 7 ⟨#[]⟩ false r [] [.mk 1 ⟨#[]⟩ false 0 [] []]
theorem intsQ_nil (a : Option Addr) (c : Nat) : IntsQ Q h ⟨a, 0, c⟩ [] := ⟨rfl, fun i hi => by simp at hi⟩
theorem bare_at (k : Int) (nm : ByteArray) (mu : Bool) (r : Int) : TyAt Q h (.mk k nm mu r [] []) ⟨k, nm, mu, r, ⟨none, 0, 0⟩, ⟨none, 0, 0⟩⟩ :=
  tyAt_iff.2 ⟨rfl, rfl, rfl, rfl, intsQ_nil _ _, rfl, fun j hj => by simp at hj⟩
theorem ref_spec (r : Int) (h : Heap) : CallsH Try.prog 14 #[.int .i64 r] h (fun x h' => Grow h h' ∧ ∃ v, x = .agg (tvs v) ∧ TyAt (fun b => b < h'.size) h' (refT r) v) := by
  apply F14
  unfold L14
  rintro p2 h1 rfl rfl s5 h2 rfl rfl
  have b1 := (blk.new h #[Value.int .i64 0, Value.string (⟨#[]⟩ : ByteArray), Value.bool false, Value.int .i64 0, Value.slice (⟨none, 0, 0⟩ : Sv).a (⟨none, 0, 0⟩ : Sv).n (⟨none, 0, 0⟩ : Sv).c, Value.slice (⟨none, 0, 0⟩ : Sv).a (⟨none, 0, 0⟩ : Sv).n (⟨none, 0, 0⟩ : Sv).c] 25).push (.cells #[Value.int .i64 1, Value.string (⟨#[]⟩ : ByteArray), Value.bool false, Value.int .i64 0, Value.slice (⟨none, 0, 0⟩ : Sv).a (⟨none, 0, 0⟩ : Sv).n (⟨none, 0, 0⟩ : Sv).c, Value.slice (⟨none, 0, 0⟩ : Sv).a (⟨none, 0, 0⟩ : Sv).n (⟨none, 0, 0⟩ : Sv).c] 25)
  have b2 := blk.new (h.push (.cells #[Value.int .i64 0, Value.string (⟨#[]⟩ : ByteArray), Value.bool false, Value.int .i64 0, Value.slice (⟨none, 0, 0⟩ : Sv).a (⟨none, 0, 0⟩ : Sv).n (⟨none, 0, 0⟩ : Sv).c, Value.slice (⟨none, 0, 0⟩ : Sv).a (⟨none, 0, 0⟩ : Sv).n (⟨none, 0, 0⟩ : Sv).c] 25)) #[Value.int .i64 1, Value.string (⟨#[]⟩ : ByteArray), Value.bool false, Value.int .i64 0, Value.slice (⟨none, 0, 0⟩ : Sv).a (⟨none, 0, 0⟩ : Sv).n (⟨none, 0, 0⟩ : Sv).c, Value.slice (⟨none, 0, 0⟩ : Sv).a (⟨none, 0, 0⟩ : Sv).n (⟨none, 0, 0⟩ : Sv).c] 25
  refine stoA_i b1 rfl (by simp [Value.oneCell']) fun h3 b3 f3 => ?_
  generalize hh2 : ((h.push (.cells #[Value.int .i64 0, Value.string (⟨#[]⟩ : ByteArray), Value.bool false, Value.int .i64 0, Value.slice (⟨none, 0, 0⟩ : Sv).a (⟨none, 0, 0⟩ : Sv).n (⟨none, 0, 0⟩ : Sv).c, Value.slice (⟨none, 0, 0⟩ : Sv).a (⟨none, 0, 0⟩ : Sv).n (⟨none, 0, 0⟩ : Sv).c] 25)).push (.cells #[Value.int .i64 1, Value.string (⟨#[]⟩ : ByteArray), Value.bool false, Value.int .i64 0, Value.slice (⟨none, 0, 0⟩ : Sv).a (⟨none, 0, 0⟩ : Sv).n (⟨none, 0, 0⟩ : Sv).c, Value.slice (⟨none, 0, 0⟩ : Sv).a (⟨none, 0, 0⟩ : Sv).n (⟨none, 0, 0⟩ : Sv).c] 25)) = hx at *
  have gx : Grow h hx := by rw [← hh2]; exact (Fr.push _ _ _).trans (Fr.push _ _ _)
  have sx : hx.size = h.size + 2 := by rw [← hh2]; simp
  have g3 : Grow h h3 := gx.trans' f3 fun i hi e => by omega
  have hs1 : (h.push (.cells #[Value.int .i64 0, Value.string (⟨#[]⟩ : ByteArray), Value.bool false, Value.int .i64 0, Value.slice (⟨none, 0, 0⟩ : Sv).a (⟨none, 0, 0⟩ : Sv).n (⟨none, 0, 0⟩ : Sv).c, Value.slice (⟨none, 0, 0⟩ : Sv).a (⟨none, 0, 0⟩ : Sv).n (⟨none, 0, 0⟩ : Sv).c] 25)).size = h.size + 1 := by simp
  rw [hs1] at b2 b3
  have b4 := f3.blk b2 (by omega)
  have s3 := f3.size
  refine rd6 (t := ⟨7, ⟨#[]⟩, false, r, ⟨none, 0, 0⟩, ⟨some ⟨h.size + 1, 0, none⟩, 1, 1⟩⟩) (Tv6.blk b3) ⟨g3, _, rfl, ?_⟩
  refine tyAt_iff.2 ⟨rfl, rfl, rfl, rfl, intsQ_nil _ _, rfl, fun j hj => ?_⟩
  obtain rfl : j = 0 := by simp at hj; omega
  refine ⟨_, ⟨1, ⟨#[]⟩, false, 0, ⟨none, 0, 0⟩, ⟨none, 0, 0⟩⟩, rfl, by show h.size + 1 < h3.size; omega, ?_, bare_at _ _ _ _⟩
  rw [Nat.zero_mul, add_zero]
  exact Tv6.blk b4
theorem nil_ways : WaysAt Q h none [] := ⟨[], rfl, .inl ⟨rfl, rfl⟩, fun r hr => (by cases hr), fun e he => (by cases he)⟩
theorem does_spec (h : Heap) : CallsH Try.prog 7 #[] h (fun x h' => Grow h h' ∧ x = .bool true) := by
  apply F7
  unfold L7
  refine cal_of (ref_spec 1 h) ?_
  rintro _ h1 ⟨f1, v1, rfl, t1⟩
  refine ⟨_, _, _, _, _, _, rfl, ?_⟩
  refine cal_of (ref_spec 2 h1) ?_
  rintro _ h2 ⟨f2, v2, rfl, t2⟩
  refine ⟨_, _, _, _, _, _, rfl, ?_⟩
  have hk12 : ∀ b, b < h1.size → b < h1.size → b < h2.size := fun b _ _ => by have := f2.size; omega
  refine cal_of (pairs_spec (refT 1) (refT 2) 2 (by omega) rfl v1 v2 h2 ((t1.weak hk12).grow f2) t2 (nil_ways (Q := fun b => b < h2.size))) ?_
  rintro _ h3 ⟨f3, H3⟩
  have hs : same (refT 1) (refT 2) = true := by
    unfold refT
    simp [same_mk, sameA]
  have hL : seeL (ofW []) (refT 1) 1 (refT 2) = [(1, 2)] := by
    unfold refT
    simp [seeL_mk, seeA]
    decide
  obtain ⟨_, s3, rfl, o3⟩ := H3.resolve_right (fun e => by rw [hs] at e; cases e.1)
  rw [hL] at o3
  refine ⟨_, rfl, _, rfl, s3, rfl, _, rfl, _, rfl, ?_⟩
  refine cal_of (ref_spec 1 h3) ?_
  rintro _ h4 ⟨f4, v4, rfl, t4⟩
  refine ⟨_, _, _, _, _, _, rfl, ?_⟩
  refine cal_of (pairs_spec (refT 1) (.mk 1 ⟨#[]⟩ false 0 [] []) 2 (by omega) rfl v4 ⟨1, ⟨#[]⟩, false, 0, ⟨none, 0, 0⟩, ⟨none, 0, 0⟩⟩ h4 t4 (bare_at _ _ _ _) (nil_ways (Q := fun b => b < h4.size))) ?_
  rintro _ h5 ⟨f5, H5⟩
  have hs' : same (refT 1) (.mk 1 ⟨#[]⟩ false 0 [] []) = false := by
    unfold refT
    simp [same_mk]
  rcases H5 with ⟨e, _⟩ | ⟨_, rfl⟩
  · rw [hs'] at e; cases e
  refine ⟨_, rfl, _, rfl, ⟨none, 0, 0⟩, rfl, _, rfl, _, rfl, ?_⟩
  have hn : s3.n = 1 := by have := o3.len; simp [prs] at this; omega
  have o5 := o3.frame (f4.trans f5) (fun _ _ h => h)
  have g5 : Grow h h5 := f1.trans (f2.trans (f3.trans (f4.trans f5)))
  refine ⟨fun x => x = true, ⟨fun _ => ?_, fun e => ?_⟩, ?_⟩
  · have hr := o5.row
    rcases o5.mem with ⟨_, e, _⟩ | ⟨g, cur, e, _⟩
    · omega
    rw [e] at hr
    refine ⟨_, e, by omega, by rw [hn]; decide, 1, 2, ?_, ?_, rfl⟩
    · have := hr 0 _ rfl
      rwa [add_zero] at this
    · exact hr 1 _ rfl
  · rw [hn] at e; simp at e
  rintro _ rfl
  exact ⟨g5, rfl⟩
def digs (f i : Nat) : List Int := (List.range i).map fun j => ((f / 4 ^ j % 4 : Nat) : Int)
theorem digs_succ (f i : Nat) : digs f (i + 1) = digs f i ++ [((f / 4 ^ i % 4 : Nat) : Int)] := by unfold digs; rw [List.range_succ]; simp
theorem ways_spec (f : Nat) (hf : f < 18446744073709551616) (h : Heap) : CallsH Try.prog 10 #[.int .u64 f] h (fun x h' => Grow h h' ∧ ∃ w, x = .map w ∧ WaysAt (fun b => b < h'.size) h' w [(⟨#[83]⟩, digs f 8)]) := by
  apply F10
  unfold L10
  refine ⟨fun vf l i h' => ∃ j : Nat, i = j ∧ j ≤ 8 ∧ vf = ((f / 4 ^ j : Nat) : Int) ∧ Grow h h' ∧ Own h' h.size 1 l (ints (digs f j)), fun _ _ i _ => 8 - i.toNat, ⟨0, rfl, by omega, by simp, Fr.refl _ _, Own.nil _ _ _⟩, ?_⟩
  rintro _ l _ h1 ⟨j, rfl, hj, rfl, f1, o1⟩
  have hlt : f / 4 ^ j < 18446744073709551616 := Nat.lt_of_le_of_lt (Nat.div_le_self _ _) hf
  refine ifb_iff (q := j < 8) (by simp; omega) (fun hl => ?_) (fun hl => ?_)
  · have hm : IntKind.i64.wrap ((((f / 4 ^ j : Nat) : Int)).tmod 4) = ((f / 4 ^ j % 4 : Nat) : Int) := by
      generalize f / 4 ^ j = q at *
      rw [Int.tmod_eq_emod_of_nonneg (by omega), wrap64_id (by omega) (by omega)]; omega
    have hd : IntKind.u64.wrap ((((f / 4 ^ j : Nat) : Int)).tdiv 4) = ((f / 4 ^ (j + 1) : Nat) : Int) := by
      rw [Nat.pow_succ, ← Nat.div_div_eq_div_mul]
      generalize f / 4 ^ j = q at *
      rw [Int.tdiv_eq_ediv_of_nonneg (by omega), IntKind.wrap_u64]
      omega
    rw [hm, hd]
    have hn : l.n = j := by have := o1.len; simp [ints, digs] at this; omega
    have hle := f1.size
    refine app1 rfl o1 rfl (by simp [Value.oneCell']) hle (by omega) (by omega) fun s' h3 e1 o' f' hown => ?_
    rw [wrap_succ hl (by omega)]
    refine ⟨⟨j + 1, rfl, by omega, rfl, f1.trans' f' fun i hi ho => by have := (o1.ge ho).1; omega, ?_⟩, by simp; omega⟩
    rw [digs_succ]
    simpa [ints] using o'
  · obtain rfl : j = 8 := by omega
    rintro m h4 rfl rfl
    refine ⟨h1.size, #[], 0, [], rfl, by simp, rfl, rfl, ?_⟩
    rintro h5 L' c' rfl hL
    have f5 : Grow h1 ((h1.push (.map #[] 0)).setIfInBounds h1.size (.map L' c')) := by
      refine ⟨by simp, fun b hb _ => ?_⟩
      rw [Array.getElem?_setIfInBounds, if_neg (by omega), Array.getElem?_push, if_neg (by omega)]
    refine ⟨f1.trans f5, _, rfl, [(⟨#[83]⟩, l, digs f 8)], rfl, .inr ⟨h1.size, L', c', rfl, ?_, ?_⟩, ?_, ?_⟩
    · rw [Array.getElem?_setIfInBounds, if_pos rfl, if_pos (by simp)]
    · rw [hL]; rfl
    · intro r hr
      simp only [Option.some.injEq] at hr
      subst hr
      simp
    · intro e he
      simp only [List.mem_singleton] at he
      subst he
      refine IntsQ.of (own_ints (o1.frame f5 fun _ _ h => h)) fun b _ hb => hb
theorem see_self (of : ByteArray → Nat → Int) : ∀ (a : Ty) (w : Int), ∀ p ∈ seeL of a w a, p.1 = p.2 := by
  intro a
  refine Ty.ind (P := fun a => ∀ (w : Int), ∀ p ∈ seeL of a w a, p.1 = p.2) ?_ a
  intro k nm mu r rs az ih w
  have hlife : ∀ x w, ∀ p ∈ lifeL x x w, p.1 = p.2 := by
    intro x w p hp
    unfold lifeL at hp
    rcases List.mem_append.1 hp with h | h <;> split at h <;> simp at h <;> rw [h]
  have hregs : ∀ (f : Nat → Int) (i : Nat) (xs : List Int), ∀ p ∈ regsL f i xs xs, p.1 = p.2 := by
    intro f i xs
    induction xs generalizing i with
    | nil => intro p hp; simp [regsL] at hp
    | cons x xs ihx =>
      intro p hp
      simp only [regsL] at hp
      rcases List.mem_append.1 hp with h | h
      · exact hlife _ _ p h
      · exact ihx _ p h
  have hargs : ∀ (f : Nat → Int) (i : Nat) (xs : List Ty), (∀ a ∈ xs, a ∈ az) → ∀ p ∈ seeA (seeL of) f i xs xs, p.1 = p.2 := by
    intro f i xs
    induction xs generalizing i with
    | nil => intro _ p hp; simp [seeA] at hp
    | cons x xs ihx =>
      intro hx p hp
      simp only [seeA] at hp
      rcases List.mem_append.1 hp with h | h
      · exact ih x (hx x (by simp)) _ p h
      · exact ihx _ (fun a ha => hx a (by simp [ha])) p h
  intro p hp
  rw [seeL_mk] at hp
  split at hp
  · rcases List.mem_append.1 hp with h | h
    · exact hregs _ _ _ p h
    · exact hargs _ _ _ (fun a h => h) p h
  · rcases List.mem_append.1 hp with h | h
    · split at h
      · exact hlife _ _ p h
      · simp at h
    · exact hargs _ _ _ (fun a h => h) p h
theorem same_self : ∀ a : Ty, same a a = true := by
  intro a
  refine Ty.ind (P := fun a => same a a = true) ?_ a
  intro k nm mu r rs az ih
  rw [same_mk]
  have : sameA same az az = true := sameA_iff.2 ⟨rfl, fun i h1 _ => ih _ (List.getElem_mem h1)⟩
  rw [this]
  simp
theorem self_walk (v : Tv) (t : Ty) (f : Int) (h : Heap) (hv : TyAt (fun b => b < h.size) h t v) (hf : 0 ≤ f ∧ f ≤ 18446744073709551615) :
    CallsH Try.prog 3 #[.agg (tvs v), .int .u64 f] h (fun x h' => x = .bool true ∧ Grow h h') := by
  obtain ⟨f, rfl⟩ := Int.eq_ofNat_of_zero_le hf.1
  apply F3
  unfold L3
  refine new6 (v := v) fun h1 b1 f1 z1 => ?_
  refine cal_of (does_spec h1) ?_
  rintro _ h2 ⟨f2, rfl⟩
  refine ⟨_, rfl, ?_⟩
  have hQ : ∀ {h' : Heap}, Grow h h' → ∀ b, b < h.size → b < h.size → b < h'.size := fun f b _ _ => by have := f.size; omega
  refine ⟨fun x h' => x = (!small 6 t) ∧ Grow h2 h', ⟨fun e => (by cases e), fun _ => ?_⟩, ?_⟩
  · refine rd6 (Tv6.blk (f2.blk b1 fun h => h)) ?_
    refine cal_of (small_spec 6 (by omega) t v h2 (hv.grow (f1.trans f2))) ?_
    rintro _ h3 ⟨f3, rfl⟩
    exact ⟨_, rfl, rfl, f3⟩
  rintro _ h3 ⟨rfl, f3⟩
  have g3 := f1.trans (f2.trans f3)
  refine ⟨fun e => ?_, fun e => ?_⟩
  · refine cal_of (does_spec h3) ?_
    rintro _ h4 ⟨f4, rfl⟩
    exact ⟨_, rfl, rfl, g3.trans f4⟩
  have hsm : small 6 t = true := by simpa using e
  have B3 := (f2.trans f3).blk b1 (fun h => h)
  refine ⟨fun h' => Grow h3 h', Fr.refl _ _, ?_⟩
  refine hd6 (fun h' hs => Tv6.blk (hs.blk B3 fun h => h)) (hd6 (fun h' hs => Tv6.blk (hs.blk B3 fun h => h)) ?_)
  refine cal_of (ways_spec f (by omega) h3) ?_
  rintro _ h6 ⟨f6, w, rfl, hw⟩
  refine ⟨w, rfl, f6, ?_⟩
  have g6 := g3.trans f6
  refine cal_of (pairs_spec t t 6 (by omega) hsm v v h6 ((hv.weak (hQ g6)).grow g6) ((hv.weak (hQ g6)).grow g6) hw) ?_
  rintro _ h7 ⟨f7, H7⟩
  obtain ⟨_, s7, rfl, o7⟩ := H7.resolve_right (fun e => by rw [same_self] at e; cases e.1)
  refine ⟨_, rfl, _, rfl, s7, rfl, _, rfl, _, rfl, ?_⟩
  generalize hl : seeL (ofW [(⟨#[83]⟩, digs f 8)]) t 1 t = l at o7
  have hself : ∀ p ∈ l, p.1 = p.2 := by rw [← hl]; exact see_self _ t 1
  have hll : l.length ≤ 305830 := by rw [← hl]; exact Nat.le_trans (seeL_len _ 6 t 1 t hsm) (bnd8 (by omega))
  have hn : s7.n = l.length := by have := o7.len; rw [prs_len] at this; omega
  rw [hn]
  refine ⟨fun i => ∃ j : Nat, i = j ∧ j ≤ l.length, fun i => l.length - i.toNat, ⟨0, rfl, Nat.zero_le _⟩, ?_⟩
  rintro _ ⟨j, rfl, hj⟩
  refine ifb_iff (q := j < l.length) (by simp) (fun hlt => ?_) (fun hge => ⟨rfl, g6.trans f7⟩)
  have hr := o7.row
  rcases o7.mem with ⟨_, e, _⟩ | ⟨g, cur, ea, _⟩
  · omega
  rw [ea] at hr
  obtain ⟨c1, c2⟩ := prs_get l j hlt
  refine ⟨_, ea, by omega, by rw [hn]; omega, l[j].1, ?_, _, ea, by omega, by rw [hn]; omega, l[j].2, ?_, ?_⟩
  · rw [Int.toNat_natCast]; exact hr _ _ c1
  · rw [Int.toNat_natCast, add_plain, add_plain]
    have := hr _ _ c2
    rw [add_plain] at this
    rw [show 0 + j * 2 + 1 = 0 + (j * 2 + 1) by omega]
    exact this
  · rw [hself _ (List.getElem_mem hlt)]
    refine ⟨fun e => by simp at e, fun _ => ?_⟩
    rw [wrap_succ hlt (by omega)]
    exact ⟨⟨j + 1, rfl, hlt⟩, by simp; omega⟩
end
end Go.Proofs.Ytkgckfcekokieaa

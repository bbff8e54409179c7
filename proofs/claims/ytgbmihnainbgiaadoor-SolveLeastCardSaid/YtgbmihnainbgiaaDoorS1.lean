/-
  A solver in memory: its box, its rows, its lists; whose each block is.
-/
import Derived.Test.YtgbmihnainbgiaaDoorLiftN
import Derived.Test.YtgbmihnainbgiaaDoorG
namespace Go.Proofs.YtgbmihnainbgiaaDoor
open Go Go.Lf

/-- what stays of a solver -/
structure Sh where
  bs : Nat
  tb : Sv
  rb : Nat → Nat
  ob : Nat
  ib : Nat
  n : Nat
  W : Nat
def Sh.nw (x : Sh) : Nat := (x.W + 63) / 64
/-- what turns: the lists' slices, the slice of what is to do, whose a block is, the sets, who outlives, what is to do, the marks -/
structure Sd where
  os : Nat → Sv
  td : Sv
  w : Nat → Nat
  S : Nat → Nat → Bool
  ol : Nat → List Nat
  tl : List Nat
  F : Nat → Bool
def natI (l : List Nat) : List Value := l.map fun a : Nat => .int .i64 a
theorem natI_ints (l : List Nat) : natI l = ints (l.map fun a : Nat => (a : Int)) := by simp [natI, ints]
theorem natI_snoc (l : List Nat) (a : Nat) : natI (l ++ [a]) = natI l ++ [.int .i64 a] := by simp [natI]

def boxC (x : Sh) (td : Sv) : Array Value := #[.int .i64 x.n, .int .i64 x.W, .slice x.tb.a x.tb.n x.tb.c, .slice (some ⟨x.ob, 0, none⟩) x.n x.n, .slice td.a td.n td.c, .slice (some ⟨x.ib, 0, none⟩) x.n x.n]
structure SolOk (x : Sh) (d : Sd) (h : Heap) : Prop where
  box : blk h x.bs (boxC x d.td)
  tbl : Own h 0 1 x.tb ((List.range x.n).map fun i => .slice (some ⟨x.rb i, 0, none⟩) x.nw x.nw)
  row : ∀ i, i < x.n → WordsAt h (x.rb i) x.nw (d.S i)
  obk : ∃ cs, blk h x.ob cs ∧ cs.size = x.n ∧ ∀ i, i < x.n → cs[i]? = some (.slice (d.os i).a (d.os i).n (d.os i).c)
  lst : ∀ i, i < x.n → Own h 0 1 (d.os i) (natI (d.ol i))
  tod : Own h 0 1 d.td (natI d.tl)
  inn : BoolsAt h x.ib x.n d.F
  w0 : ∀ b, h.size ≤ b → d.w b = 0
  w1 : d.w x.bs = 1
  w2 : ∀ b, x.tb.own b → d.w b = 2
  w3 : d.w x.ob = 3
  w4 : d.w x.ib = 4
  w5 : ∀ b, d.td.own b → d.w b = 5
  w6 : ∀ i, i < x.n → d.w (x.rb i) = 6 + 2 * i
  w7 : ∀ i, i < x.n → ∀ b, (d.os i).own b → d.w b = 7 + 2 * i

section
variable {x : Sh} {d : Sd} {h h' : Heap}
/-- what touches none of its blocks -/
theorem SolOk.frame {T : Nat → Prop} (k : SolOk x d h) (f : Fr T h h') (hT : ∀ b, d.w b ≠ 0 → ¬ T b) : SolOk x d h' := by
  obtain ⟨cs, c1, c2, c3⟩ := k.obk
  refine ⟨f.blk k.box (hT _ (by rw [k.w1]; omega)), k.tbl.frame f fun b hb => hT b (by rw [k.w2 b hb]; omega), fun i hi => (k.row i hi).frame f (hT _ (by rw [k.w6 i hi]; omega)),
    ⟨cs, f.blk c1 (hT _ (by rw [k.w3]; omega)), c2, c3⟩, fun i hi => (k.lst i hi).frame f fun b hb => hT b (by rw [k.w7 i hi b hb]; omega), k.tod.frame f fun b hb => hT b (by rw [k.w5 b hb]; omega),
    k.inn.frame f (hT _ (by rw [k.w4]; omega)), fun b hb => k.w0 b (by have := f.size; omega), k.w1, k.w2, k.w3, k.w4, k.w5, k.w6, k.w7⟩
theorem SolOk.grow (k : SolOk x d h) (f : Grow h h') : SolOk x d h' := k.frame f fun _ _ h => h
theorem SolOk.tlen (k : SolOk x d h) : x.tb.n = x.n := by have := k.tbl.len; simp at this; omega
theorem SolOk.dlen (k : SolOk x d h) : d.td.n = d.tl.length := by have := k.tod.len; simp [natI] at this; omega
theorem SolOk.llen (k : SolOk x d h) {i : Nat} (hi : i < x.n) : (d.os i).n = (d.ol i).length := by have := (k.lst i hi).len; simp [natI] at this; omega
theorem SolOk.cn (k : SolOk x d h) : cl h ⟨x.bs, 0, none⟩ = some (.int .i64 x.n) := by rw [k.box.cl]; rfl
theorem SolOk.cw (k : SolOk x d h) : cl h ⟨x.bs, 1, none⟩ = some (.int .i64 x.W) := by rw [k.box.cl]; rfl
theorem SolOk.ct (k : SolOk x d h) : cl h ⟨x.bs, 2, none⟩ = some (.slice x.tb.a x.tb.n x.tb.c) := by rw [k.box.cl]; rfl
theorem SolOk.co (k : SolOk x d h) : cl h ⟨x.bs, 3, none⟩ = some (.slice (some ⟨x.ob, 0, none⟩) x.n x.n) := by rw [k.box.cl]; rfl
theorem SolOk.cd (k : SolOk x d h) : cl h ⟨x.bs, 4, none⟩ = some (.slice d.td.a d.td.n d.td.c) := by rw [k.box.cl]; rfl
theorem SolOk.ci (k : SolOk x d h) : cl h ⟨x.bs, 5, none⟩ = some (.slice (some ⟨x.ib, 0, none⟩) x.n x.n) := by rw [k.box.cl]; rfl
theorem SolOk.get (k : SolOk x d h) {i : Nat} (hi : i < x.n) {K : Sv → Prop} (kk : K ⟨some ⟨x.rb i, 0, none⟩, x.nw, x.nw⟩) : ixS x.tb i fun q => ldS h (q.add ((i : Int).toNat * 1)) K := by
  have hr := k.tbl.row
  rcases k.tbl.mem with ⟨_, e, _⟩ | ⟨g, cur, e, _⟩
  · have := k.tlen; omega
  · rw [e] at hr
    have := hr i (.slice (some ⟨x.rb i, 0, none⟩) x.nw x.nw) (by simp [List.getElem?_range hi])
    exact ⟨_, e, by omega, by rw [k.tlen]; omega, ⟨some ⟨x.rb i, 0, none⟩, x.nw, x.nw⟩, by rw [Int.toNat_natCast, Nat.mul_one]; exact this, kk⟩
theorem SolOk.wlt (k : SolOk x d h) {b : Nat} (hb : d.w b ≠ 0) : b < h.size := by
  rcases Nat.lt_or_ge b h.size with e | e
  · exact e
  · exact absurd (k.w0 b e) hb

/-- one row turned -/
theorem SolOk.setRow (k : SolOk x d h) {i : Nat} (hi : i < x.n) {f : Nat → Bool} (fr : Fr (fun b => b = x.rb i) h h') (W : WordsAt h' (x.rb i) x.nw f) : SolOk x { d with S := fun j => if j = i then f else d.S j } h' := by
  have wi := k.w6 i hi
  have no : ∀ b, d.w b ≠ 6 + 2 * i → b ≠ x.rb i := fun b hb e => hb (by rw [e]; exact wi)
  obtain ⟨cs, c1, c2, c3⟩ := k.obk
  refine ⟨fr.blk k.box (no _ (by rw [k.w1]; omega)), k.tbl.frame fr fun b hb => no b (by rw [k.w2 b hb]; omega), fun j hj => ?_,
    ⟨cs, fr.blk c1 (no _ (by rw [k.w3]; omega)), c2, c3⟩, fun j hj => (k.lst j hj).frame fr fun b hb => no b (by rw [k.w7 j hj b hb]; omega), k.tod.frame fr fun b hb => no b (by rw [k.w5 b hb]; omega),
    k.inn.frame fr (no _ (by rw [k.w4]; omega)), fun b hb => k.w0 b (by have := fr.size; omega), k.w1, k.w2, k.w3, k.w4, k.w5, k.w6, k.w7⟩
  dsimp only
  by_cases e : j = i
  · subst e; rw [if_pos rfl]; exact W
  · rw [if_neg e]; exact (k.row j hj).frame fr (no _ (by rw [k.w6 j hj]; omega))
/-- the marks turned -/
theorem SolOk.setIn (k : SolOk x d h) {F : Nat → Bool} (fr : Fr (fun b => b = x.ib) h h') (B : BoolsAt h' x.ib x.n F) : SolOk x { d with F := F } h' := by
  have no : ∀ b, d.w b ≠ 4 → b ≠ x.ib := fun b hb e => hb (by rw [e]; exact k.w4)
  obtain ⟨cs, c1, c2, c3⟩ := k.obk
  exact ⟨fr.blk k.box (no _ (by rw [k.w1]; omega)), k.tbl.frame fr fun b hb => no b (by rw [k.w2 b hb]; omega), fun j hj => (k.row j hj).frame fr (no _ (by rw [k.w6 j hj]; omega)),
    ⟨cs, fr.blk c1 (no _ (by rw [k.w3]; omega)), c2, c3⟩, fun j hj => (k.lst j hj).frame fr fun b hb => no b (by rw [k.w7 j hj b hb]; omega), k.tod.frame fr fun b hb => no b (by rw [k.w5 b hb]; omega),
    B, fun b hb => k.w0 b (by have := fr.size; omega), k.w1, k.w2, k.w3, k.w4, k.w5, k.w6, k.w7⟩
/-- whose the blocks are, when some are new -/
def wNew (w : Nat → Nat) (lo hi c : Nat) (b : Nat) : Nat := if lo ≤ b ∧ b < hi then c else w b
theorem wNew_old {w : Nat → Nat} {lo hi c b : Nat} (h : b < lo) : wNew w lo hi c b = w b := by unfold wNew; rw [if_neg (by omega)]
theorem wNew_in {w : Nat → Nat} {lo hi c b : Nat} (h1 : lo ≤ b) (h2 : b < hi) : wNew w lo hi c b = c := by unfold wNew; rw [if_pos ⟨h1, h2⟩]
theorem wNew_hi {w : Nat → Nat} {lo hi c b : Nat} (h2 : hi ≤ b) : wNew w lo hi c b = w b := by unfold wNew; rw [if_neg (by omega)]
/-- what is to do turned: the new slice made, the box written -/
theorem SolOk.setTod (k : SolOk x d h) {h3 : Heap} {td : Sv} {tl : List Nat} (o : Own h3 0 1 td (natI tl)) (f3 : Fr d.td.own h h3) (hown : ∀ b, td.own b → d.td.own b ∨ h.size ≤ b) {K : Heap → Prop}
    (kk : ∀ h', SolOk x { d with td := td, tl := tl, w := wNew d.w h.size h3.size 5 } h' → Fr (fun b => d.w b ≠ 0) h h' → h'.size = h3.size → K h') : sto h3 ⟨x.bs, 4, none⟩ (.slice td.a td.n td.c) K := by
  have no : ∀ b, d.w b ≠ 5 → ¬ d.td.own b := fun b hb e => hb (k.w5 b e)
  have b3 := f3.blk k.box (no _ (by rw [k.w1]; omega))
  refine sto_i b3 (by show 4 < 6; omega) (kk _ ?_ ?_ (by rw [sc_size]))
  · have f4 : Fr (fun b => b = x.bs) h3 (sc h3 ⟨x.bs, 4, none⟩ (.slice td.a td.n td.c)) := Fr.scb _ _ _ _
    have b4 := b3.sc 4 (.slice td.a td.n td.c)
    have z4 : (sc h3 ⟨x.bs, 4, none⟩ (.slice td.a td.n td.c)).size = h3.size := by rw [sc_size]
    generalize sc h3 ⟨x.bs, 4, none⟩ (.slice td.a td.n td.c) = h4 at *
    have ne : ∀ b, d.w b ≠ 1 → b ≠ x.bs := fun b hb e => hb (by rw [e]; exact k.w1)
    have hs := f3.size
    obtain ⟨cs, c1, c2, c3⟩ := k.obk
    have old : ∀ b, d.w b ≠ 0 → wNew d.w h.size h3.size 5 b = d.w b := fun b hb => wNew_old (k.wlt hb)
    refine ⟨b4, (k.tbl.frame f3 fun b hb => no b (by rw [k.w2 b hb]; omega)).frame f4 fun b hb => ne b (by rw [k.w2 b hb]; omega), fun j hj => ((k.row j hj).frame f3 (no _ (by rw [k.w6 j hj]; omega))).frame f4 (ne _ (by rw [k.w6 j hj]; omega)),
      ⟨cs, f4.blk (f3.blk c1 (no _ (by rw [k.w3]; omega))) (ne _ (by rw [k.w3]; omega)), c2, c3⟩, fun j hj => ((k.lst j hj).frame f3 fun b hb => no b (by rw [k.w7 j hj b hb]; omega)).frame f4 fun b hb => ne b (by rw [k.w7 j hj b hb]; omega),
      o.frame f4 fun b hb e => ?_, (k.inn.frame f3 (no _ (by rw [k.w4]; omega))).frame f4 (ne _ (by rw [k.w4]; omega)), fun b hb => ?_, ?_, fun b hb => ?_, ?_, ?_, fun b hb => ?_, fun i hi => ?_, fun i hi b hb => ?_⟩
    · rcases hown b hb with h1 | h1
      · have := k.w5 b h1
        rw [e, k.w1] at this
        omega
      · have := k.box.lt; omega
    · dsimp only
      rw [wNew_hi (by omega)]; exact k.w0 b (by omega)
    · dsimp only
      rw [old _ (by rw [k.w1]; omega)]; exact k.w1
    · dsimp only
      rw [old _ (by rw [k.w2 b hb]; omega)]; exact k.w2 b hb
    · dsimp only
      rw [old _ (by rw [k.w3]; omega)]; exact k.w3
    · dsimp only
      rw [old _ (by rw [k.w4]; omega)]; exact k.w4
    · dsimp only
      rcases hown b hb with h1 | h1
      · rw [old _ (by rw [k.w5 b h1]; omega)]; exact k.w5 b h1
      · exact wNew_in h1 (o.ge hb).2
    · dsimp only
      rw [old _ (by rw [k.w6 i hi]; omega)]; exact k.w6 i hi
    · dsimp only
      rw [old _ (by rw [k.w7 i hi b hb]; omega)]; exact k.w7 i hi b hb
  · exact (f3.mono fun i _ hi => by rw [k.w5 i hi]; omega).trans' (Fr.scb _ _ _ _) fun i _ e => by subst e; rw [k.w1]; omega
/-- one list turned: the new slice made, the table of lists written -/
theorem SolOk.setOut (k : SolOk x d h) {r : Nat} (hr : r < x.n) {h3 : Heap} {s : Sv} {l : List Nat} (o : Own h3 0 1 s (natI l)) (f3 : Fr (d.os r).own h h3) (hown : ∀ b, s.own b → (d.os r).own b ∨ h.size ≤ b) {K : Heap → Prop}
    (kk : ∀ h', SolOk x { d with os := fun i => if i = r then s else d.os i, ol := fun i => if i = r then l else d.ol i, w := wNew d.w h.size h3.size (7 + 2 * r) } h' → Fr (fun b => d.w b ≠ 0) h h' → h'.size = h3.size → K h') : sto h3 ⟨x.ob, r, none⟩ (.slice s.a s.n s.c) K := by
  have no : ∀ b, d.w b ≠ 7 + 2 * r → ¬ (d.os r).own b := fun b hb e => hb (k.w7 r hr b e)
  obtain ⟨cs, c1, c2, c3⟩ := k.obk
  have b3 := f3.blk c1 (no _ (by rw [k.w3]; omega))
  refine sto_i b3 (by omega) (kk _ ?_ ?_ (by rw [sc_size]))
  · have f4 : Fr (fun b => b = x.ob) h3 (sc h3 ⟨x.ob, r, none⟩ (.slice s.a s.n s.c)) := Fr.scb _ _ _ _
    have b4 := b3.sc r (.slice s.a s.n s.c)
    have z4 : (sc h3 ⟨x.ob, r, none⟩ (.slice s.a s.n s.c)).size = h3.size := by rw [sc_size]
    generalize sc h3 ⟨x.ob, r, none⟩ (.slice s.a s.n s.c) = h4 at *
    have ne : ∀ b, d.w b ≠ 3 → b ≠ x.ob := fun b hb e => hb (by rw [e]; exact k.w3)
    have hs := f3.size
    have old : ∀ b, d.w b ≠ 0 → wNew d.w h.size h3.size (7 + 2 * r) b = d.w b := fun b hb => wNew_old (k.wlt hb)
    refine ⟨f4.blk (f3.blk k.box (no _ (by rw [k.w1]; omega))) (ne _ (by rw [k.w1]; omega)), (k.tbl.frame f3 fun b hb => no b (by rw [k.w2 b hb]; omega)).frame f4 fun b hb => ne b (by rw [k.w2 b hb]; omega),
      fun j hj => ((k.row j hj).frame f3 (no _ (by rw [k.w6 j hj]; omega))).frame f4 (ne _ (by rw [k.w6 j hj]; omega)), ⟨_, b4, by simp [c2], fun j hj => ?_⟩, fun j hj => ?_,
      (k.tod.frame f3 fun b hb => no b (by rw [k.w5 b hb]; omega)).frame f4 fun b hb => ne b (by rw [k.w5 b hb]; omega), (k.inn.frame f3 (no _ (by rw [k.w4]; omega))).frame f4 (ne _ (by rw [k.w4]; omega)),
      fun b hb => ?_, ?_, fun b hb => ?_, ?_, ?_, fun b hb => ?_, fun i hi => ?_, fun i hi b hb => ?_⟩
    · rw [Array.getElem?_setIfInBounds]
      by_cases e : r = j
      · subst e; simp [c2, hr]
      · have e' : ¬ j = r := fun h => e h.symm
        simp [e, e', c3 j hj]
    · dsimp only
      by_cases e : j = r
      · subst e
        rw [if_pos rfl, if_pos rfl]
        refine o.frame f4 fun b hb e => ?_
        rcases hown b hb with h1 | h1
        · have := k.w7 j hj b h1
          rw [e, k.w3] at this
          omega
        · have := c1.lt; omega
      · rw [if_neg e, if_neg e]
        exact ((k.lst j hj).frame f3 fun b hb => no b (by rw [k.w7 j hj b hb]; omega)).frame f4 fun b hb => ne b (by rw [k.w7 j hj b hb]; omega)
    · dsimp only
      rw [wNew_hi (by omega)]; exact k.w0 b (by omega)
    · dsimp only
      rw [old _ (by rw [k.w1]; omega)]; exact k.w1
    · dsimp only
      rw [old _ (by rw [k.w2 b hb]; omega)]; exact k.w2 b hb
    · dsimp only
      rw [old _ (by rw [k.w3]; omega)]; exact k.w3
    · dsimp only
      rw [old _ (by rw [k.w4]; omega)]; exact k.w4
    · dsimp only
      rw [old _ (by rw [k.w5 b hb]; omega)]; exact k.w5 b hb
    · dsimp only
      rw [old _ (by rw [k.w6 i hi]; omega)]; exact k.w6 i hi
    · dsimp only at hb ⊢
      by_cases e : i = r
      · subst e
        rw [if_pos rfl] at hb
        rcases hown b hb with h1 | h1
        · rw [old _ (by rw [k.w7 i hi b h1]; omega)]; exact k.w7 i hi b h1
        · exact wNew_in h1 (o.ge hb).2
      · rw [if_neg e] at hb
        rw [old _ (by rw [k.w7 i hi b hb]; omega)]; exact k.w7 i hi b hb
  · exact (f3.mono fun i _ hi => by rw [k.w7 r hr i hi]; omega).trans' (Fr.scb _ _ _ _) fun i _ e => by subst e; rw [k.w3]; omega
end
end Go.Proofs.YtgbmihnainbgiaaDoor

/-
  A small struct's ways, and the pairs that they make.
-/
import Derived.Test.YteaidgpiolakcaaW3
namespace Go.Proofs.Yteaidgpiolakcaa
open Go Go.Lf
set_option linter.unusedVariables false

theorem WAt.ways {Q : Nat → Prop} {h : Heap} {w : Option Nat} {W : List (ByteArray × List Int)} (x : WAt Q h w W) : pairs.WaysAt Q h w W := by
  obtain ⟨es, e, m, q, k⟩ := x
  exact ⟨es, e, m, q, fun e he => (k e he).1⟩
def tI : Ty := .mk 1 ⟨#[]⟩ false 0 [] []
def tR : Ty := .mk 7 ⟨#[]⟩ false 1 [] [tI]
abbrev nZ : ByteArray := ⟨#[90]⟩
def tZ (A : List Int) : Ty := .mk 5 nZ false 0 A []
def dsZ : List Df := [⟨nZ, 1, [], [tR]⟩]
theorem or01 : bitsI .or .i64 0 1 = 1 := by decide
theorem seeR (W : List (ByteArray × List Int)) : seeW 1 [] W tR 1 [0] = [1] := by
  have e1 : headW 1 [] W 7 ⟨#[]⟩ 1 [] 1 [0] = [1] := by simp [headW, lifeW, orAt, or01]
  have e2 : innerW W 7 ⟨#[]⟩ false 0 1 0 = 1 := by simp [innerW]
  have e4 : ∀ w out, seeW 1 [] W tI w out = out := by
    intro w out
    unfold tI
    rw [seeW_mk]
    simp [argsW, headW]
  unfold tR
  rw [seeW_mk, e1]
  simp only [argsW, e4]
theorem onceZ (W : List (ByteArray × List Int)) : onceW W dsZ = [(nZ, [1])] := by
  show [(nZ, onceD W ⟨nZ, 1, [], [tR]⟩)] = _
  have : onceD W ⟨nZ, 1, [], [tR]⟩ = [1] := seeR W
  rw [this]
theorem it1 : itW dsZ 1 = [(nZ, [1])] := onceZ _
theorem it2 : itW dsZ 2 = [(nZ, [1])] := onceZ _
theorem eqZ1 : eqW (itW dsZ 2) (itW dsZ 1) = true := by rw [it1, it2]; decide
theorem eqZ0 : ∀ k, k < 1 → eqW (itW dsZ (k + 1)) (itW dsZ k) = false := by
  intro k hk
  obtain rfl : k = 0 := by omega
  rw [it1]
  show eqW _ [(nZ, [0])] = false
  decide
theorem same_Z {A B : List Int} (h : A.length = B.length) : same (tZ A) (tZ B) = true := by
  unfold tZ
  rw [same_mk]
  simp [h, sameA]
theorem small_Z {A : List Int} (h : A.length ≤ 6) : small 5 (tZ A) = true := by
  show (decide ((([] : List Ty)).length ≤ 4) && decide (A.length ≤ 6) && decide (nZ.size ≤ 60) && (([] : List Ty)).all (small 4)) = true
  simp [h]; decide
theorem see_Z1 : pairs.seeL (pairs.ofW (itW dsZ 1)) (tZ [1]) 1 (tZ [2]) = [(1, 2)] := by
  rw [it1]
  unfold tZ
  rw [pairs.seeL_mk, if_pos rfl]
  have e : pairs.thr 1 (pairs.ofW [(nZ, [1])] nZ 0) = 1 := by decide
  have e2 : pairs.lifeL 1 2 1 = [(1, 2)] := by decide
  simp only [pairs.regsL, pairs.seeA, e, e2, List.append_nil]
theorem varied_spec (h : Heap) : CallsH Try.prog 4 #[] h (fun x h' => Grow h h' ∧ x = .bool true) := by
  apply F4
  unfold L4
  rintro s3 h1 rfl rfl
  have k1 := blk.new h (tvs ⟨1, ⟨#[]⟩, false, 0, ⟨none, 0, 0⟩, ⟨none, 0, 0⟩⟩) 32
  have f1 : Grow h (h.push (.cells (tvs ⟨1, ⟨#[]⟩, false, 0, ⟨none, 0, 0⟩, ⟨none, 0, 0⟩⟩) 32)) := Fr.push _ _ _
  have z1 : (h.push (.cells (tvs ⟨1, ⟨#[]⟩, false, 0, ⟨none, 0, 0⟩, ⟨none, 0, 0⟩⟩) 32)).size = h.size + 1 := by simp
  generalize h.push (.cells (tvs ⟨1, ⟨#[]⟩, false, 0, ⟨none, 0, 0⟩, ⟨none, 0, 0⟩⟩) 32) = h1 at *
  refine newz fun h3 b3 f3 z3 => sto6 (v := ⟨7, ⟨#[]⟩, false, 1, ⟨none, 0, 0⟩, ⟨some ⟨h.size, 0, none⟩, 1, 1⟩⟩) b3 rfl fun h4 b4 f4 => rd6 (Tv6.blk b4) ?_
  rintro s8 h5 rfl rfl
  have k5 := blk.new h4 (tvs ⟨7, ⟨#[]⟩, false, 1, ⟨none, 0, 0⟩, ⟨some ⟨h.size, 0, none⟩, 1, 1⟩⟩) 32
  have f5 : Grow h4 (h4.push (.cells (tvs ⟨7, ⟨#[]⟩, false, 1, ⟨none, 0, 0⟩, ⟨some ⟨h.size, 0, none⟩, 1, 1⟩⟩) 32)) := Fr.push _ _ _
  have z5 : (h4.push (.cells (tvs ⟨7, ⟨#[]⟩, false, 1, ⟨none, 0, 0⟩, ⟨some ⟨h.size, 0, none⟩, 1, 1⟩⟩) 32)).size = h4.size + 1 := by simp
  generalize h4.push (.cells (tvs ⟨7, ⟨#[]⟩, false, 1, ⟨none, 0, 0⟩, ⟨some ⟨h.size, 0, none⟩, 1, 1⟩⟩) 32) = h5 at *
  rintro s10 h6 rfl rfl
  have k6 := blk.new h5 (dvs ⟨nZ, 1, ⟨none, 0, 0⟩, ⟨some ⟨h4.size, 0, none⟩, 1, 1⟩⟩) 41
  have f6 : Grow h5 (h5.push (.cells (dvs ⟨nZ, 1, ⟨none, 0, 0⟩, ⟨some ⟨h4.size, 0, none⟩, 1, 1⟩⟩) 41)) := Fr.push _ _ _
  have z6' : (h5.push (.cells (dvs ⟨nZ, 1, ⟨none, 0, 0⟩, ⟨some ⟨h4.size, 0, none⟩, 1, 1⟩⟩) 41)).size = h5.size + 1 := by simp
  generalize h5.push (.cells (dvs ⟨nZ, 1, ⟨none, 0, 0⟩, ⟨some ⟨h4.size, 0, none⟩, 1, 1⟩⟩) 41) = h6 at *
  have g14 : Grow h1 h4 := f3.trans' f4 fun i hi e => by omega
  have g16 : Grow h1 h6 := g14.trans (f5.trans f6)
  have s16 := g16.size
  have s34 := f4.size
  have K1 := g16.blk k1 fun h => h
  have K5 := f6.blk k5 fun h => h
  have g6 : Grow h h6 := f1.trans g16
  let Q : Nat → Prop := fun b => b < h6.size
  have t3 : TyAt Q h6 tI ⟨1, ⟨#[]⟩, false, 0, ⟨none, 0, 0⟩, ⟨none, 0, 0⟩⟩ := tyAt_iff.2 ⟨rfl, rfl, rfl, rfl, IntsC.nil _ _, rfl, fun j hj => by simp at hj⟩
  have t2 : TyAt Q h6 tR ⟨7, ⟨#[]⟩, false, 1, ⟨none, 0, 0⟩, ⟨some ⟨h.size, 0, none⟩, 1, 1⟩⟩ := tyAt_iff.2 ⟨rfl, rfl, rfl, rfl, IntsC.nil _ _, rfl, fun j hj => by
    obtain rfl : j = 0 := by simp at hj; omega
    refine ⟨_, _, rfl, by show h.size < h6.size; omega, ?_, t3⟩
    rw [Nat.zero_mul, add_zero]
    exact Tv6.blk K1⟩
  have tF : TyAt Q h6 (tNil [tR]) ⟨0, ⟨#[]⟩, false, 0, ⟨none, 0, 0⟩, ⟨some ⟨h4.size, 0, none⟩, 1, 1⟩⟩ := tyAt_iff.2 ⟨rfl, rfl, rfl, rfl, IntsC.nil _ _, rfl, fun j hj => by
    obtain rfl : j = 0 := by simp at hj; omega
    refine ⟨_, _, rfl, by show h4.size < h6.size; omega, ?_, t2⟩
    rw [Nat.zero_mul, add_zero]
    exact Tv6.blk K5⟩
  have hds : DsAt Q h6 ⟨some ⟨h5.size, 0, none⟩, 1, 1⟩ dsZ := by
    refine ⟨rfl, fun i hi => ?_⟩
    obtain rfl : i = 0 := by simp [dsZ] at hi; omega
    refine ⟨_, ⟨nZ, 1, ⟨none, 0, 0⟩, ⟨some ⟨h4.size, 0, none⟩, 1, 1⟩⟩, rfl, by show h5.size < h6.size; omega, ?_, ⟨rfl, rfl, ⟨rfl, fun i hi => by simp [dsZ] at hi⟩, tF⟩⟩
    rw [Nat.zero_mul, add_zero]
    exact Dv4.blk k6
  have hsmall : ∀ d ∈ dsZ, SmD d := by
    intro d hd
    obtain rfl : d = ⟨nZ, 1, [], [tR]⟩ := by simpa [dsZ] using hd
    refine ⟨by decide, by decide, by simp, by simp, fun t ht => ?_⟩
    obtain rfl : t = tR := by simpa using ht
    have : small 2 tR = true := by decide
    exact small_ups 2 98 tR this
  refine cal_of (find_spec (K := 1) (fun b hb => hb) hds hsmall (by simp [dsZ]) eqZ1 eqZ0) ?_
  rintro _ h7 ⟨f7, m, rfl, x7⟩
  refine ⟨some m, rfl, ?_⟩
  rintro s15 h8 rfl rfl
  have k8 := blk.new h7 #[Value.int .i64 1] 3
  have f8 : Grow h7 (h7.push (.cells #[Value.int .i64 1] 3)) := Fr.push _ _ _
  have z8 : (h7.push (.cells #[Value.int .i64 1] 3)).size = h7.size + 1 := by simp
  generalize h7.push (.cells #[Value.int .i64 1] 3) = h8 at *
  rintro s17 h9 rfl rfl
  have k9 := blk.new h8 #[Value.int .i64 2] 3
  have f9 : Grow h8 (h8.push (.cells #[Value.int .i64 2] 3)) := Fr.push _ _ _
  have z9 : (h8.push (.cells #[Value.int .i64 2] 3)).size = h8.size + 1 := by simp
  generalize h8.push (.cells #[Value.int .i64 2] 3) = h9 at *
  have K8 := f9.blk k8 fun h => h
  have hA : ∀ (b x : Int) (n : Nat), n < h9.size → blk h9 n #[Value.int .i64 x] → TyAt (fun b => b < h9.size) h9 (tZ [x]) ⟨5, nZ, false, 0, ⟨some ⟨n, 0, none⟩, 1, 1⟩, ⟨none, 0, 0⟩⟩ := by
    intro b x n hn kn
    refine tyAt_iff.2 ⟨rfl, rfl, rfl, rfl, ⟨⟨rfl, fun i hi => ?_⟩, Nat.le_refl _⟩, rfl, fun j hj => by simp at hj⟩
    obtain rfl : i = 0 := by simp at hi; omega
    exact ⟨_, rfl, hn, by rw [Nat.zero_mul, add_zero, kn.cl]; rfl⟩
  have hw9 := ((x7.at_.fr (f8.trans f9) fun _ _ h => h).weak fun b hb hl => hl).ways
  refine cal_of (pairs.pairs_spec (tZ [1]) (tZ [2]) 5 (by omega) (small_Z (by simp)) ⟨5, nZ, false, 0, ⟨some ⟨h7.size, 0, none⟩, 1, 1⟩, ⟨none, 0, 0⟩⟩ ⟨5, nZ, false, 0, ⟨some ⟨h8.size, 0, none⟩, 1, 1⟩, ⟨none, 0, 0⟩⟩ h9 (hA 0 1 _ (by omega) K8) (hA 0 2 _ (by omega) k9) hw9) ?_
  rintro _ h10 ⟨f10, hh⟩
  rcases hh with ⟨-, s, rfl, o⟩ | ⟨hs, -⟩
  rotate_left
  · rw [same_Z (by simp)] at hs; cases hs
  rw [see_Z1] at o
  have g10 := g6.trans (f7.trans (f8.trans (f9.trans f10)))
  have hn : s.n = 1 := by have := o.len; simp [pairs.prs] at this; omega
  refine ⟨_, rfl, _, rfl, s, rfl, _, rfl, true, rfl, ?_⟩
  refine ⟨fun b => b = true, ?_, ?_⟩
  · refine ⟨fun _ => ?_, fun e => by rw [hn] at e; cases e⟩
    have hr := o.row
    rcases o.mem with ⟨_, e, _⟩ | ⟨g, cur, ea, _⟩
    · omega
    rw [ea] at hr
    have c0 := hr 0 _ rfl
    have c1 := hr 1 _ rfl
    rw [add_zero] at c0
    exact ⟨_, ea, by decide, by rw [hn]; decide, 1, 2, by simpa [add_zero] using c0, by simpa [add_zero] using c1, rfl⟩
  · rintro _ rfl
    exact ⟨g10, rfl⟩
end Go.Proofs.Yteaidgpiolakcaa

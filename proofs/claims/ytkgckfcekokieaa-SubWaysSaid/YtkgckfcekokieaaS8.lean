/-
  The laws on cases: SubThrough, SubBoth, SubWays walked.
-/
import Derived.Test.YtkgckfcekokieaaS7
import Derived.Test.YtkgckfcekokieaaLiftK
namespace Go.Proofs.Ytkgckfcekokieaa
open Go Go.Lf
set_option linter.unusedVariables false

theorem Pre.grow : Pre (fun a b : Heap => Grow a b) := ⟨fun h => Fr.refl _ h, fun _ _ _ x y => x.trans y, fun _ _ x => x.size⟩
theorem own_add {b o n : Nat} : (⟨b, o, none⟩ : Addr).add n = ⟨b, o + n, none⟩ := add_plain b o n

/-- the cells of a case -/
abbrev caseC (v : Tv) (sx sy sz : Sv) (b0 b1 b2 b3 b4 b5 b6 b7 f : Int) : Array Value := #[.int .i64 v.k, .string v.nm, .bool v.mu, .int .i64 v.r, .slice v.rs.a v.rs.n v.rs.c, .slice v.az.a v.az.n v.az.c,
  .slice sx.a sx.n sx.c, .slice sy.a sy.n sy.c, .slice sz.a sz.n sz.c, .int .u64 b0, .int .u64 b1, .int .u64 b2, .int .u64 b3, .int .u64 b4, .int .u64 b5, .int .u64 b6, .int .u64 b7, .int .u64 f]
section
variable {v : Tv} {sx sy sz : Sv} {b0 b1 b2 b3 b4 b5 b6 b7 f : Int} {h : Heap} {b : Nat}
theorem case_ty (k : blk h b (caseC v sx sy sz b0 b1 b2 b3 b4 b5 b6 b7 f)) : Tv6 h ⟨b, 0, none⟩ v := by
  unfold Tv6
  simp only [add_plain, k.cl]
  exact ⟨rfl, rfl, rfl, rfl, rfl, rfl⟩
theorem case_sets (k : blk h b (caseC v sx sy sz b0 b1 b2 b3 b4 b5 b6 b7 f)) : USAt h ⟨some ((⟨b, 0, none⟩ : Addr).add 9), 8, 8⟩ [b0, b1, b2, b3, b4, b5, b6, b7] := by
  refine ⟨rfl, fun i hi => ⟨_, rfl, ?_⟩⟩
  rw [add_plain, add_plain, k.cl]
  match i, hi with
  | 0, _ => rfl
  | 1, _ => rfl
  | 2, _ => rfl
  | 3, _ => rfl
  | 4, _ => rfl
  | 5, _ => rfl
  | 6, _ => rfl
  | 7, _ => rfl
end
def allB (bs : List Int) (l : List (Int × Int)) : Bool := l.all fun p => relB bs p.1 p.2
/-- a type with regions put in -/
noncomputable def regT (t : Ty) (ls : List Int) : Ty := withT t (rgs ls (allT t).length)

/-- what stands behind two or three types that were made: each in a box of its own -/
theorem ty_box {Q : Nat → Prop} {h h' : Heap} {t : Ty} {v : Tv} {c : Nat} (x : TyAt Q h t v) (f : Fr (fun b => b = c) h h') (hq : ¬ Q c) : TyAt Q h' t v := x.fr f fun b hb e => hq (e ▸ hb)

/-- the first part of each law on cases -/
theorem reg_call {h h6 : Heap} {v : Tv} {t : Ty} {s : Sv} {ls : List Int} (hv : TyAt (fun b => b < h6.size) h6 t v) (hs : IntsAt h6 s ls) (hsm : small 6 t = true) (g : Grow h6 h) :
    CallsH Try.prog 11 #[.agg (tvs v), .slice s.a s.n s.c] h (fun x h' => Grow h h' ∧ ∃ u : Tv, x = .agg (tvs u) ∧ TyAt (fun b => b < h6.size ∨ (h.size ≤ b ∧ b < h'.size)) h' (regT t ls) u) := by
  refine (regions_spec t 6 (by omega) hsm (fun b => b < h6.size) v h s ls (fun b hb => by have := g.size; omega) (hv.grow g) (hs.keep g fun _ _ h => h)).mono ?_
  rintro x h' ⟨f, u, e, y⟩
  exact ⟨f, u, e, y.weak fun b hb hl => hb.imp id fun h => ⟨h, hl⟩⟩
theorem regT_same (t : Ty) (xs ys : List Int) : same (regT t xs) (regT t ys) = true := same_with t _ _ (by rw [rgs_len]; exact Nat.le_refl _) (by rw [rgs_len]; exact Nat.le_refl _)
theorem regT_small {t : Ty} (h : small 6 t = true) (xs : List Int) : small 6 (regT t xs) = true := small_with 6 t _ h
/-- pairs of two such types -/
theorem pairs_reg {w : Option Nat} {ws : List (ByteArray × List Int)} {t : Ty} (hsm : small 6 t = true) (xs ys : List Int) (v v' : Tv) (h : Heap) (hv : TyAt (fun b => b < h.size) h (regT t xs) v) (hv' : TyAt (fun b => b < h.size) h (regT t ys) v') (hw : WaysAt (fun b => b < h.size) h w ws) :
    CallsH Try.prog 9 #[.map w, .agg (tvs v), .agg (tvs v')] h (fun x h' => Grow h h' ∧ ∃ s : Sv, x = .tuple #[.slice s.a s.n s.c, .bool true] ∧ Own h' h.size 2 s (prs (zipL (waysT (ofW ws) t 1) (rgs xs (allT t).length) (rgs ys (allT t).length)))) := by
  refine (pairs_spec _ _ 6 (by omega) (regT_small hsm xs) v v' h hv hv' hw).mono ?_
  rintro x h' ⟨f, H⟩
  rcases H with ⟨_, s, e, o⟩ | ⟨e, _⟩
  · refine ⟨f, s, e, ?_⟩
    have := see_with (ofW ws) t 1 (rgs xs (allT t).length) (rgs ys (allT t).length) (by rw [rgs_len]; exact Nat.le_refl _) (by rw [rgs_len]; exact Nat.le_refl _)
    rw [← this]; exact o
  · rw [regT_same] at e; cases e
theorem both_reg {w : Option Nat} {ws : List (ByteArray × List Int)} {t : Ty} (hsm : small 6 t = true) (xs ys : List Int) (v v' : Tv) (h : Heap) (hv : TyAt (fun b => b < h.size) h (regT t xs) v) (hv' : TyAt (fun b => b < h.size) h (regT t ys) v') (hw : WaysAt (fun b => b < h.size) h w ws) :
    CallsH Try.prog 13 #[.map w, .agg (tvs v), .agg (tvs v')] h (fun x h' => Grow h h' ∧ ∃ s : Sv, x = .tuple #[.slice s.a s.n s.c, .bool true] ∧ Own h' h.size 2 s (prs (zipL (waysT (ofW ws) t 3) (rgs xs (allT t).length) (rgs ys (allT t).length)))) := by
  refine (both_spec _ _ 6 (by omega) (regT_small hsm xs) v v' h hv hv' hw).mono ?_
  rintro x h' ⟨f, H⟩
  rcases H with ⟨_, s, e, o⟩ | ⟨e, _⟩
  · refine ⟨f, s, e, ?_⟩
    have := see_with (ofW ws) t 3 (rgs xs (allT t).length) (rgs ys (allT t).length) (by rw [rgs_len]; exact Nat.le_refl _) (by rw [rgs_len]; exact Nat.le_refl _)
    rw [← this]; exact o
  · rw [regT_same] at e; cases e
theorem big6 : bnd 6 ≤ 1000000 := by
  have h2 := @bnd8 6 (by omega)
  omega
theorem zip_len (of : ByteArray → Nat → Int) {t : Ty} (hsm : small 6 t = true) (w : Int) (xs ys : List Int) : (zipL (waysT of t w) (rgs xs (allT t).length) (rgs ys (allT t).length)).length ≤ 1000000 := by
  rw [← see_with of t w _ _ (by rw [rgs_len]; exact Nat.le_refl _) (by rw [rgs_len]; exact Nat.le_refl _)]
  exact Nat.le_trans (seeL_len of 6 _ w _ (small_with 6 t _ hsm)) big6
/-- does such a list hold of the sets? -/
theorem outl {B : Nat} {h : Heap} {s : Sv} {of : ByteArray → Nat → Int} {t : Ty} (hsm : small 6 t = true) {w : Int} {xs ys : List Int} {b0 b1 b2 b3 b4 b5 b6 b7 f : Int} {v : Tv} {sx sy sz : Sv} {c : Nat}
    (o : Own h B 2 s (prs (zipL (waysT of t w) (rgs xs (allT t).length) (rgs ys (allT t).length)))) (k : blk h c (caseC v sx sy sz b0 b1 b2 b3 b4 b5 b6 b7 f)) :
    CallsH Try.prog 12 #[.slice s.a s.n s.c, .slice (some ((⟨c, 0, none⟩ : Addr).add 9)) 8 8] h (fun x h' => h = h' ∧ x = .bool (allB [b0, b1, b2, b3, b4, b5, b6, b7] (zipL (waysT of t w) (rgs xs (allT t).length) (rgs ys (allT t).length)))) :=
  outlive_spec (s' := ⟨some ((⟨c, 0, none⟩ : Addr).add 9), 8, 8⟩) o (case_sets k) (zip_len of hsm w xs ys)
abbrev ofN (f : Nat) : ByteArray → Nat → Int := ofW [(⟨#[83]⟩, digs f 8)]
/-- what a case's three lists of pairs must hold -/
def throughOk (bs : List Int) (f : Nat) (t : Ty) (xs ys zs : List Int) : Prop :=
  let L := fun (a b : List Int) => allB bs (zipL (waysT (ofN f) t 1) (rgs a (allT t).length) (rgs b (allT t).length))
  L xs ys = true → L ys zs = true → L xs zs = true
end Go.Proofs.Ytkgckfcekokieaa

/-
  A type gone through (vary/V2 over ty/TyC).
-/
import Derived.Test.YteaidgpiolakcaaV1
import Derived.Test.YteaidgpiolakcaaTyC
namespace Go.Proofs.Yteaidgpiolakcaa
open Go Go.Lf
set_option linter.unusedVariables false

def nmIdx (nms : List ByteArray) (nm : ByteArray) : Option Nat := nms.findIdx? fun x => x.toList == nm.toList
theorem idx_spec {h : Heap} {nm : Sv} {nms : List ByteArray} (hn : nm.n = nms.length) (hat : ∀ i (hi : i < nms.length), ∃ p, nm.a = some p ∧ cl h (p.add (i * 1)) = some (.string nms[i])) (hsm : nms.length ≤ 1000000) (s : ByteArray) :
    CallsH Try.prog 18 #[.slice nm.a nm.n nm.c, .string s] h (fun v h' => h = h' ∧ v = .int .i64 (match nmIdx nms s with | some i => (i : Int) | none => -1)) := by
  apply F18
  unfold L18
  refine ⟨fun i => ∃ j : Nat, i = j ∧ j ≤ nms.length ∧ ∀ q (hq : q < nms.length), q < j → (nms[q].toList == s.toList) = false, fun i => nms.length - i.toNat, ⟨0, rfl, Nat.zero_le _, fun q _ h => absurd h (Nat.not_lt_zero _)⟩, ?_⟩
  rintro _ ⟨j, rfl, hj, hall⟩
  rw [hn]
  refine ifb_iff (q := j < nms.length) (by simp) (fun hl => ?_) (fun hl => ?_)
  · obtain ⟨p, e, c⟩ := hat j hl
    refine ⟨p, e, by omega, by rw [hn]; omega, _, by rw [Int.toNat_natCast]; exact c, ?_⟩
    refine ⟨fun he => ⟨rfl, ?_⟩, fun he => ⟨⟨j + 1, wrap_succ hl (by omega), hl, fun q hq hqj => ?_⟩, ?_⟩⟩
    · have he' : (nms[j].toList == s.toList) = true := by rw [BEq.comm]; exact he
      have : nmIdx nms s = some j := by
        unfold nmIdx
        rw [List.findIdx?_eq_some_iff_getElem]
        exact ⟨hl, he', fun q hq => by rw [hall q (by omega) hq]; simp⟩
      rw [this]
    · rcases Nat.lt_or_ge q j with h1 | h1
      · exact hall q hq h1
      · obtain rfl : q = j := by omega
        rw [BEq.comm]; exact he
    · rw [wrap_succ hl (by omega)]
      simp only [Int.toNat_natCast]
      omega
  · refine ⟨rfl, ?_⟩
    have : nmIdx nms s = none := by
      unfold nmIdx
      rw [List.findIdx?_eq_none_iff]
      intro y hy
      obtain ⟨q, hq, rfl⟩ := List.mem_iff_getElem.1 hy
      exact hall q hq (by omega)
    rw [this]
theorem nmIdx_lt {nms : List ByteArray} {nm : ByteArray} {i : Nat} (h : nmIdx nms nm = some i) : i < nms.length := by
  unfold nmIdx at h
  rw [List.findIdx?_eq_some_iff_getElem] at h
  exact h.1

/-! ### what a type says -/
def argsW (S : Ty → Int → List Int → List Int) (wf : Nat → Int) : Nat → List Ty → List Int → List Int
  | _, [], out => out
  | i, a :: az, out => argsW S wf (i + 1) az (S a (wf i) out)
theorem argsW_snoc (S : Ty → Int → List Int → List Int) (wf : Nat → Int) : ∀ (az : List Ty) (i : Nat) (a : Ty) (out : List Int), argsW S wf i (az ++ [a]) out = S a (wf (i + az.length)) (argsW S wf i az out)
  | [], i, a, out => rfl
  | b :: az, i, a, out => by
    simp only [List.cons_append, argsW, List.length_cons]
    rw [argsW_snoc S wf az (i + 1) a]
    congr 2
    omega
def regsW (L : Nat) (wf : Nat → Int) : Nat → List Int → List Int → List Int
  | _, [], out => out
  | i, r :: rs, out => regsW L wf (i + 1) rs (lifeW L out r (wf i))
theorem regsW_snoc (L : Nat) (wf : Nat → Int) : ∀ (rs : List Int) (i : Nat) (r : Int) (out : List Int), regsW L wf i (rs ++ [r]) out = lifeW L (regsW L wf i rs out) r (wf (i + rs.length))
  | [], i, a, out => rfl
  | b :: rs, i, a, out => by
    simp only [List.cons_append, regsW, List.length_cons]
    rw [regsW_snoc L wf rs (i + 1) a]
    congr 2
    omega
def parW (L : Nat) (tys : List ByteArray) (out : List Int) (nm : ByteArray) (way : Int) : List Int := match nmIdx tys nm with
  | some i => orAt out (L + i) way
  | none => out
section
variable (L : Nat) (tys : List ByteArray) (W : List (ByteArray × List Int))
def headW (k : Int) (nm : ByteArray) (r : Int) (rs : List Int) (way : Int) (out : List Int) : List Int :=
  if k = 9 then parW L tys out nm way else if k = 8 ∨ k = 7 then lifeW L out r way else if k = 5 then regsW L (fun i => throughF way (ofW W nm i)) 0 rs out else out
def innerW (k : Int) (nm : ByteArray) (mu : Bool) (n : Nat) (way : Int) (i : Nat) : Int :=
  if k = 7 ∧ mu = true then throughF way 3 else if k = 5 then throughF way (ofW W nm ((n + i : Nat) : Int)) else way
noncomputable def seeW : Ty → Int → List Int → List Int :=
  Ty.rec (motive_1 := fun _ => Int → List Int → List Int) (motive_2 := fun _ => (Nat → Int) → Nat → List Int → List Int)
    (fun k nm mu r rs az ih way out => ih (innerW W k nm mu rs.length way) 0 (headW L tys W k nm r rs way out))
    (fun _ _ out => out) (fun a _ ih1 ih2 wf i out => ih2 wf (i + 1) (ih1 (wf i) out))
theorem seeW_rec (az : List Ty) (wf : Nat → Int) (i : Nat) (out : List Int) : (Ty.rec_1 (motive_1 := fun _ => Int → List Int → List Int) (motive_2 := fun _ => (Nat → Int) → Nat → List Int → List Int)
    (fun k nm mu r rs az ih way out => ih (innerW W k nm mu rs.length way) 0 (headW L tys W k nm r rs way out))
    (fun _ _ out => out) (fun a _ ih1 ih2 wf i out => ih2 wf (i + 1) (ih1 (wf i) out)) az : (Nat → Int) → Nat → List Int → List Int) wf i out = argsW (seeW L tys W) wf i az out := by
  induction az generalizing i out with
  | nil => rfl
  | cons a az ih => rw [argsW, ← ih]; rfl
theorem seeW_mk (k : Int) (nm : ByteArray) (mu : Bool) (r : Int) (rs : List Int) (az : List Ty) (way : Int) (out : List Int) :
    seeW L tys W (.mk k nm mu r rs az) way out = argsW (seeW L tys W) (innerW W k nm mu rs.length way) 0 az (headW L tys W k nm r rs way out) := by
  rw [← seeW_rec]; rfl
end
section
variable {Q : Nat → Prop} {p : Nat} {dn : ByteArray} {L : Nat} {tn df : Sv} {w : Option Nat} {so : Sv} {B : Nat} {tys : List ByteArray} {W : List (ByteArray × List Int)}
/-- the finder has gone through a type -/
def SeeOk (Q : Nat → Prop) (p : Nat) (dn : ByteArray) (L : Nat) (tn df : Sv) (w : Option Nat) (so : Sv) (B : Nat) (tys : List ByteArray) (W : List (ByteArray × List Int)) (t : Ty) : Prop :=
  ∀ (n : Nat) (_ : n ≤ 100) (_ : small n t = true) (Qt : Nat → Prop) (v : Tv) (way : Int) (h : Heap) (out : List Int), (∀ b, Qt b → ¬ so.own b) → TyAt Qt h t v → FAt Q h p dn L tn df w so B tys W out →
    CallsH Try.prog 23 #[.pointer (some ⟨p, 0, none⟩), .agg (tvs v), .int .i64 way] h (fun _ h' => Fr so.own h h' ∧ FAt Q h' p dn L tn df w so B tys W (seeW L tys W t way out))
/-- the parts of a type, one by one -/
theorem parts_loop {k : Int} {nm : ByteArray} {mu : Bool} {r : Int} {rs : List Int} {az : List Ty} {v : Tv} {Qt : Nat → Prop} {m : Nat} (hm : m ≤ 100) (ih : ∀ a ∈ az, SeeOk Q p dn L tn df w so B tys W a) (hall : ∀ a ∈ az, small m a = true) (ha4 : az.length ≤ 4)
    (hQ : ∀ b, Qt b → ¬ so.own b) {h0 h : Heap} (hv : TyAt Qt h (.mk k nm mu r rs az) v) (f0 : Fr so.own h0 h) {out : List Int} (x : FAt Q h p dn L tn df w so B tys W out) (inner : Int) {R : Value → Heap → Prop}
    (hR : ∀ h', Fr so.own h0 h' → FAt Q h' p dn L tn df w so B tys W (argsW (seeW L tys W) (fun _ => inner) 0 az out) → R (.tuple #[]) h') :
    ∃ (I : Int → Heap → Prop) (mm : Int → Heap → Nat), I 0 h ∧ ∀ x68 h9, I x68 h9 →
      ifb (decide (x68 < ((v.az.n : Nat) : Int))) (
        ixS v.az x68 fun q70 =>
        ∃ (y : Int) (y1 : ByteArray) (y2 : Bool) (y3 : Int) (y4 : Sv) (y5 : Sv), cl h9 (q70.add ((x68 : Int).toNat * 6)) = some (.int .i64 y) ∧ cl h9 ((q70.add ((x68 : Int).toNat * 6)).add 1) = some (.string y1) ∧ cl h9 ((q70.add ((x68 : Int).toNat * 6)).add 2) = some (.bool y2) ∧ cl h9 ((q70.add ((x68 : Int).toNat * 6)).add 3) = some (.int .i64 y3) ∧ cl h9 ((q70.add ((x68 : Int).toNat * 6)).add 4) = some (.slice y4.a y4.n y4.c) ∧ cl h9 ((q70.add ((x68 : Int).toNat * 6)).add 5) = some (.slice y5.a y5.n y5.c) ∧
        new 32 z6 h9 fun p9 h10 =>
        stoA h10 p9 [.int .i64 y, .string y1, .bool y2, .int .i64 y3, .slice y4.a y4.n y4.c, .slice y5.a y5.n y5.c] fun h11 =>
        ∃ (z : Int) (z1 : ByteArray) (z2 : Bool) (z3 : Int) (z4 : Sv) (z5 : Sv), cl h11 p9 = some (.int .i64 z) ∧ cl h11 (p9.add 1) = some (.string z1) ∧ cl h11 (p9.add 2) = some (.bool z2) ∧ cl h11 (p9.add 3) = some (.int .i64 z3) ∧ cl h11 (p9.add 4) = some (.slice z4.a z4.n z4.c) ∧ cl h11 (p9.add 5) = some (.slice z5.a z5.n z5.c) ∧
        cal Try.prog 23 #[.pointer (some ⟨p, 0, none⟩), .agg #[.int .i64 z, .string z1, .bool z2, .int .i64 z3, .slice z4.a z4.n z4.c, .slice z5.a z5.n z5.c], .int .i64 inner] h11 fun u_5 h12 =>
        I (IntKind.i64.wrap (x68 + 1)) h12 ∧ mm (IntKind.i64.wrap (x68 + 1)) h12 < mm x68 h9) (
        R (.tuple #[]) h9) := by
  have e6 := (tyAt_iff.1 hv).2.2.2.2.2.1
  refine ⟨fun i h' => ∃ j : Nat, i = j ∧ j ≤ az.length ∧ Fr so.own h h' ∧ FAt Q h' p dn L tn df w so B tys W (argsW (seeW L tys W) (fun _ => inner) 0 (az.take j) out), fun i _ => az.length - i.toNat, ⟨0, rfl, Nat.zero_le _, Fr.refl _ _, x⟩, ?_⟩
  rintro _ h9 ⟨j, rfl, hj, f9, x9⟩
  refine ifb_iff (q := j < az.length) (by simp [e6]) (fun hl => ?_) (fun hl => ?_)
  · refine args_get (hv.fr f9 hQ) hl fun u hu => ?_
    refine newz fun h10 b10 f10 z10 => sto6 (v := u) b10 rfl fun h11 b11 f11 => ?_
    have g911 : Grow h9 h11 := f10.trans' f11 fun i hi e => by omega
    refine rd6 (Tv6.blk b11) ?_
    refine cal_of (ih _ (List.getElem_mem hl) m hm (hall _ (List.getElem_mem hl)) Qt u inner h11 _ hQ (hu.grow g911) (x9.fr g911)) ?_
    rintro _ h12 ⟨f12, x12⟩
    rw [wrap_succ hl (by omega)]
    refine ⟨⟨j + 1, rfl, hl, f9.trans ((g911.mono fun _ _ e => e.elim).trans f12), ?_⟩, by simp; omega⟩
    rw [List.take_succ_eq_append_getElem hl, argsW_snoc]
    exact x12
  · have hje : j = az.length := by omega
    subst hje
    rw [List.take_length] at x9
    exact hR h9 (f0.trans f9) x9
end
end Go.Proofs.Yteaidgpiolakcaa

/-
  Ways, and the pairs that two types ask for.
-/
import Derived.Test.YtkgckfcekokieaaS1
namespace Go.Proofs.Ytkgckfcekokieaa
open Go Go.Lf

section
variable {Q : Nat → Prop} {h : Heap}
theorem same_spec : ∀ (a b : Ty) (n : Nat) (_ : n ≤ 100) (_ : small n a = true) (v v' : Tv) (h : Heap), TyAt Q h a v → TyAt Q h b v' → CallsH Try.prog 15 #[.agg (tvs v), .agg (tvs v')] h (fun x h' => Grow h h' ∧ x = .bool (same a b)) := by
  intro a
  refine Ty.ind (P := fun a => ∀ (b : Ty) (n : Nat) (_ : n ≤ 100) (_ : small n a = true) (v v' : Tv) (h : Heap), TyAt Q h a v → TyAt Q h b v' → CallsH Try.prog 15 #[.agg (tvs v), .agg (tvs v')] h (fun x h' => Grow h h' ∧ x = .bool (same a b))) ?_ a
  intro k nm mu r rs az ih b n hn hsm v v' h hv hv'
  obtain ⟨k', nm', mu', r', rs', az'⟩ := b
  obtain ⟨n, rfl⟩ : ∃ m, n = m + 1 := by
    cases n with
    | zero => cases hsm
    | succ m => exact ⟨m, rfl⟩
  have hsm' : (decide (az.length ≤ 4) && decide (rs.length ≤ 6) && decide (nm.size ≤ 60) && az.all (small n)) = true := hsm
  simp only [Bool.and_eq_true, decide_eq_true_eq, List.all_eq_true] at hsm'
  obtain ⟨⟨⟨ha, _⟩, _⟩, hall⟩ := hsm'
  obtain ⟨e1, e2, e3, e4, e5, e6, e7⟩ := tyAt_iff.1 hv
  obtain ⟨d1, d2, d3, d4, d5, d6, d7⟩ := tyAt_iff.1 hv'
  apply F15
  unfold L15
  refine new6 (v := v) fun h1 b1 f1 _ => new6 (v := v') fun h2 b2 f2 _ => ?_
  have T1 := Tv6.blk (f2.blk b1 (fun h => h))
  have T2 := Tv6.blk b2
  refine ⟨_, T1.1, _, T2.1, ?_⟩
  refine ⟨fun x => x = ((k != k') || (nm.toList != nm'.toList)), ⟨fun e => ?_, fun e => ⟨_, T1.2.1, _, T2.2.1, ?_⟩⟩, ?_⟩
  · rw [e1, d1] at e; rw [e]; rfl
  · rw [e1, d1] at e; rw [e, e2, d2]; rfl
  rintro _ rfl
  refine ⟨fun x => x = ((k != k') || (nm.toList != nm'.toList) || (mu != mu')), ⟨fun e => ?_, fun e => ⟨_, T1.2.2.1, _, T2.2.2.1, ?_⟩⟩, ?_⟩
  · rw [e]; rfl
  · rw [e, e3, d3]; rfl
  rintro _ rfl
  rw [same_mk]
  refine ⟨fun e => ⟨f1.trans f2, by rw [e]; rfl⟩, fun e => ?_⟩
  rw [e, Bool.not_false, Bool.true_and]
  refine ⟨_, T1.1, ?_⟩
  refine ⟨fun x => x = (k != 5 || rs.length == rs'.length), ⟨fun e' => ?_, fun e' => ⟨_, T1.2.2.2.2.1, _, T2.2.2.2.2.1, ?_⟩⟩, ?_⟩
  · rw [e1] at e'; rw [e']; rfl
  · rw [e1] at e'; dsimp only; rw [e', e5.len, d5.len, Bool.eq_iff_iff]; simp
    omega
  rintro _ rfl
  refine ⟨fun x h' => Grow h2 h' ∧ x = ((k != 5 || rs.length == rs'.length) && sameA same az az'), ⟨fun e' => ⟨_, T1.2.2.2.2.2, _, T2.2.2.2.2.2, ?_⟩, fun e' => ⟨Fr.refl _ _, by rw [e']; rfl⟩⟩, ?_⟩
  · refine cal_of (eqf_spec (n := 4) k nm mu r rs az k' nm' mu' r' rs' az' v v' h2 (hv.grow (f1.trans f2)) (hv'.grow (f1.trans f2)) ha (by omega) fun a' ha' b' u u' h' hu hu' => ih a' ha' b' n (by omega) (hall a' ha') u u' h' hu hu') ?_
    rintro _ h3 ⟨f3, rfl⟩
    exact ⟨_, rfl, f3, by rw [e']; rfl⟩
  rintro _ h3 ⟨f3, rfl⟩
  exact ⟨f1.trans (f2.trans f3), rfl⟩

/-- pairs of ints az cells -/
def prs (l : List (Int × Int)) : List Value := l.flatMap fun p => [.int .i64 p.1, .int .i64 p.2]
theorem prs_len (l : List (Int × Int)) : (prs l).length = l.length * 2 := by
  induction l with
  | nil => rfl
  | cons a l ih => simp only [prs, List.flatMap_cons, List.length_append, List.length_cons, List.length_nil] at ih ⊢; omega
theorem prs_app (l m : List (Int × Int)) : prs (l ++ m) = prs l ++ prs m := by simp [prs]
theorem prs_get : ∀ (l : List (Int × Int)) (i : Nat) (hi : i < l.length), (prs l)[i * 2]? = some (.int .i64 l[i].1) ∧ (prs l)[i * 2 + 1]? = some (.int .i64 l[i].2)
  | a :: l, 0, _ => ⟨rfl, rfl⟩
  | a :: l, i + 1, hi => by
    have e : prs (a :: l) = [.int .i64 a.1, .int .i64 a.2] ++ prs l := rfl
    have := prs_get l i (by simpa using hi)
    rw [e, show (i + 1) * 2 = 2 + i * 2 by omega, show 2 + i * 2 + 1 = 2 + (i * 2 + 1) by omega]
    rw [List.getElem?_append_right (by simp), List.getElem?_append_right (by simp)]
    simpa [show 2 + (i * 2 + 1) - 2 = i * 2 + 1 by omega] using this

def lifeL (x y w : Int) : List (Int × Int) := (if (bitsI .and .i64 w 1 != 0) = true then [(x, y)] else []) ++ (if (bitsI .and .i64 w 2 != 0) = true then [(y, x)] else [])
theorem lifeL_len (x y w : Int) : (lifeL x y w).length ≤ 2 := by
  unfold lifeL; rw [List.length_append]; split <;> split <;> simp
/-- a pairer: its box, its list -/
structure PrAt (h : Heap) (B pb : Nat) (w : Option Nat) (s : Sv) (L : List (Int × Int)) : Prop where
  box : blk h pb #[.map w, .slice s.a s.n s.c]
  own : Own h B 2 s (prs L)
  lt : pb < B
  le : B ≤ h.size
theorem PrAt.n {h : Heap} {B pb : Nat} {w : Option Nat} {s : Sv} {L : List (Int × Int)} (x : PrAt h B pb w s L) : s.n = L.length := by
  have := x.own.len
  rw [prs_len] at this
  omega
/-- what a call of a pairer's methods leaves -/
def PrTo (h : Heap) (B pb : Nat) (w : Option Nat) (s : Sv) (L : List (Int × Int)) (h' : Heap) : Prop :=
  ∃ s', PrAt h' B pb w s' L ∧ Fr (fun b => b = pb ∨ s.own b) h h' ∧ ∀ b, s'.own b → s.own b ∨ h.size ≤ b
theorem PrTo.refl {h : Heap} {B pb : Nat} {w : Option Nat} {s : Sv} {L : List (Int × Int)} (x : PrAt h B pb w s L) : PrTo h B pb w s L h := ⟨s, x, Fr.refl _ _, fun _ h => .inl h⟩
theorem fr2 {h h1 h2 : Heap} {pb : Nat} {s s1 : Sv} (f : Fr (fun b => b = pb ∨ s.own b) h h1) (o : ∀ b, s1.own b → s.own b ∨ h.size ≤ b) (g : Fr (fun b => b = pb ∨ s1.own b) h1 h2) : Fr (fun b => b = pb ∨ s.own b) h h2 :=
  f.trans' g fun i hi e => e.imp id fun e => (o i e).elim id fun e => by omega
theorem own2 {h h1 : Heap} {s s1 s2 : Sv} (hs : h.size ≤ h1.size) (o : ∀ b, s1.own b → s.own b ∨ h.size ≤ b) (o2 : ∀ b, s2.own b → s1.own b ∨ h1.size ≤ b) : ∀ b, s2.own b → s.own b ∨ h.size ≤ b :=
  fun b hb => (o2 b hb).elim (o b) fun e => .inr (by omega)
/-- one pair more -/
theorem pr_app {B pb : Nat} {w : Option Nat} {s : Sv} {L : List (Int × Int)} (x : PrAt h B pb w s L) (hL : L.length ≤ 2000000) (a b : Int) {K : Heap → Prop}
    (k : ∀ h', PrTo h B pb w s (L ++ [(a, b)]) h' → K h') :
    nn (some (⟨pb, 0, none⟩ : Addr)) fun p13 => ldS h (p13.add 1) fun x15 => newS 35 #[.int .i64 a, .int .i64 b] 1 h fun s19 h1 => appS 35 (Value.agg #[Value.int .i64 0, Value.int .i64 0]).cells 2 16 h1 x15 s19 fun s20 h2 =>
      nn (some (⟨pb, 0, none⟩ : Addr)) fun p21 => sto h2 (p21.add 1) (.slice s20.a s20.n s20.c) fun h3 => K h3 := by
  refine ⟨_, rfl, s, by rw [add_plain, x.box.cl]; rfl, ?_⟩
  have hn := x.n
  refine app1 rfl x.own rfl (by simp [Value.oneCell']) x.le (by omega) (by omega) fun s' h' e1 o' f' hown => ?_
  refine ⟨_, rfl, ?_⟩
  have hb : ¬ s.own pb := fun e => by have := (x.own.ge e).1; have := x.lt; omega
  have hb' := f'.blk x.box hb
  dsimp only
  rw [add_plain]
  refine sto_i hb' (by simp) (k _ ⟨s', ⟨?_, ?_, x.lt, ?_⟩, ?_, hown⟩)
  · have := hb'.sc 1 (.slice s'.a s'.n s'.c)
    exact this
  · have e : prs (L ++ [(a, b)]) = prs L ++ #[Value.int .i64 a, .int .i64 b].toList := by rw [prs_app]; rfl
    rw [e]
    refine o'.frame (Fr.scb _ pb 1 _) fun q hq e => ?_
    subst e
    rcases hown q hq with e | e
    · exact hb e
    · have := x.lt; have := x.le; omega
  · rw [sc_size]; have := f'.size; have := x.le; omega
  · exact (f'.mono (T' := fun b => b = pb ∨ s.own b) fun _ _ e => .inr e).trans ((Fr.scb h' pb (0 + 1) (.slice s'.a s'.n s'.c)).mono fun _ _ e => .inl e)
theorem PrTo.after {B pb : Nat} {w : Option Nat} {s s1 : Sv} {L' : List (Int × Int)} {h h1 h2 : Heap} (f : Fr (fun b => b = pb ∨ s.own b) h h1) (o : ∀ b, s1.own b → s.own b ∨ h.size ≤ b) (y : PrTo h1 B pb w s1 L' h2) : PrTo h B pb w s L' h2 := by
  obtain ⟨s2, p2, f2, o2⟩ := y
  exact ⟨s2, p2, fr2 f o f2, own2 f.size o o2⟩
theorem life_spec {B pb : Nat} {w : Option Nat} {s : Sv} {L : List (Int × Int)} (x : PrAt h B pb w s L) (hL : L.length ≤ 1000000) (a b way : Int) :
    CallsH Try.prog 20 #[.pointer (some ⟨pb, 0, none⟩), .int .i64 a, .int .i64 b, .int .i64 way] h (fun _ h' => PrTo h B pb w s (L ++ lifeL a b way) h') := by
  apply F20
  unfold L20
  refine ⟨fun h1 => PrTo h B pb w s (L ++ (if (bitsI .and .i64 way 1 != 0) = true then [(a, b)] else [])) h1, ⟨fun e => ?_, fun e => ?_⟩, ?_⟩
  · rw [e]
    exact pr_app x (by omega) a b fun h' P => P
  · rw [e]
    simpa using PrTo.refl x
  intro h1 P1
  obtain ⟨s1, p1, f1, o1⟩ := P1
  have hl : (L ++ (if (bitsI .and .i64 way 1 != 0) = true then [(a, b)] else [])).length ≤ L.length + 1 := by
    rw [List.length_append]; split <;> simp
  unfold lifeL
  rw [← List.append_assoc]
  refine ⟨fun e => ?_, fun e => ?_⟩
  · rw [e]
    exact pr_app p1 (by omega) b a fun h' P => P.after f1 o1
  · rw [e]
    simp only [Bool.false_eq_true, if_false, List.append_nil]
    exact ⟨s1, p1, f1, o1⟩
end
end Go.Proofs.Ytkgckfcekokieaa

/-
  Pairs, one more by one more (ty/S2, under a name of its own).
-/
import Derived.Test.YteaidgpiolakcaaTyC
import Derived.Test.YteaidgpiolakcaaV1
namespace Go.Proofs.Yteaidgpiolakcaa.pairs
open Go Go.Lf Go.Proofs.Yteaidgpiolakcaa
set_option linter.unusedVariables false

section
variable {Q : Nat → Prop} {h : Heap}
def prs (l : List (Int × Int)) : List Value := l.flatMap fun p => [.int .i64 p.1, .int .i64 p.2]
theorem prs_len (l : List (Int × Int)) : (prs l).length = l.length * 2 := by
  induction l with
  | nil => rfl
  | cons a l ih => simp only [prs, List.flatMap_cons, List.length_append, List.length_cons, List.length_nil] at ih ⊢; omega
theorem prs_app (l m : List (Int × Int)) : prs (l ++ m) = prs l ++ prs m := by simp [prs]
theorem prs_get : ∀ (l : List (Int × Int)) (i : Nat) (hi : i < l.length), (prs l)[i * 2]? = some (.int .i64 l[i].1) ∧ (prs l)[i * 2 + 1]? = some (.int .i64 l[i].2)
  | a :: l, 0, _ => ⟨rfl, rfl⟩
  | a :: l, i + 1, hi => by
    have e : prs (a :: l) = [.int .i64 a.1, .int .i64 a.2] ++ prs l := rfl
    have := prs_get l i (by simpa using hi)
    rw [e, show (i + 1) * 2 = 2 + i * 2 by omega, show 2 + i * 2 + 1 = 2 + (i * 2 + 1) by omega]
    rw [List.getElem?_append_right (by simp), List.getElem?_append_right (by simp)]
    simpa [show 2 + (i * 2 + 1) - 2 = i * 2 + 1 by omega] using this

def lifeL (x y w : Int) : List (Int × Int) := (if (bitsI .and .i64 w 1 != 0) = true then [(x, y)] else []) ++ (if (bitsI .and .i64 w 2 != 0) = true then [(y, x)] else [])
theorem lifeL_len (x y w : Int) : (lifeL x y w).length ≤ 2 := by
  unfold lifeL; rw [List.length_append]; split <;> split <;> simp
/-- a pairer: its box, its list -/
structure PrAt (h : Heap) (B pb : Nat) (w : Option Nat) (s : Sv) (L : List (Int × Int)) : Prop where
  box : blk h pb #[.map w, .slice s.a s.n s.c]
  own : Own h B 2 s (prs L)
  lt : pb < B
  le : B ≤ h.size
theorem PrAt.n {h : Heap} {B pb : Nat} {w : Option Nat} {s : Sv} {L : List (Int × Int)} (x : PrAt h B pb w s L) : s.n = L.length := by
  have := x.own.len
  rw [prs_len] at this
  omega
/-- what a call of a pairer's methods leaves -/
def PrTo (h : Heap) (B pb : Nat) (w : Option Nat) (s : Sv) (L : List (Int × Int)) (h' : Heap) : Prop :=
  ∃ s', PrAt h' B pb w s' L ∧ Fr (fun b => b = pb ∨ s.own b) h h' ∧ ∀ b, s'.own b → s.own b ∨ h.size ≤ b
theorem PrTo.refl {h : Heap} {B pb : Nat} {w : Option Nat} {s : Sv} {L : List (Int × Int)} (x : PrAt h B pb w s L) : PrTo h B pb w s L h := ⟨s, x, Fr.refl _ _, fun _ h => .inl h⟩
theorem fr2 {h h1 h2 : Heap} {pb : Nat} {s s1 : Sv} (f : Fr (fun b => b = pb ∨ s.own b) h h1) (o : ∀ b, s1.own b → s.own b ∨ h.size ≤ b) (g : Fr (fun b => b = pb ∨ s1.own b) h1 h2) : Fr (fun b => b = pb ∨ s.own b) h h2 :=
  f.trans' g fun i hi e => e.imp id fun e => (o i e).elim id fun e => by omega
theorem own2 {h h1 : Heap} {s s1 s2 : Sv} (hs : h.size ≤ h1.size) (o : ∀ b, s1.own b → s.own b ∨ h.size ≤ b) (o2 : ∀ b, s2.own b → s1.own b ∨ h1.size ≤ b) : ∀ b, s2.own b → s.own b ∨ h.size ≤ b :=
  fun b hb => (o2 b hb).elim (o b) fun e => .inr (by omega)
/-- one pair more -/
theorem pr_app {B pb : Nat} {w : Option Nat} {s : Sv} {L : List (Int × Int)} (x : PrAt h B pb w s L) (hL : L.length ≤ 2000000) (a b : Int) {K : Heap → Prop}
    (k : ∀ h', PrTo h B pb w s (L ++ [(a, b)]) h' → K h') :
    nn (some (⟨pb, 0, none⟩ : Addr)) fun p13 => ldS h (p13.add 1) fun x15 => newS 50 #[.int .i64 a, .int .i64 b] 1 h fun s19 h1 => appS 50 (Value.agg #[Value.int .i64 0, Value.int .i64 0]).cells 2 16 h1 x15 s19 fun s20 h2 =>
      nn (some (⟨pb, 0, none⟩ : Addr)) fun p21 => sto h2 (p21.add 1) (.slice s20.a s20.n s20.c) fun h3 => K h3 := by
  refine ⟨_, rfl, s, by rw [add_plain, x.box.cl]; rfl, ?_⟩
  have hn := x.n
  refine app1 rfl x.own rfl (by simp [Value.oneCell']) x.le (by omega) (by omega) fun s' h' e1 o' f' hown => ?_
  refine ⟨_, rfl, ?_⟩
  have hb : ¬ s.own pb := fun e => by have := (x.own.ge e).1; have := x.lt; omega
  have hb' := f'.blk x.box hb
  dsimp only
  rw [add_plain]
  refine sto_i hb' (by simp) (k _ ⟨s', ⟨?_, ?_, x.lt, ?_⟩, ?_, hown⟩)
  · have := hb'.sc 1 (.slice s'.a s'.n s'.c)
    exact this
  · have e : prs (L ++ [(a, b)]) = prs L ++ #[Value.int .i64 a, .int .i64 b].toList := by rw [prs_app]; rfl
    rw [e]
    refine o'.frame (Fr.scb _ pb 1 _) fun q hq e => ?_
    subst e
    rcases hown q hq with e | e
    · exact hb e
    · have := x.lt; have := x.le; omega
  · rw [sc_size]; have := f'.size; have := x.le; omega
  · exact (f'.mono (T' := fun b => b = pb ∨ s.own b) fun _ _ e => .inr e).trans ((Fr.scb h' pb (0 + 1) (.slice s'.a s'.n s'.c)).mono fun _ _ e => .inl e)
theorem PrTo.after {B pb : Nat} {w : Option Nat} {s s1 : Sv} {L' : List (Int × Int)} {h h1 h2 : Heap} (f : Fr (fun b => b = pb ∨ s.own b) h h1) (o : ∀ b, s1.own b → s.own b ∨ h.size ≤ b) (y : PrTo h1 B pb w s1 L' h2) : PrTo h B pb w s L' h2 := by
  obtain ⟨s2, p2, f2, o2⟩ := y
  exact ⟨s2, p2, fr2 f o f2, own2 f.size o o2⟩
theorem life_spec {B pb : Nat} {w : Option Nat} {s : Sv} {L : List (Int × Int)} (x : PrAt h B pb w s L) (hL : L.length ≤ 1000000) (a b way : Int) :
    CallsH Try.prog 25 #[.pointer (some ⟨pb, 0, none⟩), .int .i64 a, .int .i64 b, .int .i64 way] h (fun _ h' => PrTo h B pb w s (L ++ lifeL a b way) h') := by
  apply F25
  unfold L25
  refine ⟨fun h1 => PrTo h B pb w s (L ++ (if (bitsI .and .i64 way 1 != 0) = true then [(a, b)] else [])) h1, ⟨fun e => ?_, fun e => ?_⟩, ?_⟩
  · rw [e]
    exact pr_app x (by omega) a b fun h' P => P
  · rw [e]
    simpa using PrTo.refl x
  intro h1 P1
  obtain ⟨s1, p1, f1, o1⟩ := P1
  have hl : (L ++ (if (bitsI .and .i64 way 1 != 0) = true then [(a, b)] else [])).length ≤ L.length + 1 := by
    rw [List.length_append]; split <;> simp
  unfold lifeL
  rw [← List.append_assoc]
  refine ⟨fun e => ?_, fun e => ?_⟩
  · rw [e]
    exact pr_app p1 (by omega) b a fun h' P => P.after f1 o1
  · rw [e]
    simp only [Bool.false_eq_true, if_false, List.append_nil]
    exact ⟨s1, p1, f1, o1⟩
end
end Go.Proofs.Yteaidgpiolakcaa.pairs

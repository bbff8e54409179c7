/-
  Ways: through, of, a lifetime's.
-/
import Derived.Test.YteaidgpiolakcaaV0
import Derived.Test.YteaidgpiolakcaaLiftX
import Derived.Test.YteaidgpiolakcaaLiftN
namespace Go.Proofs.Yteaidgpiolakcaa
open Go Go.Lf
set_option linter.unusedVariables false

def throughF (a b : Int) : Int := if a = 0 ∨ b = 0 then 0 else if a = 1 then bitsI .and .i64 b 3 else if a = 3 ∨ b = 3 then 3 else if a = b then 1 else 2
theorem through_spec (a b : Int) (h : Heap) : CallsH Try.prog 26 #[.int .i64 a, .int .i64 b] h (fun x h' => h = h' ∧ x = .int .i64 (throughF a b)) := by
  apply F26
  unfold L26 throughF
  refine ifb_iff (q := a = 0 ∨ b = 0) (by simp) (fun q => ⟨rfl, by rw [if_pos q]⟩) (fun q => ?_)
  rw [if_neg q]
  refine ifb_iff (q := a = 1) (by simp) (fun q => ⟨rfl, by rw [if_pos q]⟩) (fun q => ?_)
  rw [if_neg q]
  refine ifb_iff (q := a = 3 ∨ b = 3) (by simp) (fun q => ⟨rfl, by rw [if_pos q]⟩) (fun q => ?_)
  rw [if_neg q]
  refine ifb_iff (q := a = b) (by simp) (fun q => ⟨rfl, by rw [if_pos q]⟩) (fun q => ?_)
  rw [if_neg q]
  exact ⟨rfl, rfl⟩
theorem MapAt.fr {h h' : Heap} {m : Value} {es : List (ByteArray × Value)} {T : Nat → Prop} (x : MapAt h m es) (f : Fr T h h') (hT : ∀ r, m = .map (some r) → ¬ T r) : MapAt h' m es := by
  rcases x with x | ⟨r, L, c, e, hr, hL⟩
  · exact .inl x
  · have hlt : r < h.size := by
      rcases Nat.lt_or_ge r h.size with e | e
      · exact e
      · simp [Array.getElem?_eq_none e] at hr
    exact .inr ⟨r, L, c, e, by rw [f.same r hlt (hT r e)]; exact hr, hL⟩
def lkW (nm : ByteArray) : List (ByteArray × List Int) → List Int
  | [] => []
  | (q, l) :: r => if nm = q then l else lkW nm r
/-- ways, in memory -/
def WAt (Q : Nat → Prop) (h : Heap) (w : Option Nat) (W : List (ByteArray × List Int)) : Prop :=
  ∃ es : List (ByteArray × Sv × List Int), W = es.map (fun e => (e.1, e.2.2)) ∧ MapAt h (.map w) (es.map fun e => (e.1, e.2.1.v)) ∧ (∀ r, w = some r → Q r) ∧ ∀ e ∈ es, IntsQ Q h e.2.1 e.2.2 ∧ e.2.2.length ≤ 1000000
section
variable {Q Q' T : Nat → Prop} {h h' : Heap} {w : Option Nat} {W : List (ByteArray × List Int)}
theorem WAt.fr (x : WAt Q h w W) (f : Fr T h h') (hT : ∀ b, Q b → ¬ T b) : WAt Q h' w W := by
  obtain ⟨es, e, m, q, k⟩ := x
  exact ⟨es, e, MapAt.fr m f fun r hr => hT r (q r (by simpa using hr)), q, fun e he => ⟨(k e he).1.fr f hT, (k e he).2⟩⟩
theorem WAt.weak (x : WAt Q h w W) (hq : ∀ b, Q b → b < h.size → Q' b) : WAt Q' h w W := by
  obtain ⟨es, e, m, q, k⟩ := x
  refine ⟨es, e, m, fun r hr => hq r (q r hr) ?_, fun e he => ⟨(k e he).1.weak hq, (k e he).2⟩⟩
  rcases m with ⟨m, _⟩ | ⟨r', L, c, m, hr', _⟩
  · rw [hr] at m; cases m
  · rw [hr] at m
    simp only [Value.map.injEq, Option.some.injEq] at m
    subst m
    rcases Nat.lt_or_ge r h.size with e | e
    · exact e
    · simp [Array.getElem?_eq_none e] at hr'
theorem WAt.nil (Q : Nat → Prop) (h : Heap) : WAt Q h none [] := ⟨[], rfl, .inl ⟨rfl, rfl⟩, fun r hr => (by cases hr), fun e he => (by cases he)⟩
theorem lkE_lkW (nm : ByteArray) (es : List (ByteArray × Sv × List Int)) : (lkE nm (es.map fun e => (e.1, e.2.1.v)) = none ∧ lkW nm (es.map fun e => (e.1, e.2.2)) = []) ∨ ∃ e ∈ es, e.1 = nm ∧ lkE nm (es.map fun e => (e.1, e.2.1.v)) = some e.2.1.v ∧ lkW nm (es.map fun e => (e.1, e.2.2)) = e.2.2 := by
  induction es with
  | nil => exact .inl ⟨rfl, rfl⟩
  | cons e es ih =>
    simp only [List.map_cons, lkE, lkW]
    by_cases h : nm = e.1
    · exact .inr ⟨e, by simp, h.symm, by rw [if_pos h], by rw [if_pos h]⟩
    · rw [if_neg h, if_neg h]
      rcases ih with h1 | ⟨e', h1, h0, h2⟩
      · exact .inl h1
      · exact .inr ⟨e', by simp [h1], h0, h2⟩
theorem ways_lk (x : WAt Q h w W) (nm : ByteArray) {K : Sv → Prop} (k : ∀ s, IntsQ Q h s (lkW nm W) → (lkW nm W).length ≤ 1000000 → K s) :
    lkS h (.map w) nm (.slice none 0 0) fun u => asS u fun s => K s := by
  obtain ⟨es, rfl, m, q, kk⟩ := x
  refine ⟨_, m, ?_⟩
  rcases lkE_lkW nm es with ⟨h1, h2⟩ | ⟨e, he, _, h1, h2⟩
  · rw [h1]
    rw [h2] at k
    exact ⟨⟨none, 0, 0⟩, rfl, k _ (IntsC.nil _ _).toIntsQ (by simp)⟩
  · rw [h1]
    rw [h2] at k
    exact ⟨e.2.1, rfl, k _ (kk e he).1 (kk e he).2⟩
def ofW (W : List (ByteArray × List Int)) (nm : ByteArray) (i : Int) : Int := if i < 0 ∨ ((lkW nm W).length : Int) ≤ i then 3 else (lkW nm W).getD i.toNat 3
theorem of_spec (x : WAt Q h w W) (nm : ByteArray) (i : Int) : CallsH Try.prog 27 #[.map w, .string nm, .int .i64 i] h (fun v h' => h = h' ∧ v = .int .i64 (ofW W nm i)) := by
  apply F27
  unfold L27
  refine ways_lk x nm fun s hs hb => ?_
  have hl := hs.len
  unfold ofW
  refine ifb_iff (q := i < 0 ∨ ((lkW nm W).length : Int) ≤ i) (by simp [hl]) (fun q => ⟨rfl, by rw [if_pos q]⟩) (fun q => ?_)
  rw [if_neg q]
  obtain ⟨p, e, _, c⟩ := hs.at_ i.toNat (by omega)
  refine ⟨p, e, by omega, by omega, _, c, rfl, ?_⟩
  rw [List.getD_eq_getElem?_getD, List.getElem?_eq_getElem (by omega)]
  rfl
end

/-! ### what goes through a struct's fields -/
def orAt (out : List Int) (i : Nat) (w : Int) : List Int := if hi : i < out.length then out.set i (bitsI .or .i64 out[i] w) else out
theorem orAt_len (out : List Int) (i : Nat) (w : Int) : (orAt out i w).length = out.length := by unfold orAt; split <;> simp
/-- a finder: at its block, its parts; what it has found -/
structure FAt (Q : Nat → Prop) (h : Heap) (p : Nat) (dn : ByteArray) (L : Nat) (tn : Sv) (df : Sv) (w : Option Nat) (so : Sv) (B : Nat) (tys : List ByteArray) (W : List (ByteArray × List Int)) (out : List Int) : Prop where
  blk_ : blk h p #[.string dn, .int .i64 L, .slice tn.a tn.n tn.c, .slice df.a df.n df.c, .map w, .slice so.a so.n so.c]
  own_ : Own h B 1 so (ints out)
  nlen : tn.n = tys.length
  nat : ∀ i (hi : i < tys.length), ∃ q, tn.a = some q ∧ Q q.block ∧ cl h (q.add (i * 1)) = some (.string tys[i])
  ways : WAt Q h w W
  olen : out.length = L + tys.length
  sm : L ≤ 100 ∧ tys.length ≤ 1000000
  sep : ∀ b, Q b → b ≠ p ∧ ¬ so.own b
  pso : ¬ so.own p
section
variable {Q T : Nat → Prop} {h h' : Heap} {p : Nat} {dn : ByteArray} {L : Nat} {tn df : Sv} {w : Option Nat} {so : Sv} {B : Nat} {tys : List ByteArray} {W : List (ByteArray × List Int)} {out : List Int}
theorem FAt.fr (x : FAt Q h p dn L tn df w so B tys W out) (f : Grow h h') : FAt Q h' p dn L tn df w so B tys W out :=
  ⟨f.blk x.blk_ fun h => h, x.own_.frame f fun _ _ h => h, x.nlen, fun i hi => by obtain ⟨q, e, k, c⟩ := x.nat i hi; exact ⟨q, e, k, f.clk c fun h => h⟩, x.ways.fr f fun _ _ h => h, x.olen, x.sm, x.sep, x.pso⟩
theorem FAt.upd {out' : List Int} (x : FAt Q h p dn L tn df w so B tys W out) (f : Fr so.own h h') (o : Own h' B 1 so (ints out')) (hl : out'.length = out.length) : FAt Q h' p dn L tn df w so B tys W out' :=
  ⟨f.blk x.blk_ x.pso, o, x.nlen, fun i hi => by obtain ⟨q, e, k, c⟩ := x.nat i hi; exact ⟨q, e, k, f.clk c (by rw [add_block]; exact (x.sep _ k).2)⟩, x.ways.fr f fun b hb => (x.sep b hb).2, by rw [hl]; exact x.olen, x.sm, x.sep, x.pso⟩
theorem ints_set (xs : List Int) (i : Nat) (hi : i < xs.length) (x : Int) : (ints xs).take i ++ [Value.int .i64 x] ++ (ints xs).drop (i + 1) = ints (xs.set i x) := by
  unfold ints
  rw [List.set_eq_take_append_cons_drop, if_pos hi, List.map_append, List.map_cons, List.map_take, List.map_drop]
  simp
theorem FAt.son (x : FAt Q h p dn L tn df w so B tys W out) : so.n = out.length := by have := x.own_.len; simp [ints] at this; omega
/-- one more place is or-ed -/
theorem or_step (x : FAt Q h p dn L tn df w so B tys W out) {i : Nat} (hi : i < out.length) (way : Int) {K : Heap → Prop} (k : ∀ h', Fr so.own h h' → FAt Q h' p dn L tn df w so B tys W (orAt out i way) → K h') :
    ixS so (i : Int) fun q => ldI .i64 h (q.add ((i : Int).toNat * 1)) fun y => ixS so (i : Int) fun q' => sto h (q'.add ((i : Int).toNat * 1)) (.int .i64 (bitsI .or .i64 y way)) fun h' => K h' := by
  have hn := x.son
  obtain ⟨q, e, c⟩ := (own_ints x.own_).at_ i hi
  refine ⟨q, e, by omega, by omega, _, by rw [Int.toNat_natCast]; exact c, q, e, by omega, by omega, ?_⟩
  rw [Int.toNat_natCast]
  refine own_sto x.own_ (by omega) rfl e fun h' o' f' => k h' f' (x.upd f' ?_ (orAt_len _ _ _))
  rw [ints_set _ i hi] at o'
  unfold orAt
  rw [dif_pos hi]
  exact o'
def lifeW (L : Nat) (out : List Int) (r way : Int) : List Int := if 1 ≤ r ∧ r ≤ L then orAt out (r - 1).toNat way else out
theorem lifeW_len (L : Nat) (out : List Int) (r way : Int) : (lifeW L out r way).length = out.length := by
  unfold lifeW
  by_cases h : 1 ≤ r ∧ r ≤ (L : Int)
  · rw [if_pos h]; exact orAt_len _ _ _
  · rw [if_neg h]
theorem life_spec (x : FAt Q h p dn L tn df w so B tys W out) (r way : Int) : CallsH Try.prog 28 #[.pointer (some ⟨p, 0, none⟩), .int .i64 r, .int .i64 way] h (fun v h' => Fr so.own h h' ∧ FAt Q h' p dn L tn df w so B tys W (lifeW L out r way)) := by
  apply F28
  unfold L28
  have hsm := x.sm.1
  refine ⟨fun b => b = true ↔ (1 ≤ r ∧ r ≤ L), ⟨fun e => ?_, fun e => ?_⟩, ?_⟩
  · have e' := of_decide_eq_true e
    refine ⟨_, rfl, ldI_i (by rw [add_plain, x.blk_.cl]; rfl) ?_⟩
    show decide _ = true ↔ _
    rw [decide_eq_true_eq]
    omega
  · have e' := of_decide_eq_false e
    show false = true ↔ _
    constructor
    · intro h; cases h
    · intro h; exact absurd h.1 e'
  rintro b hb
  unfold lifeW
  refine ⟨fun e => ?_, fun e => ?_⟩
  · have hr := hb.1 e
    rw [if_pos hr]
    refine ⟨_, rfl, ldS_i (s := so) (by rw [add_plain, x.blk_.cl]; rfl) ?_⟩
    have hw : IntKind.i64.wrap (r - 1) = (((r - 1).toNat : Nat) : Int) := by rw [wrap64_id (by omega) (by omega)]; omega
    rw [hw]
    have ho := x.olen
    exact or_step x (by omega) way fun h' f' x' => ⟨f', x'⟩
  · have hr : ¬ (1 ≤ r ∧ r ≤ L) := fun h => by rw [hb.2 h] at e; cases e
    rw [if_neg hr]
    exact ⟨Fr.refl _ _, x⟩
end
end Go.Proofs.Yteaidgpiolakcaa

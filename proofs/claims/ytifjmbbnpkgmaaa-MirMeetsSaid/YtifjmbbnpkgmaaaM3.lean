/-
  Instructions in memory; where they go on.
-/
import Derived.Test.YtifjmbbnpkgmaaaM2
namespace Go.Proofs.Ytifjmbbnpkgmaaa
open Go Go.Lf
set_option linter.unusedVariables false

/-- an instruction, cell by cell -/
structure Iv where
  k : Int
  lc : Int
  d0 : Int
  dp : Sv
  rk : Int
  ra : Sv
  rp : Int
  rq : Sv
  rm : Bool
  rn : ByteArray
  rN : Int
  rt : Sv
  ck : Int
  c0 : Int
  cp : Sv
  ct : Int
  cn : Int
  to : Int
  el : Int
  a1 : Int
  a2 : Int
abbrev ivs (v : Iv) : Array Value := #[.int .i64 v.k, .int .i64 v.lc, .int .i64 v.d0, .slice v.dp.a v.dp.n v.dp.c, .int .i64 v.rk, .slice v.ra.a v.ra.n v.ra.c, .int .i64 v.rp, .slice v.rq.a v.rq.n v.rq.c, .bool v.rm, .string v.rn, .int .i64 v.rN, .slice v.rt.a v.rt.n v.rt.c, .int .i64 v.ck, .int .i64 v.c0, .slice v.cp.a v.cp.n v.cp.c, .int .i64 v.ct, .int .u64 v.cn, .int .i64 v.to, .int .i64 v.el, .int .i64 v.a1, .int .i64 v.a2]
abbrev zIv : Iv := ⟨0, 0, 0, ⟨none, 0, 0⟩, 0, ⟨none, 0, 0⟩, 0, ⟨none, 0, 0⟩, false, ⟨#[]⟩, 0, ⟨none, 0, 0⟩, 0, 0, ⟨none, 0, 0⟩, 0, 0, 0, 0, 0, 0⟩
def Iv21 (h : Heap) (p : Addr) (v : Iv) : Prop := ∀ (j : Nat) u, (ivs v)[j]? = some u → cl h (p.add j) = some u
theorem Iv21.fr {h h' : Heap} {p : Addr} {v : Iv} {T : Nat → Prop} (x : Iv21 h p v) (f : Fr T h h') (hT : ¬ T p.block) : Iv21 h' p v := fun j u hu => f.clk (x j u hu) (by rw [add_block]; exact hT)
theorem Iv21.blk {h : Heap} {b : Nat} {v : Iv} (k : blk h b (ivs v)) : Iv21 h ⟨b, 0, none⟩ v := fun j u hu => by rw [add_plain, k.cl, Nat.zero_add]; exact hu
theorem one_iv (v : Iv) : ∀ u ∈ (ivs v).toList, u.oneCell' = true := by
  intro u hu
  simp only [List.mem_cons, List.not_mem_nil, or_false] at hu
  rcases hu with rfl | rfl | rfl | rfl | rfl | rfl | rfl | rfl | rfl | rfl | rfl | rfl | rfl | rfl | rfl | rfl | rfl | rfl | rfl | rfl | rfl <;> rfl
section
variable {h : Heap}
theorem rdI {p : Addr} {v : Iv} {K : Int → Int → Int → Sv → Int → Sv → Int → Sv → Bool → ByteArray → Int → Sv → Int → Int → Sv → Int → Int → Int → Int → Int → Int → Prop} (x : Iv21 h p v)
    (k : K v.k v.lc v.d0 v.dp v.rk v.ra v.rp v.rq v.rm v.rn v.rN v.rt v.ck v.c0 v.cp v.ct v.cn v.to v.el v.a1 v.a2) :
    ∃ (y : Int) (y1 : Int) (y2 : Int) (y3 : Sv) (y4 : Int) (y5 : Sv) (y6 : Int) (y7 : Sv) (y8 : Bool) (y9 : ByteArray) (y10 : Int) (y11 : Sv) (y12 : Int) (y13 : Int) (y14 : Sv) (y15 : Int) (y16 : Int) (y17 : Int) (y18 : Int) (y19 : Int) (y20 : Int),
      cl h p = some (.int .i64 y) ∧ cl h (p.add 1) = some (.int .i64 y1) ∧ cl h (p.add 2) = some (.int .i64 y2) ∧ cl h (p.add 3) = some (.slice y3.a y3.n y3.c) ∧ cl h (p.add 4) = some (.int .i64 y4) ∧ cl h (p.add 5) = some (.slice y5.a y5.n y5.c) ∧ cl h (p.add 6) = some (.int .i64 y6) ∧ cl h (p.add 7) = some (.slice y7.a y7.n y7.c) ∧ cl h (p.add 8) = some (.bool y8) ∧ cl h (p.add 9) = some (.string y9) ∧ cl h (p.add 10) = some (.int .i64 y10) ∧ cl h (p.add 11) = some (.slice y11.a y11.n y11.c) ∧ cl h (p.add 12) = some (.int .i64 y12) ∧ cl h (p.add 13) = some (.int .i64 y13) ∧ cl h (p.add 14) = some (.slice y14.a y14.n y14.c) ∧ cl h (p.add 15) = some (.int .i64 y15) ∧ cl h (p.add 16) = some (.int .u64 y16) ∧ cl h (p.add 17) = some (.int .i64 y17) ∧ cl h (p.add 18) = some (.int .i64 y18) ∧ cl h (p.add 19) = some (.int .i64 y19) ∧ cl h (p.add 20) = some (.int .i64 y20) ∧
      K y y1 y2 y3 y4 y5 y6 y7 y8 y9 y10 y11 y12 y13 y14 y15 y16 y17 y18 y19 y20 := by
  have h0 := x 0 _ rfl
  rw [add_zero] at h0
  exact ⟨v.k, v.lc, v.d0, v.dp, v.rk, v.ra, v.rp, v.rq, v.rm, v.rn, v.rN, v.rt, v.ck, v.c0, v.cp, v.ct, v.cn, v.to, v.el, v.a1, v.a2, h0, x 1 _ rfl, x 2 _ rfl, x 3 _ rfl, x 4 _ rfl, x 5 _ rfl, x 6 _ rfl, x 7 _ rfl, x 8 _ rfl, x 9 _ rfl, x 10 _ rfl, x 11 _ rfl, x 12 _ rfl, x 13 _ rfl, x 14 _ rfl, x 15 _ rfl, x 16 _ rfl, x 17 _ rfl, x 18 _ rfl, x 19 _ rfl, x 20 _ rfl, k⟩
theorem newI {v : Iv} {K : Addr → Heap → Prop} (k : ∀ h', blk h' h.size (ivs v) → Grow h h' → h'.size = h.size + 1 → K ⟨h.size, 0, none⟩ h') : new 61 (ivs v) h K := by
  rintro p h' rfl rfl
  exact k _ (blk.new _ _ _) (Fr.push _ _ _) (by simp)
theorem stoI {b : Nat} {cs : Array Value} {v : Iv} {K : Heap → Prop} (kk : blk h b cs) (hs : cs.size = 21) (k : ∀ h', blk h' b (ivs v) → Fr (fun i => i = b) h h' → K h') : stoA h ⟨b, 0, none⟩ (ivs v).toList K :=
  stoA_i kk (by rw [hs]; rfl) (one_iv v) k
/-- one instruction read into a place of its own -/
theorem mineI {v : Iv} {K : Addr → Heap → Prop} (k : ∀ h', blk h' h.size (ivs v) → Grow h h' → K ⟨h.size, 0, none⟩ h') : new 61 (ivs zIv) h fun p h1 => stoA h1 p (ivs v).toList fun h2 => K p h2 :=
  newI (v := zIv) fun h1 b1 f1 z1 => stoI b1 rfl fun h2 b2 f2 => k h2 b2 (f1.trans' f2 fun i hi e => by omega)
structure CodeAt (h : Heap) (s : Sv) (l : List Iv) : Prop where
  len : s.n = l.length
  few : l.length ≤ 1000000
  at_ : ∀ i (hi : i < l.length), ∃ p, s.a = some p ∧ Iv21 h (p.add (i * 21)) l[i]
theorem CodeAt.grow {h h' : Heap} {s : Sv} {l : List Iv} (x : CodeAt h s l) (g : Grow h h') : CodeAt h' s l :=
  ⟨x.len, x.few, fun i hi => by obtain ⟨p, e, c⟩ := x.at_ i hi; exact ⟨p, e, c.fr g fun h => h⟩⟩
def succV (v : Iv) (i : Nat) : List Int := if v.k = 4 then [v.to] else if v.k = 5 then (if v.to = v.el then [v.to] else [v.to, v.el]) else if v.k = 6 ∨ v.k = 7 then [] else [((i + 1 : Nat) : Int)]
def succL (l : List Iv) (i : Nat) : List Int := match l[i]? with
  | some v => succV v i
  | none => []
abbrev bvs (nm : ByteArray) (pa : Int) (lo co : Sv) : Array Value := #[.string nm, .int .i64 pa, .slice lo.a lo.n lo.c, .slice co.a co.n co.c]
/-- a slice that the call made -/
def NewI (h h' : Heap) (s : Sv) (xs : List Int) : Prop := Grow h h' ∧ IntsAt h' s xs ∧ ∀ b, s.own b → h.size ≤ b ∧ b < h'.size
theorem cap_new {h : Heap} {E : TypeId} {cs : Array Value} {n : Nat} {K : Sv → Heap → Prop} (k : newS E cs n h fun s h' => s.n ≤ s.c → K s h') : newS E cs n h K := by
  rintro s h' rfl rfl
  exact k _ _ rfl rfl (Nat.le_refl _)
theorem NewI.nil {h h' : Heap} (g : Grow h h') : NewI h h' ⟨none, 0, 0⟩ [] := ⟨g, ⟨rfl, fun i hi => by simp at hi⟩, fun b ⟨a, e, _⟩ => by cases e⟩
theorem new1 {h0 h : Heap} (g : Grow h0 h) (x : Int) {K : Sv → Heap → Prop} (k : ∀ s h', NewI h0 h' s [x] → K s h') : newS 3 #[.int .i64 x] 1 h K := by
  rintro s h' rfl rfl
  have kb := blk.new h #[.int .i64 x] 3
  have hs := g.size
  refine k _ _ ⟨g.trans (Fr.push _ _ _), ⟨rfl, fun i hi => ⟨_, rfl, ?_⟩⟩, fun b ⟨a, e, eb⟩ => ?_⟩
  · obtain rfl : i = 0 := by simp at hi; omega
    rw [Nat.zero_mul, add_zero, kb.cl]; rfl
  · simp only [Option.some.injEq] at e
    subst e; subst eb
    have := kb.lt
    exact ⟨hs, this⟩
theorem new2 {h0 h : Heap} (g : Grow h0 h) (x y : Int) {K : Sv → Heap → Prop} (k : ∀ s h', NewI h0 h' s [x, y] → K s h') : newS 3 #[.int .i64 x, .int .i64 y] 2 h K := by
  rintro s h' rfl rfl
  have kb := blk.new h #[.int .i64 x, .int .i64 y] 3
  have hs := g.size
  refine k _ _ ⟨g.trans (Fr.push _ _ _), ⟨rfl, fun i hi => ⟨_, rfl, ?_⟩⟩, fun b ⟨a, e, eb⟩ => ?_⟩
  · rw [add_plain, kb.cl]
    match i, hi with
    | 0, _ => rfl
    | 1, _ => rfl
  · simp only [Option.some.injEq] at e
    subst e; subst eb
    have := kb.lt
    exact ⟨hs, this⟩
theorem succ_spec {b : Nat} {nm : ByteArray} {pa : Int} {lo co : Sv} {l : List Iv} (B : blk h b (bvs nm pa lo co)) (x : CodeAt h co l) {i : Nat} (hi : i < l.length) :
    CallsH Try.prog 12 #[.pointer (some ⟨b, 0, none⟩), .int .i64 i] h (fun v h' => ∃ s : Sv, v = .slice s.a s.n s.c ∧ NewI h h' s (succL l i)) := by
  apply F12
  unfold L12
  have hn := x.len
  have hf := x.few
  have hco : cl h ((⟨b, 0, none⟩ : Addr).add 3) = some (.slice co.a co.n co.c) := by rw [add_plain, B.cl]; rfl
  refine ⟨fun b => b = false, ⟨fun e => ?_, fun _ => ⟨_, rfl, ldS_i (s := co) hco ?_⟩⟩, ?_⟩
  · simp at e; omega
  · rw [hn]; simp; omega
  rintro _ rfl
  refine ⟨fun e => (by cases e), fun _ => ⟨_, rfl, ldS_i (s := co) hco ?_⟩⟩
  obtain ⟨p, ea, T⟩ := x.at_ i hi
  refine ⟨p, ea, by omega, by rw [hn]; omega, ?_⟩
  rw [Int.toNat_natCast]
  refine rdI T ?_
  have hsl : succL l i = succV l[i] i := by unfold succL; rw [List.getElem?_eq_getElem hi]
  rw [hsl]
  generalize l[i] = v at *
  refine mineI (v := v) fun h2 b2 f2 => ?_
  have T2 := Iv21.blk b2
  have c0 := T2 0 _ rfl
  rw [add_zero] at c0
  refine ldI_i c0 ?_
  unfold succV
  refine ifb_iff (q := v.k = 4) (by simp) (fun h4 => ?_) (fun h4 => ?_)
  · rw [if_pos h4]
    exact ldI_i (T2 17 _ rfl) (new1 f2 v.to fun s h' k => ⟨s, rfl, k⟩)
  rw [if_neg h4]
  refine ifb_iff (q := v.k = 5) (by simp) (fun h5 => ?_) (fun h5 => ?_)
  · rw [if_pos h5]
    refine ldI_i (T2 17 _ rfl) (ldI_i (T2 18 _ rfl) ?_)
    refine ifb_iff (q := v.to = v.el) (by simp) (fun he => ?_) (fun he => ?_)
    · rw [if_pos he]
      exact ldI_i (T2 17 _ rfl) (new1 f2 v.to fun s h' k => ⟨s, rfl, k⟩)
    · rw [if_neg he]
      exact ldI_i (T2 17 _ rfl) (ldI_i (T2 18 _ rfl) (new2 f2 v.to v.el fun s h' k => ⟨s, rfl, k⟩))
  rw [if_neg h5]
  refine ⟨fun b => b = true ↔ (v.k = 6 ∨ v.k = 7), ifb_iff (q := v.k = 6) (by simp) (fun q => by simp [q]) (fun q => by simp [q]), ?_⟩
  rintro c hc
  refine ⟨fun e => ?_, fun e => ?_⟩
  · rw [if_pos (hc.1 e)]
    exact ⟨_, rfl, NewI.nil f2⟩
  · rw [if_neg (fun h => by rw [hc.2 h] at e; cases e), wrap_succ hi (by omega)]
    exact new1 f2 _ fun s h' k => ⟨s, rfl, k⟩
theorem succ_out {b : Option Addr} (i : Int) (hb : b = none) : CallsH Try.prog 12 #[.pointer b, .int .i64 i] h (fun v h' => h = h' ∧ v = .slice none 0 0) := by
  subst hb
  apply F12
  unfold L12
  refine ⟨fun b => b = true, ⟨fun _ => rfl, fun e => (by cases e)⟩, ?_⟩
  rintro _ rfl
  exact ⟨fun _ => ⟨rfl, rfl⟩, fun e => (by cases e)⟩
theorem refSucc_spec {co : Sv} {l : List Iv} (x : CodeAt h co l) {i : Nat} (hi : i < l.length) :
    CallsH Try.prog 22 #[.slice co.a co.n co.c, .int .i64 i] h (fun v h' => ∃ s : Sv, v = .slice s.a s.n s.c ∧ NewI h h' s (succL l i)) := by
  apply F22
  unfold L22
  have hn := x.len
  have hf := x.few
  obtain ⟨p, ea, T⟩ := x.at_ i hi
  refine ⟨p, ea, by omega, by rw [hn]; omega, ?_⟩
  rw [Int.toNat_natCast]
  refine rdI T ?_
  have hsl : succL l i = succV l[i] i := by unfold succL; rw [List.getElem?_eq_getElem hi]
  rw [hsl]
  generalize l[i] = v at *
  refine mineI (v := v) fun h2 b2 f2 => ?_
  have T2 := Iv21.blk b2
  have c0 := T2 0 _ rfl
  rw [add_zero] at c0
  refine ldI_i c0 ?_
  unfold succV
  refine ⟨fun b => b = true ↔ (v.k = 4 ∨ (v.k = 5 ∧ v.to = v.el)), ⟨fun e => ?_, fun e => ldI_i c0 ⟨fun b => b = true ↔ (v.k = 5 ∧ v.to = v.el), ⟨fun e' => ldI_i (T2 17 _ rfl) (ldI_i (T2 18 _ rfl) ?_), fun e' => ?_⟩, ?_⟩⟩, ?_⟩
  · have : v.k = 4 := by simpa using e
    simp [this]
  · have : v.k = 5 := by simpa using e'
    simp [this]
  · have : ¬ v.k = 5 := by simpa using e'
    simp [this]
  · rintro c hc
    have : ¬ v.k = 4 := by simpa using e
    rw [hc]; simp [this]
  rintro c hc
  refine ⟨fun e => ?_, fun e => ?_⟩
  · have hval : (if v.k = 4 then [v.to] else if v.k = 5 then (if v.to = v.el then [v.to] else [v.to, v.el]) else if v.k = 6 ∨ v.k = 7 then [] else [((i + 1 : Nat) : Int)]) = [v.to] := by
      rcases hc.1 e with q | ⟨q1, q2⟩
      · rw [if_pos q]
      · rw [if_neg (by omega), if_pos q1, if_pos q2]
    rw [hval]
    exact ldI_i (T2 17 _ rfl) (new1 f2 v.to fun s h' k => ⟨s, rfl, k⟩)
  have hno : ¬ (v.k = 4 ∨ (v.k = 5 ∧ v.to = v.el)) := fun h => by rw [hc.2 h] at e; cases e
  rw [if_neg fun h => hno (.inl h)]
  refine ldI_i c0 ?_
  refine ifb_iff (q := v.k = 5) (by simp) (fun h5 => ?_) (fun h5 => ?_)
  · rw [if_pos h5, if_neg fun h => hno (.inr ⟨h5, h⟩)]
    exact ldI_i (T2 17 _ rfl) (ldI_i (T2 18 _ rfl) (new2 f2 v.to v.el fun s h' k => ⟨s, rfl, k⟩))
  rw [if_neg h5]
  refine ldI_i c0 ?_
  refine ⟨fun b => b = true ↔ (v.k = 6 ∨ v.k = 7), ⟨fun e' => ?_, fun e' => ldI_i c0 ?_⟩, ?_⟩
  · have : v.k = 6 := by simpa using e'
    simp [this]
  · have : ¬ v.k = 6 := by simpa using e'
    simp [this]
  rintro c' hc'
  refine ⟨fun e => ?_, fun e => ?_⟩
  · rw [if_pos (hc'.1 e)]
    exact ⟨_, rfl, NewI.nil f2⟩
  · rw [if_neg (fun h => by rw [hc'.2 h] at e; cases e), wrap_succ hi (by omega)]
    exact new1 f2 _ fun s h' k => ⟨s, rfl, k⟩
end
end Go.Proofs.Ytifjmbbnpkgmaaa

/-
  The program's memory, and what stands for it.
-/
import Derived.Test.YtggacajnmgligaaH3
namespace Go.Proofs.Ytggacajnmgligaa
open Go Go.Lf
set_option linter.unusedVariables false

/-- a right -/
structure Hd where
  tg : Int
  pa : List Int
  uq : Bool
/-- an allocation -/
structure Al where
  live : Bool
  v : Vl
  st : List Hd
/-- a heap -/
structure Hs where
  l : List Al
  tags : Int
  live : Int
  most : Int
  watch : Bool
abbrev zVl : Vl := .mk 0 0 ⟨#[]⟩ [] 0 [] 0
/-- what a block is -/
inductive Lb where
  | no
  | q
  | hp
  | al
  | bx (i : Nat)
  | st (i : Nat)
  | pt (i : Nat) (σ : List Nat)
/-- a right, as it is laid -/
structure Hr where
  tg : Int
  s : Sv
  uq : Bool
abbrev hvs (x : Hr) : Array Value := #[.int .i64 x.tg, .slice x.s.a x.s.n x.s.c, .bool x.uq]
def c3 (us : List Hr) : List Value := us.flatMap fun u => (hvs u).toList
theorem c3_len (us : List Hr) : (c3 us).length = us.length * 3 := by
  induction us with
  | nil => rfl
  | cons a l ih =>
    have e : c3 (a :: l) = (hvs a).toList ++ c3 l := rfl
    rw [e, List.length_append, ih, List.length_cons]
    simp
    omega
theorem c3_app (l m : List Hr) : c3 (l ++ m) = c3 l ++ c3 m := by simp [c3]
theorem c3_get : ∀ (us : List Hr) (i : Nat) (hi : i < us.length) (q : Nat), q < 3 → (c3 us)[i * 3 + q]? = (hvs us[i])[q]?
  | a :: us, 0, _, q, hq => by
    have e : c3 (a :: us) = (hvs a).toList ++ c3 us := rfl
    rw [e, Nat.zero_mul, Nat.zero_add, List.getElem?_append_left (by simpa [hvs] using hq)]
    simp
  | a :: us, i + 1, hi, q, hq => by
    have e : c3 (a :: us) = (hvs a).toList ++ c3 us := rfl
    have := c3_get us i (by simpa using hi) q hq
    rw [e, List.getElem?_append_right (by simp; omega)]
    have e2 : (i + 1) * 3 + q - (hvs a).toList.length = i * 3 + q := by simp; omega
    rw [e2, this]
    simp
theorem c3_take : ∀ (us : List Hr) (i : Nat), (c3 us).take (i * 3) = c3 (us.take i)
  | [], i => by simp [c3]
  | a :: us, 0 => by simp [c3]
  | a :: us, i + 1 => by
    have e : c3 (a :: us) = (hvs a).toList ++ c3 us := rfl
    have e2 : c3 ((a :: us).take (i + 1)) = (hvs a).toList ++ c3 (us.take i) := rfl
    rw [e, e2, ← c3_take us i, List.take_append]
    have hl : (hvs a).toList.length = 3 := rfl
    rw [hl, List.take_of_length_le (by rw [hl]; omega)]
    congr 2
    omega
theorem one_hv (x : Hr) : ∀ u ∈ (hvs x).toList, u.oneCell' = true := by
  intro u hu
  simp only [List.mem_cons, List.not_mem_nil, or_false] at hu
  rcases hu with rfl | rfl | rfl <;> rfl
abbrev bxs (live : Bool) (v : Vv) (s : Sv) : Array Value := #[.bool live, .int .i64 v.k, .int .u64 v.n, .string v.nm, .slice v.ps.a v.ps.n v.ps.c, .int .i64 v.al, .slice v.pa.a v.pa.n v.pa.c, .int .i64 v.tg, .slice s.a s.n s.c]
abbrev hps (s : Sv) (tags live most : Int) (w : Bool) : Array Value := #[.slice s.a s.n s.c, .int .i64 tags, .int .i64 live, .int .i64 most, .bool w]
theorem bx7 {h : Heap} {b : Nat} {live : Bool} {v : Vv} {s : Sv} (k : blk h b (bxs live v s)) : Vv7 h ⟨b, 1, none⟩ v := by
  intro j u hu
  rw [add_plain, k.cl]
  have hj : j < 7 := (Array.getElem?_eq_some_iff.1 hu).1
  match j, hj with
  | 0, _ => exact hu
  | 1, _ => exact hu
  | 2, _ => exact hu
  | 3, _ => exact hu
  | 4, _ => exact hu
  | 5, _ => exact hu
  | 6, _ => exact hu
def ptr (b : Nat) : Value := .pointer (some ⟨b, 0, none⟩)
/-- rights, in memory -/
def StAt (lab : Nat → Lb) (h : Heap) (i : Nat) (s : Sv) (st : List Hd) : Prop :=
  ∃ zs : List (Hr × Hd), zs.map (·.2) = st ∧ Own h 0 3 s (c3 (zs.map (·.1))) ∧ (∀ b, s.own b → lab b = .st i) ∧ ∀ z ∈ zs, z.1.tg = z.2.tg ∧ z.1.uq = z.2.uq ∧ IntsC (fun b => lab b = .q) h z.1.s z.2.pa ∧ z.2.pa.length ≤ 1000000
def BxAt (lab : Nat → Lb) (h : Heap) (i b : Nat) (a : Al) : Prop :=
  lab b = .bx i ∧ few a.v ∧ ∃ v s, blk h b (bxs a.live v s) ∧ VAt true (fun c => lab c = .q) h a.v (fun σ c => lab c = .pt i σ) v ∧ StAt lab h i s a.st
structure HpAt (lab : Nat → Lb) (h : Heap) (hp : Nat) (S : Hs) (s : Sv) (bs : List Nat) : Prop where
  hd : blk h hp (hps s S.tags S.live S.most S.watch)
  lhp : lab hp = .hp
  len : bs.length = S.l.length
  al : Own h 0 1 s (bs.map ptr)
  lal : ∀ b, s.own b → lab b = .al
  bx : ∀ i (h1 : i < bs.length) (h2 : i < S.l.length), BxAt lab h i bs[i] S.l[i]
  out : ∀ b, h.size ≤ b → lab b = .no
section
variable {lab lab' : Nat → Lb} {h h' : Heap} {T : Nat → Prop} {hp : Nat} {S : Hs} {s : Sv} {bs : List Nat}
theorem StAt.to {i : Nat} {u : Sv} {st : List Hd} (x : StAt lab h i u st) (f : Fr T h h') (hT : ∀ b, lab b = .st i ∨ lab b = .q → ¬ T b) (hl : ∀ b, b < h.size → lab b = .st i ∨ lab b = .q → lab' b = lab b) : StAt lab' h' i u st := by
  obtain ⟨zs, e1, o, e2, e3⟩ := x
  refine ⟨zs, e1, o.frame f fun b hb => hT b (.inl (e2 b hb)), fun b hb => ?_, fun z hz => ?_⟩
  · rw [hl b (o.ge hb).2 (.inl (e2 b hb))]; exact e2 b hb
  · obtain ⟨a1, a2, a3, a4⟩ := e3 z hz
    have b3 : IntsC (fun b => lab b = .q ∧ b < h.size) h z.1.s z.2.pa := a3.weak fun b hb hs => ⟨hb, hs⟩
    refine ⟨a1, a2, (b3.fr f fun b hb => hT b (.inr hb.1)).weak fun b hb _ => ?_, a4⟩
    rw [hl b hb.2 (.inr hb.1)]; exact hb.1
/-- the family of an allocation -/
def Fam (i : Nat) (l : Lb) : Prop := l = .bx i ∨ l = .st i ∨ ∃ σ, l = .pt i σ
theorem vTo {i : Nat} {t : Vl} {v : Vv} {o : Bool} (x : VAt o (fun c => lab c = .q) h t (fun σ c => lab c = .pt i σ) v) (f : Fr T h h') (hT : ∀ b, (∃ σ, lab b = .pt i σ) ∨ lab b = .q → ¬ T b) (hl : ∀ b, b < h.size → (∃ σ, lab b = .pt i σ) ∨ lab b = .q → lab' b = lab b) :
    VAt o (fun c => lab' c = .q) h' t (fun σ c => lab' c = .pt i σ) v := by
  have x1 : VAt o (fun c => lab c = .q ∧ c < h.size) h t (fun σ c => lab c = .pt i σ ∧ c < h.size) v := x.weak (fun b hb hs => ⟨hb, hs⟩) (fun h => h) fun σ b hb hs => ⟨hb, hs⟩
  refine (x1.fr f (fun b hb => hT b (.inr hb.1)) fun σ b hb => hT b (.inl ⟨σ, hb.1⟩)).weak (fun b hb _ => ?_) (fun h => h) fun σ b hb _ => ?_
  · rw [hl b hb.2 (.inr hb.1)]; exact hb.1
  · rw [hl b hb.2 (.inl ⟨σ, hb.1⟩)]; exact hb.1
theorem BxAt.to {i b : Nat} {a : Al} (x : BxAt lab h i b a) (f : Fr T h h') (hT : ∀ c, Fam i (lab c) ∨ lab c = .q → ¬ T c) (hl : ∀ c, c < h.size → Fam i (lab c) ∨ lab c = .q → lab' c = lab c) : BxAt lab' h' i b a := by
  obtain ⟨e1, e2, v, u, k, e3, e4⟩ := x
  refine ⟨by rw [hl b k.lt (.inl (.inl e1))]; exact e1, e2, v, u, f.blk k (hT b (.inl (.inl e1))), ?_, ?_⟩
  · exact vTo e3 f (fun c hc => hT c (hc.imp (fun h => .inr (.inr h)) id)) fun c h1 hc => hl c h1 (hc.imp (fun h => .inr (.inr h)) id)
  · exact e4.to f (fun c hc => hT c (hc.imp (fun h => .inr (.inl h)) id)) fun c h1 hc => hl c h1 (hc.imp (fun h => .inr (.inl h)) id)
/-- what others do -/
theorem HpAt.fr (x : HpAt lab h hp S s bs) (f : Fr T h h') (hT : ∀ b, T b → lab b = .no) : HpAt lab h' hp S s bs := by
  have hn : ∀ b, lab b ≠ .no → ¬ T b := fun b hb ht => hb (hT b ht)
  refine ⟨f.blk x.hd (hn _ (by rw [x.lhp]; exact Lb.noConfusion)), x.lhp, x.len, x.al.frame f fun b hb => hn b (by rw [x.lal b hb]; exact Lb.noConfusion), x.lal, fun i h1 h2 => (x.bx i h1 h2).to f (fun c hc => hn c ?_) fun c _ _ => rfl, fun b hb => x.out b (Nat.le_trans f.size hb)⟩
  rcases hc with (hc | hc | ⟨σ, hc⟩) | hc <;> rw [hc] <;> exact Lb.noConfusion
theorem HpAt.grow (x : HpAt lab h hp S s bs) (f : Grow h h') : HpAt lab h' hp S s bs := x.fr f fun _ h => h.elim
/-- one allocation is another one now -/
theorem HpAt.set (x : HpAt lab h hp S s bs) {i : Nat} {a' : Al} (f : Fr T h h') (hT : ∀ b, T b → b < h.size → Fam i (lab b) ∨ lab b = .no) (hl : ∀ b, b < h.size → ¬ Fam i (lab b) → lab' b = lab b)
    (hi : i < bs.length) (nb : BxAt lab' h' i bs[i] a') (hn : ∀ b, h'.size ≤ b → lab' b = .no) : HpAt lab' h' hp { S with l := S.l.set i a' } s bs := by
  have hnT : ∀ b, b < h.size → ¬ Fam i (lab b) → lab b ≠ .no → ¬ T b := fun b hb h1 h2 ht => (hT b ht hb).elim h1 h2
  have n1 : ¬ Fam i (lab hp) := by rw [x.lhp]; rintro (h | h | ⟨σ, h⟩) <;> cases h
  have n2 : ∀ b, s.own b → ¬ Fam i (lab b) := fun b hb => by rw [x.lal b hb]; rintro (h | h | ⟨σ, h⟩) <;> cases h
  refine ⟨f.blk x.hd (hnT _ x.hd.lt n1 (by rw [x.lhp]; exact Lb.noConfusion)), by rw [hl _ x.hd.lt n1]; exact x.lhp, by simpa using x.len, x.al.frame f fun b hb => hnT b (x.al.ge hb).2 (n2 b hb) (by rw [x.lal b hb]; exact Lb.noConfusion),
    fun b hb => by rw [hl b (x.al.ge hb).2 (n2 b hb)]; exact x.lal b hb, fun j h1 h2 => ?_, hn⟩
  by_cases hj : i = j
  · subst hj
    simp only [List.getElem_set_self]
    exact nb
  · simp only [List.getElem_set_ne hj]
    have h2' : j < S.l.length := by simpa using h2
    have hfam : ∀ c, Fam j (lab c) ∨ lab c = .q → ¬ Fam i (lab c) ∧ lab c ≠ .no := by
      intro c hc
      rcases hc with (hc | hc | ⟨σ, hc⟩) | hc <;> rw [hc] <;> refine ⟨?_, Lb.noConfusion⟩ <;> rintro (h | h | ⟨σ', h⟩) <;> cases h <;> exact hj rfl
    have hb := x.bx j h1 h2'
    -- what isn't there yet is nobody's
    have hsz : ∀ c, Fam j (lab c) ∨ lab c = .q → c < h.size := fun c hc => by
      rcases Nat.lt_or_ge c h.size with h | h
      · exact h
      · have := x.out c h
        rw [this] at hc
        rcases hc with (hc | hc | ⟨σ, hc⟩) | hc <;> cases hc
    exact hb.to f (fun c hc => hnT c (hsz c hc) (hfam c hc).1 (hfam c hc).2) fun c h1 hc => hl c h1 (hfam c hc).1
/-- the head is written -/
theorem HpAt.hdr (x : HpAt lab h hp S s bs) {tags live : Int} (f : Fr (fun b => b = hp) h h') (k : blk h' hp (hps s tags live S.most S.watch)) : HpAt lab h' hp { S with tags := tags, live := live } s bs := by
  have hn : ∀ b, lab b ≠ .hp → ¬ b = hp := fun b hb ht => hb (by rw [ht]; exact x.lhp)
  refine ⟨k, x.lhp, x.len, x.al.frame f fun b hb => hn b (by rw [x.lal b hb]; exact Lb.noConfusion), x.lal, fun i h1 h2 => (x.bx i h1 h2).to f (fun c hc => hn c ?_) fun c _ _ => rfl, fun b hb => x.out b (Nat.le_trans f.size hb)⟩
  rcases hc with (hc | hc | ⟨σ, hc⟩) | hc <;> rw [hc] <;> exact Lb.noConfusion
/-! ### the least of its functions -/
theorem new_spec (most : Int) (w : Bool) : CallsH Try.prog 8 #[.int .i64 most, .bool w] h (fun x h' => Grow h h' ∧ x = ptr h.size ∧ HpAt (fun b => if b = h.size then .hp else .no) h' h.size ⟨[], 0, 0, most, w⟩ ⟨none, 0, 0⟩ []) := by
  apply F8
  unfold L8
  rintro p h1 rfl rfl
  refine ⟨Fr.push _ _ _, rfl, blk.new _ _ _, by simp, rfl, Own.nil _ _ _, fun b hb => ?_, fun i h1 => absurd h1 (Nat.not_lt_zero _), fun b hb => ?_⟩
  · obtain ⟨a, ea, _⟩ := hb; cases ea
  · show (if b = h.size then Lb.hp else .no) = .no
    rw [if_neg]
    simp at hb
    omega
theorem live_spec (x : HpAt lab h hp S s bs) : CallsH Try.prog 13 #[ptr hp] h (fun v h' => h = h' ∧ v = .int .i64 S.live) := by
  apply F13
  unfold L13
  refine ⟨fun e => (by cases e), fun _ => ⟨_, rfl, ldI_i (x := S.live) (by rw [add_plain, x.hd.cl]; rfl) ⟨rfl, rfl⟩⟩⟩
/-- is an allocation there? -/
def isAt (S : Hs) (i : Int) : Prop := 0 ≤ i ∧ ∃ a, S.l[i.toNat]? = some a ∧ a.live = true
theorem own1 {s : Sv} {xs : List Value} (o : Own h 0 1 s xs) {i : Nat} (hi : i < xs.length) : ∃ p, s.a = some p ∧ cl h (p.add (i * 1)) = some xs[i] := by
  have hr := o.row
  have hl := o.len
  rcases o.mem with ⟨_, e, _⟩ | ⟨g, cur, e, _⟩
  · omega
  rw [e] at hr
  refine ⟨_, e, ?_⟩
  have := hr i _ (List.getElem?_eq_getElem hi)
  rwa [Nat.mul_one]
theorem at_spec (x : HpAt lab h hp S s bs) (i : Int) : CallsH Try.prog 31 #[ptr hp, .int .i64 i] h (fun v h' => h = h' ∧ ((¬ isAt S i ∧ v = .pointer none) ∨ ∃ (j : Nat) (h1 : j < bs.length) (h2 : j < S.l.length), i = j ∧ S.l[j].live = true ∧ v = ptr bs[j])) := by
  have hsn : s.n = bs.length := by have := x.al.len; simpa using this.symm
  have hs : cl h ⟨hp, 0, none⟩ = some (.slice s.a s.n s.c) := by rw [x.hd.cl]; rfl
  apply F31
  unfold L31
  refine ⟨fun b => b = decide (i < 0 ∨ (bs.length : Int) ≤ i), ⟨fun e => ?_, fun e => ?_⟩, ?_⟩
  · have : i < 0 := by simpa [ptr] using e
    exact (decide_eq_true (p := i < 0 ∨ (bs.length : Int) ≤ i) (.inl this)).symm
  · have e' : ¬ i < 0 := by simpa [ptr] using e
    refine ⟨_, rfl, ldS_i hs ?_⟩
    rw [hsn]
    simp only [e', false_or]
  intro x19 h19
  have cell : ∀ j (hj : j < bs.length), ∃ p, s.a = some p ∧ cl h (p.add (j * 1)) = some (ptr bs[j]) := fun j hj => by
    obtain ⟨p, e, c⟩ := own1 x.al (i := j) (by simpa using hj)
    refine ⟨p, e, ?_⟩
    rw [c]; simp
  refine ⟨fun b => b = true ↔ ¬ isAt S i, ⟨fun e => ?_, fun e => ?_⟩, ?_⟩
  · rw [h19] at e
    have e' := of_decide_eq_true e
    refine ⟨fun _ ⟨h0, a, ha, _⟩ => ?_, fun _ => rfl⟩
    have hl := (List.getElem?_eq_some_iff.1 ha).1
    have := x.len
    rcases e' with e' | e' <;> omega
  · rw [h19] at e
    have e' := of_decide_eq_false e
    have h0 : 0 ≤ i := Int.not_lt.1 fun h => e' (.inl h)
    have h1 : i < (bs.length : Int) := Int.not_le.1 fun h => e' (.inr h)
    have hj : i.toNat < bs.length := by omega
    have hj2 : i.toNat < S.l.length := by rw [← x.len]; exact hj
    obtain ⟨p, ea, c⟩ := cell i.toNat hj
    obtain ⟨-, -, v, u, k, -⟩ := x.bx i.toNat hj hj2
    refine ⟨_, rfl, ldS_i hs ⟨p, ea, h0, by rw [hsn]; exact h1, some ⟨bs[i.toNat], 0, none⟩, c, _, rfl, S.l[i.toNat].live, by rw [k.cl]; rfl, ?_⟩⟩
    constructor
    · intro hb ⟨_, a, ha, hl⟩
      rw [List.getElem?_eq_getElem hj2] at ha
      simp only [Option.some.injEq] at ha
      rw [← ha] at hl
      rw [hl] at hb
      cases hb
    · intro hn
      cases hl : S.l[i.toNat].live with
      | false => rfl
      | true => exact absurd ⟨h0, _, List.getElem?_eq_getElem hj2, hl⟩ hn
  intro x32 h32
  refine ⟨fun e => ⟨rfl, .inl ⟨h32.1 e, rfl⟩⟩, fun e => ?_⟩
  have hat : isAt S i := Classical.not_not.1 fun hn => by
    have := h32.2 hn
    rw [this] at e; cases e
  obtain ⟨h0, a, ha, hl⟩ := hat
  obtain ⟨hj2, rfl⟩ := List.getElem?_eq_some_iff.1 ha
  have hj : i.toNat < bs.length := by rw [x.len]; exact hj2
  obtain ⟨p, ea, c⟩ := cell i.toNat hj
  refine ⟨_, rfl, ldS_i hs ⟨p, ea, h0, by rw [hsn]; omega, some ⟨bs[i.toNat], 0, none⟩, c, rfl, .inr ⟨i.toNat, hj, hj2, by omega, hl, rfl⟩⟩⟩
end
end Go.Proofs.Ytggacajnmgligaa

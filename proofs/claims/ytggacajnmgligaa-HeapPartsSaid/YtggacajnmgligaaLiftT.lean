/-
  Types az trees, and how they lie in memory.
-/
import Derived.Test.YtggacajnmgligaaLiftM
import Derived.Test.YtggacajnmgligaaLiftQ
namespace Go.Lf
open Go

/-- the six parts of a type -/
structure Tv where
  k : Int
  nm : ByteArray
  mu : Bool
  r : Int
  rs : Sv
  az : Sv
abbrev tvs (t : Tv) : Array Value := #[.int .i64 t.k, .string t.nm, .bool t.mu, .int .i64 t.r, .slice t.rs.a t.rs.n t.rs.c, .slice t.az.a t.az.n t.az.c]
def Tv6 (h : Heap) (p : Addr) (t : Tv) : Prop := cl h p = some (.int .i64 t.k) ∧ cl h (p.add 1) = some (.string t.nm) ∧ cl h (p.add 2) = some (.bool t.mu) ∧ cl h (p.add 3) = some (.int .i64 t.r) ∧
  cl h (p.add 4) = some (.slice t.rs.a t.rs.n t.rs.c) ∧ cl h (p.add 5) = some (.slice t.az.a t.az.n t.az.c)
theorem Tv6.blk {h : Heap} {b : Nat} {t : Tv} (k : blk h b (tvs t)) : Tv6 h ⟨b, 0, none⟩ t := by
  unfold Tv6
  simp only [add_plain, k.cl]
  exact ⟨rfl, rfl, rfl, rfl, rfl, rfl⟩
theorem Tv6.fr {h h' : Heap} {p : Addr} {t : Tv} {T : Nat → Prop} (x : Tv6 h p t) (f : Fr T h h') (hT : ¬ T p.block) : Tv6 h' p t := by
  obtain ⟨a, b, c, d, e, g⟩ := x
  exact ⟨f.clk a hT, f.clk b (by rw [add_block]; exact hT), f.clk c (by rw [add_block]; exact hT), f.clk d (by rw [add_block]; exact hT), f.clk e (by rw [add_block]; exact hT), f.clk g (by rw [add_block]; exact hT)⟩
theorem Tv6.lt {h : Heap} {p : Addr} {t : Tv} (x : Tv6 h p t) : p.block < h.size := cl_lt x.1
/-- the six parts read -/
theorem rd6 {h : Heap} {p : Addr} {t : Tv} {K : Int → ByteArray → Bool → Int → Sv → Sv → Prop} (x : Tv6 h p t) (k : K t.k t.nm t.mu t.r t.rs t.az) :
    ∃ (y : Int) (y1 : ByteArray) (y2 : Bool) (y3 : Int) (y4 : Sv) (y5 : Sv), cl h p = some (.int .i64 y) ∧ cl h (p.add 1) = some (.string y1) ∧ cl h (p.add 2) = some (.bool y2) ∧ cl h (p.add 3) = some (.int .i64 y3) ∧ cl h (p.add 4) = some (.slice y4.a y4.n y4.c) ∧ cl h (p.add 5) = some (.slice y5.a y5.n y5.c) ∧ K y y1 y2 y3 y4 y5 :=
  ⟨_, _, _, _, _, _, x.1, x.2.1, x.2.2.1, x.2.2.2.1, x.2.2.2.2.1, x.2.2.2.2.2, k⟩
theorem hd6 {S : Heap → Prop} {p : Addr} {t : Tv} {K : Int → ByteArray → Bool → Int → Sv → Sv → Prop} (x : ∀ h, S h → Tv6 h p t) (k : K t.k t.nm t.mu t.r t.rs t.az) :
    ∃ (y : Int) (y1 : ByteArray) (y2 : Bool) (y3 : Int) (y4 : Sv) (y5 : Sv), hld S p (.int .i64 y) ∧ hld S (p.add 1) (.string y1) ∧ hld S (p.add 2) (.bool y2) ∧ hld S (p.add 3) (.int .i64 y3) ∧ hld S (p.add 4) (.slice y4.a y4.n y4.c) ∧ hld S (p.add 5) (.slice y5.a y5.n y5.c) ∧ K y y1 y2 y3 y4 y5 :=
  ⟨_, _, _, _, _, _, fun h hs => (x h hs).1, fun h hs => (x h hs).2.1, fun h hs => (x h hs).2.2.1, fun h hs => (x h hs).2.2.2.1, fun h hs => (x h hs).2.2.2.2.1, fun h hs => (x h hs).2.2.2.2.2, k⟩

inductive Ty where
  | mk (k : Int) (nm : ByteArray) (mu : Bool) (r : Int) (rs : List Int) (az : List Ty)
theorem Ty.ind {P : Ty → Prop} (H : ∀ k nm mu r rs az, (∀ a ∈ az, P a) → P (.mk k nm mu r rs az)) (t : Ty) : P t :=
  Ty.rec (motive_1 := P) (motive_2 := fun l => ∀ a ∈ l, P a) (fun k nm mu r rs az ih => H k nm mu r rs az ih) (fun _ h => by cases h)
    (fun a az h1 h2 b hb => by rcases List.mem_cons.1 hb with e | e; · rw [e]; exact h1
                               · exact h2 b e) t

/-- ints at blocks that are let -/
structure IntsQ (Q : Nat → Prop) (h : Heap) (s : Sv) (xs : List Int) : Prop where
  len : s.n = xs.length
  at_ : ∀ i (hi : i < xs.length), ∃ p, s.a = some p ∧ Q p.block ∧ cl h (p.add (i * 1)) = some (.int .i64 xs[i])
section
variable {Q Q' T : Nat → Prop} {h h' : Heap} {s : Sv} {xs : List Int}
theorem IntsQ.ints (x : IntsQ Q h s xs) : IntsAt h s xs := ⟨x.len, fun i hi => by obtain ⟨p, e, _, c⟩ := x.at_ i hi; exact ⟨p, e, c⟩⟩
theorem IntsQ.of (x : IntsAt h s xs) (hq : ∀ b, s.own b → b < h.size → Q b) : IntsQ Q h s xs :=
  ⟨x.len, fun i hi => by obtain ⟨p, e, c⟩ := x.at_ i hi; exact ⟨p, e, hq _ ⟨p, e, rfl⟩ (by rw [← add_block p (i * 1)]; exact cl_lt c), c⟩⟩
theorem IntsQ.fr (x : IntsQ Q h s xs) (f : Fr T h h') (hT : ∀ b, Q b → ¬ T b) : IntsQ Q h' s xs :=
  ⟨x.len, fun i hi => by obtain ⟨p, e, q, c⟩ := x.at_ i hi; exact ⟨p, e, q, f.clk c (by rw [add_block]; exact hT _ q)⟩⟩
theorem IntsQ.weak (x : IntsQ Q h s xs) (hq : ∀ b, Q b → b < h.size → Q' b) : IntsQ Q' h s xs :=
  ⟨x.len, fun i hi => by obtain ⟨p, e, q, c⟩ := x.at_ i hi; exact ⟨p, e, hq _ q (by rw [← add_block p (i * 1)]; exact cl_lt c), c⟩⟩
end

/-- .. with room for what it has -/
structure IntsC (Q : Nat → Prop) (h : Heap) (s : Sv) (xs : List Int) : Prop extends IntsQ Q h s xs where
  cap : s.n ≤ s.c
section
variable {Q Q' T : Nat → Prop} {h h' : Heap} {s : Sv} {xs : List Int}
theorem IntsC.fr (x : IntsC Q h s xs) (f : Fr T h h') (hT : ∀ b, Q b → ¬ T b) : IntsC Q h' s xs := ⟨x.toIntsQ.fr f hT, x.cap⟩
theorem IntsC.weak (x : IntsC Q h s xs) (hq : ∀ b, Q b → b < h.size → Q' b) : IntsC Q' h s xs := ⟨x.toIntsQ.weak hq, x.cap⟩
theorem IntsC.nil (Q : Nat → Prop) (h : Heap) : IntsC Q h ⟨none, 0, 0⟩ [] := ⟨⟨rfl, fun i hi => by simp at hi⟩, Nat.le_refl _⟩
end
theorem own_cap {h : Heap} {B sz : Nat} {s : Sv} {xs : List Value} (o : Own h B sz s xs) : s.n ≤ s.c := by
  rcases o.mem with ⟨_, e1, e2⟩ | ⟨g, cur, _, _, _, e, _⟩ <;> omega

/-- a tree at its six parts -/
def TyAt (Q : Nat → Prop) (h : Heap) : Ty → Tv → Prop :=
  Ty.rec (motive_1 := fun _ => Tv → Prop) (motive_2 := fun _ => Sv → Nat → Prop)
    (fun k nm mu r rs az ih v => v.k = k ∧ v.nm = nm ∧ v.mu = mu ∧ v.r = r ∧ IntsC Q h v.rs rs ∧ v.az.n = az.length ∧ ih v.az 0)
    (fun _ _ => True)
    (fun _ _ ih1 ih2 s i => (∃ p v, s.a = some p ∧ Q p.block ∧ Tv6 h (p.add (i * 6)) v ∧ ih1 v) ∧ ih2 s (i + 1))
def ArgsAt (Q : Nat → Prop) (h : Heap) : List Ty → Sv → Nat → Prop
  | [], _, _ => True
  | a :: az, s, i => (∃ p v, s.a = some p ∧ Q p.block ∧ Tv6 h (p.add (i * 6)) v ∧ TyAt Q h a v) ∧ ArgsAt Q h az s (i + 1)
section
variable {Q Q' T : Nat → Prop} {h h' : Heap}
theorem argsAt_rec (az : List Ty) (s : Sv) (i : Nat) : (Ty.rec_1 (motive_1 := fun _ => Tv → Prop) (motive_2 := fun _ => Sv → Nat → Prop)
    (fun k nm mu r rs az ih v => v.k = k ∧ v.nm = nm ∧ v.mu = mu ∧ v.r = r ∧ IntsC Q h v.rs rs ∧ v.az.n = az.length ∧ ih v.az 0)
    (fun _ _ => True)
    (fun _ _ ih1 ih2 s i => (∃ p v, s.a = some p ∧ Q p.block ∧ Tv6 h (p.add (i * 6)) v ∧ ih1 v) ∧ ih2 s (i + 1)) az : Sv → Nat → Prop) s i = ArgsAt Q h az s i := by
  induction az generalizing i with
  | nil => rfl
  | cons a az ih => rw [ArgsAt, ← ih (i + 1)]; rfl
theorem argsAt_iff (az : List Ty) (s : Sv) (i : Nat) : ArgsAt Q h az s i ↔ ∀ j (hj : j < az.length), ∃ p v, s.a = some p ∧ Q p.block ∧ Tv6 h (p.add ((i + j) * 6)) v ∧ TyAt Q h az[j] v := by
  induction az generalizing i with
  | nil => simp [ArgsAt]
  | cons a az ih =>
    rw [ArgsAt, ih (i + 1)]
    constructor
    · rintro ⟨h1, h2⟩ j hj
      cases j with
      | zero => simpa using h1
      | succ j =>
        have := h2 j (by simpa using hj)
        rw [show i + 1 + j = i + (j + 1) by omega] at this
        simpa using this
    · intro H
      refine ⟨H 0 (Nat.zero_lt_succ _), fun j hj => ?_⟩
      have := H (j + 1) (by simpa using hj)
      rw [show i + (j + 1) = i + 1 + j by omega] at this
      simpa using this
theorem tyAt_iff {k : Int} {nm : ByteArray} {mu : Bool} {r : Int} {rs : List Int} {az : List Ty} {v : Tv} : TyAt Q h (.mk k nm mu r rs az) v ↔
    (v.k = k ∧ v.nm = nm ∧ v.mu = mu ∧ v.r = r ∧ IntsC Q h v.rs rs ∧ v.az.n = az.length ∧ ∀ j (hj : j < az.length), ∃ p u, v.az.a = some p ∧ Q p.block ∧ Tv6 h (p.add (j * 6)) u ∧ TyAt Q h az[j] u) := by
  have e := argsAt_iff (Q := Q) (h := h) az v.az 0
  rw [← argsAt_rec] at e
  simp only [Nat.zero_add] at e
  rw [← e]
  rfl
theorem TyAt.fr (f : Fr T h h') (hT : ∀ b, Q b → ¬ T b) : ∀ {t : Ty} {v : Tv}, TyAt Q h t v → TyAt Q h' t v := by
  intro t
  refine Ty.ind (P := fun t => ∀ {v : Tv}, TyAt Q h t v → TyAt Q h' t v) ?_ t
  intro k nm mu r rs az ih v hv
  rw [tyAt_iff] at hv ⊢
  obtain ⟨e1, e2, e3, e4, e5, e6, e7⟩ := hv
  refine ⟨e1, e2, e3, e4, e5.fr f hT, e6, fun j hj => ?_⟩
  obtain ⟨p, u, q1, q2, q3, q4⟩ := e7 j hj
  exact ⟨p, u, q1, q2, q3.fr f (by rw [add_block]; exact hT _ q2), ih _ (List.getElem_mem hj) q4⟩
theorem TyAt.weak (hq : ∀ b, Q b → b < h.size → Q' b) : ∀ {t : Ty} {v : Tv}, TyAt Q h t v → TyAt Q' h t v := by
  intro t
  refine Ty.ind (P := fun t => ∀ {v : Tv}, TyAt Q h t v → TyAt Q' h t v) ?_ t
  intro k nm mu r rs az ih v hv
  rw [tyAt_iff] at hv ⊢
  obtain ⟨e1, e2, e3, e4, e5, e6, e7⟩ := hv
  refine ⟨e1, e2, e3, e4, e5.weak hq, e6, fun j hj => ?_⟩
  obtain ⟨p, u, q1, q2, q3, q4⟩ := e7 j hj
  exact ⟨p, u, q1, hq _ q2 (by rw [← add_block p (j * 6)]; exact q3.lt), q3, ih _ (List.getElem_mem hj) q4⟩
/-- over what only grows -/
theorem TyAt.grow {t : Ty} {v : Tv} (x : TyAt Q h t v) (f : Grow h h') : TyAt Q h' t v := x.fr f fun _ _ h => h
/-- an argument read -/
theorem args_get {k : Int} {nm : ByteArray} {mu : Bool} {r : Int} {rs : List Int} {az : List Ty} {v : Tv} (x : TyAt Q h (.mk k nm mu r rs az) v) {i : Nat} (hi : i < az.length)
    {K : Int → ByteArray → Bool → Int → Sv → Sv → Prop} (kk : ∀ u, TyAt Q h az[i] u → K u.k u.nm u.mu u.r u.rs u.az) :
    ixS v.az (i : Int) fun q => ∃ (y : Int) (y1 : ByteArray) (y2 : Bool) (y3 : Int) (y4 : Sv) (y5 : Sv), cl h (q.add ((i : Int).toNat * 6)) = some (.int .i64 y) ∧ cl h ((q.add ((i : Int).toNat * 6)).add 1) = some (.string y1) ∧ cl h ((q.add ((i : Int).toNat * 6)).add 2) = some (.bool y2) ∧ cl h ((q.add ((i : Int).toNat * 6)).add 3) = some (.int .i64 y3) ∧ cl h ((q.add ((i : Int).toNat * 6)).add 4) = some (.slice y4.a y4.n y4.c) ∧ cl h ((q.add ((i : Int).toNat * 6)).add 5) = some (.slice y5.a y5.n y5.c) ∧ K y y1 y2 y3 y4 y5 := by
  obtain ⟨-, -, -, -, -, e6, e7⟩ := tyAt_iff.1 x
  obtain ⟨p, u, q1, q2, q3, q4⟩ := e7 i hi
  refine ⟨p, q1, by omega, by omega, ?_⟩
  rw [Int.toNat_natCast]
  exact rd6 q3 (kk u q4)
/-- a box with a type's parts -/
theorem new6 {E : TypeId} {v : Tv} {K : Addr → Heap → Prop} (k : ∀ h', blk h' h.size (tvs v) → Grow h h' → h'.size = h.size + 1 → K ⟨h.size, 0, none⟩ h') : new E (tvs v) h K := by
  rintro p h' rfl rfl
  exact k _ (blk.new _ _ _) (Fr.push _ _ _) (by simp)
end
end Go.Lf

/-
  Values az trees, and how they lie in memory; a part of one's own written.
-/
import Derived.Test.YtggacajnmgligaaLiftT
import Derived.Test.YtggacajnmgligaaLiftX
import Derived.Test.YtggacajnmgligaaLiftK
import Derived.Test.YtggacajnmgligaaG
namespace Go.Proofs.Ytggacajnmgligaa
open Go Go.Lf
set_option linter.unusedVariables false

theorem wrap_succ {j n : Nat} (h : j < n) (hn : n ≤ 4611686018427387904) : IntKind.i64.wrap ((j : Int) + 1) = ((j + 1 : Nat) : Int) := by rw [wrap64_id (by omega) (by omega)]; rfl
inductive Vl where
  | mk (k n : Int) (nm : ByteArray) (ts : List Vl) (al : Int) (pa : List Int) (tg : Int)
theorem Vl.ind {P : Vl → Prop} (H : ∀ k n nm ts al pa tg, (∀ a ∈ ts, P a) → P (.mk k n nm ts al pa tg)) (t : Vl) : P t :=
  Vl.rec (motive_1 := P) (motive_2 := fun l => ∀ a ∈ l, P a) (fun k n nm ts al pa tg ih => H k n nm ts al pa tg ih) (fun _ h => by cases h)
    (fun a az h1 h2 b hb => by rcases List.mem_cons.1 hb with e | e; · rw [e]; exact h1
                               · exact h2 b e) t
/-- a value, cell by cell -/
structure Vv where
  k : Int
  n : Int
  nm : ByteArray
  ps : Sv
  al : Int
  pa : Sv
  tg : Int
abbrev vvs (v : Vv) : Array Value := #[.int .i64 v.k, .int .u64 v.n, .string v.nm, .slice v.ps.a v.ps.n v.ps.c, .int .i64 v.al, .slice v.pa.a v.pa.n v.pa.c, .int .i64 v.tg]
abbrev zVv : Vv := ⟨0, 0, ⟨#[]⟩, ⟨none, 0, 0⟩, 0, ⟨none, 0, 0⟩, 0⟩
def Vv7 (h : Heap) (p : Addr) (v : Vv) : Prop := ∀ (j : Nat) u, (vvs v)[j]? = some u → cl h (p.add j) = some u
theorem Vv7.fr {h h' : Heap} {p : Addr} {v : Vv} {T : Nat → Prop} (x : Vv7 h p v) (f : Fr T h h') (hT : ¬ T p.block) : Vv7 h' p v := fun j u hu => f.clk (x j u hu) (by rw [add_block]; exact hT)
theorem Vv7.lt {h : Heap} {p : Addr} {v : Vv} (x : Vv7 h p v) : p.block < h.size := by have := cl_lt (x 0 _ rfl); rwa [add_block] at this
theorem Vv7.blk {h : Heap} {b : Nat} {v : Vv} (k : blk h b (vvs v)) : Vv7 h ⟨b, 0, none⟩ v := fun j u hu => by rw [add_plain, k.cl, Nat.zero_add]; exact hu
theorem one_vv (v : Vv) : ∀ u ∈ (vvs v).toList, u.oneCell' = true := by
  intro u hu
  simp only [List.mem_cons, List.not_mem_nil, or_false] at hu
  rcases hu with rfl | rfl | rfl | rfl | rfl | rfl | rfl <;> rfl
section
variable {h : Heap}
theorem rd7 {p : Addr} {v : Vv} {K : Int → Int → ByteArray → Sv → Int → Sv → Int → Prop} (x : Vv7 h p v) (k : K v.k v.n v.nm v.ps v.al v.pa v.tg) :
    ∃ (y : Int) (y1 : Int) (y2 : ByteArray) (y3 : Sv) (y4 : Int) (y5 : Sv) (y6 : Int), cl h p = some (.int .i64 y) ∧ cl h (p.add 1) = some (.int .u64 y1) ∧ cl h (p.add 2) = some (.string y2) ∧ cl h (p.add 3) = some (.slice y3.a y3.n y3.c) ∧ cl h (p.add 4) = some (.int .i64 y4) ∧ cl h (p.add 5) = some (.slice y5.a y5.n y5.c) ∧ cl h (p.add 6) = some (.int .i64 y6) ∧ K y y1 y2 y3 y4 y5 y6 := by
  have h0 := x 0 _ rfl
  rw [add_zero] at h0
  exact ⟨_, _, _, v.ps, _, v.pa, _, h0, x 1 _ rfl, x 2 _ rfl, x 3 _ rfl, x 4 _ rfl, x 5 _ rfl, x 6 _ rfl, k⟩
theorem newV {v : Vv} {K : Addr → Heap → Prop} (k : ∀ h', blk h' h.size (vvs v) → Grow h h' → h'.size = h.size + 1 → K ⟨h.size, 0, none⟩ h') : new 33 (vvs v) h K := by
  rintro p h' rfl rfl
  exact k _ (blk.new _ _ _) (Fr.push _ _ _) (by simp)
theorem stoV {b : Nat} {cs : Array Value} {v : Vv} {K : Heap → Prop} (kk : blk h b cs) (hs : cs.size = 7) (k : ∀ h', blk h' b (vvs v) → Fr (fun i => i = b) h h' → K h') : stoA h ⟨b, 0, none⟩ (vvs v).toList K :=
  stoA_i kk (by rw [hs]; rfl) (one_vv v) k
/-- a value laid in a place of one's own -/
theorem mineV {v : Vv} {K : Addr → Heap → Prop} (k : ∀ h', blk h' h.size (vvs v) → Grow h h' → K ⟨h.size, 0, none⟩ h') : new 33 (vvs zVv) h fun p h1 => stoA h1 p (vvs v).toList fun h2 => K p h2 :=
  newV (v := zVv) fun h1 b1 f1 z1 => stoV b1 rfl fun h2 b2 f2 => k h2 b2 (f1.trans' f2 fun i hi e => by omega)
/-- some cells of a block written -/
theorem stoB {g o : Nat} {cur : Array Value} {vs : List Value} {K : Heap → Prop} (kk : blk h g cur) (hfit : o + vs.length ≤ cur.size) (h1 : ∀ v ∈ vs, v.oneCell' = true)
    (k : ∀ h' cur', blk h' g cur' → cur'.size = cur.size → (∀ i, o ≤ i → i < o + vs.length → cur'[i]? = vs[i - o]?) → (∀ i, i < o ∨ o + vs.length ≤ i → cur'[i]? = cur[i]?) → Fr (fun b => b = g) h h' → K h') : stoA h ⟨g, o, none⟩ vs K := by
  refine ⟨h1, fun j hj => ?_, ?_⟩
  · rw [add_plain, kk.cl, kk.fz]
    have : o + j < cur.size := by omega
    simp [this]
  · rintro h' rfl
    have hs := scs_blk g vs h cur o 0 kk
    simp only [Nat.add_zero] at hs
    have hf := fold_set vs cur o hfit
    generalize (vs.zipIdx o).foldl (fun c p => c.setIfInBounds p.2 p.1) cur = cur' at *
    have hget : ∀ i, cur'[i]? = (cur.toList.take o ++ vs ++ cur.toList.drop (o + vs.length))[i]? := fun i => by rw [← hf, Array.getElem?_toList]
    refine k _ cur' hs.1 ?_ (fun i h1 h2 => ?_) (fun i hi => ?_) hs.2
    · have := congrArg List.length hf
      simp at this
      omega
    · have hl : (cur.toList.take o).length = o := by simp; omega
      rw [hget, List.append_assoc, List.getElem?_append_right (by omega), hl, List.getElem?_append_left (by omega)]
    · have hl : (cur.toList.take o).length = o := by simp; omega
      rw [hget]
      rcases hi with hi | hi
      · rw [List.append_assoc, List.getElem?_append_left (by omega), List.getElem?_take, if_pos hi, Array.getElem?_toList]
      · rw [List.getElem?_append_right (by simp; omega), List.getElem?_drop, Array.getElem?_toList]
        congr 1
        simp
        omega
end
/-! ### trees -/
def shA (A : List Nat → Nat → Prop) (j : Nat) : List Nat → Nat → Prop := fun σ => A (j :: σ)
def VAt (o : Bool) (Q : Nat → Prop) (h : Heap) : Vl → (List Nat → Nat → Prop) → Vv → Prop :=
  Vl.rec (motive_1 := fun _ => (List Nat → Nat → Prop) → Vv → Prop) (motive_2 := fun _ => (List Nat → Nat → Prop) → Sv → Nat → Prop)
    (fun k n nm ts al pa tg ih A v => v.k = k ∧ v.n = n ∧ v.nm = nm ∧ v.al = al ∧ v.tg = tg ∧ IntsC Q h v.pa pa ∧ v.ps.n = ts.length ∧ ih A v.ps 0)
    (fun _ _ _ => True)
    (fun _ _ ih1 ih2 A s i => (∃ p v, s.a = some p ∧ A [] p.block ∧ (o = true → p.off = 0 ∧ p.spot = none ∧ ∃ cs, blk h p.block cs ∧ (i + 1) * 7 ≤ cs.size) ∧ Vv7 h (p.add (i * 7)) v ∧ ih1 (shA A i) v) ∧ ih2 A s (i + 1))
def PartsAt (o : Bool) (Q : Nat → Prop) (h : Heap) : List Vl → (List Nat → Nat → Prop) → Sv → Nat → Prop
  | [], _, _, _ => True
  | a :: az, A, s, i => (∃ p v, s.a = some p ∧ A [] p.block ∧ (o = true → p.off = 0 ∧ p.spot = none ∧ ∃ cs, blk h p.block cs ∧ (i + 1) * 7 ≤ cs.size) ∧ Vv7 h (p.add (i * 7)) v ∧ VAt o Q h a (shA A i) v) ∧ PartsAt o Q h az A s (i + 1)
section
variable {o : Bool} {Q Q' T : Nat → Prop} {h h' : Heap} {A A' : List Nat → Nat → Prop}
theorem partsAt_rec (az : List Vl) (A : List Nat → Nat → Prop) (s : Sv) (i : Nat) : (Vl.rec_1 (motive_1 := fun _ => (List Nat → Nat → Prop) → Vv → Prop) (motive_2 := fun _ => (List Nat → Nat → Prop) → Sv → Nat → Prop)
    (fun k n nm ts al pa tg ih A v => v.k = k ∧ v.n = n ∧ v.nm = nm ∧ v.al = al ∧ v.tg = tg ∧ IntsC Q h v.pa pa ∧ v.ps.n = ts.length ∧ ih A v.ps 0)
    (fun _ _ _ => True)
    (fun _ _ ih1 ih2 A s i => (∃ p v, s.a = some p ∧ A [] p.block ∧ (o = true → p.off = 0 ∧ p.spot = none ∧ ∃ cs, blk h p.block cs ∧ (i + 1) * 7 ≤ cs.size) ∧ Vv7 h (p.add (i * 7)) v ∧ ih1 (shA A i) v) ∧ ih2 A s (i + 1)) az : (List Nat → Nat → Prop) → Sv → Nat → Prop) A s i = PartsAt o Q h az A s i := by
  induction az generalizing i with
  | nil => rfl
  | cons a az ih => rw [PartsAt, ← ih (i + 1)]; rfl
theorem partsAt_iff (az : List Vl) (A : List Nat → Nat → Prop) (s : Sv) (i : Nat) : PartsAt o Q h az A s i ↔ ∀ j (hj : j < az.length), ∃ p v, s.a = some p ∧ A [] p.block ∧ (o = true → p.off = 0 ∧ p.spot = none ∧ ∃ cs, blk h p.block cs ∧ (i + j + 1) * 7 ≤ cs.size) ∧ Vv7 h (p.add ((i + j) * 7)) v ∧ VAt o Q h az[j] (shA A (i + j)) v := by
  induction az generalizing i with
  | nil => simp [PartsAt]
  | cons a az ih =>
    rw [PartsAt, ih (i + 1)]
    constructor
    · rintro ⟨h1, h2⟩ j hj
      cases j with
      | zero => simpa using h1
      | succ j =>
        have := h2 j (by simpa using hj)
        rw [show i + 1 + j = i + (j + 1) by omega] at this
        simpa using this
    · intro H
      refine ⟨H 0 (Nat.zero_lt_succ _), fun j hj => ?_⟩
      have := H (j + 1) (by simpa using hj)
      rw [show i + (j + 1) = i + 1 + j by omega] at this
      simpa using this
theorem vAt_iff {k n : Int} {nm : ByteArray} {ts : List Vl} {al : Int} {pa : List Int} {tg : Int} {v : Vv} : VAt o Q h (.mk k n nm ts al pa tg) A v ↔
    (v.k = k ∧ v.n = n ∧ v.nm = nm ∧ v.al = al ∧ v.tg = tg ∧ IntsC Q h v.pa pa ∧ v.ps.n = ts.length ∧ ∀ j (hj : j < ts.length), ∃ p u, v.ps.a = some p ∧ A [] p.block ∧ (o = true → p.off = 0 ∧ p.spot = none ∧ ∃ cs, blk h p.block cs ∧ (j + 1) * 7 ≤ cs.size) ∧ Vv7 h (p.add (j * 7)) u ∧ VAt o Q h ts[j] (shA A j) u) := by
  have e := partsAt_iff (o := o) (Q := Q) (h := h) ts A v.ps 0
  rw [← partsAt_rec] at e
  simp only [Nat.zero_add] at e
  rw [← e]
  rfl
theorem VAt.fr (f : Fr T h h') (hQ : ∀ b, Q b → ¬ T b) : ∀ {t : Vl} {A : List Nat → Nat → Prop} {v : Vv}, (∀ σ b, A σ b → ¬ T b) → VAt o Q h t A v → VAt o Q h' t A v := by
  intro t
  refine Vl.ind (P := fun t => ∀ {A : List Nat → Nat → Prop} {v : Vv}, (∀ σ b, A σ b → ¬ T b) → VAt o Q h t A v → VAt o Q h' t A v) ?_ t
  intro k n nm ts al pa tg ih A v hA hv
  rw [vAt_iff] at hv ⊢
  obtain ⟨e1, e2, e3, e4, e5, e6, e7, e8⟩ := hv
  refine ⟨e1, e2, e3, e4, e5, e6.fr f hQ, e7, fun j hj => ?_⟩
  obtain ⟨p, u, q1, q2, q3, q4, q5⟩ := e8 j hj
  refine ⟨p, u, q1, q2, fun ho => ?_, q4.fr f (by rw [add_block]; exact hA _ _ q2), ih _ (List.getElem_mem hj) (fun σ => hA (j :: σ)) q5⟩
  obtain ⟨r1, r2, cs, r3, r4⟩ := q3 ho
  exact ⟨r1, r2, cs, f.blk r3 (hA _ _ q2), r4⟩
theorem VAt.weak (hQ : ∀ b, Q b → b < h.size → Q' b) {o' : Bool} (ho : o' = true → o = true) : ∀ {t : Vl} {A A' : List Nat → Nat → Prop} {v : Vv}, (∀ σ b, A σ b → b < h.size → A' σ b) → VAt o Q h t A v → VAt o' Q' h t A' v := by
  intro t
  refine Vl.ind (P := fun t => ∀ {A A' : List Nat → Nat → Prop} {v : Vv}, (∀ σ b, A σ b → b < h.size → A' σ b) → VAt o Q h t A v → VAt o' Q' h t A' v) ?_ t
  intro k n nm ts al pa tg ih A A' v hA hv
  rw [vAt_iff] at hv ⊢
  obtain ⟨e1, e2, e3, e4, e5, e6, e7, e8⟩ := hv
  refine ⟨e1, e2, e3, e4, e5, e6.weak hQ, e7, fun j hj => ?_⟩
  obtain ⟨p, u, q1, q2, q3, q4, q5⟩ := e8 j hj
  exact ⟨p, u, q1, hA _ _ q2 (by have := q4.lt; rwa [add_block] at this), fun h => q3 (ho h), q4, ih _ (List.getElem_mem hj) (fun σ => hA (j :: σ)) q5⟩
theorem VAt.grow {t : Vl} {v : Vv} (x : VAt o Q h t A v) (f : Grow h h') : VAt o Q h' t A v := x.fr f (fun _ _ h => h) fun _ _ _ h => h
/-- only read -/
abbrev anyA (Q : Nat → Prop) : List Nat → Nat → Prop := fun _ b => Q b
end
/-! ### parts -/
def getV : Vl → List Int → Except Int Vl
  | t, [] => .ok t
  | .mk k n nm ts al pa tg, i :: π => if k = 0 then .error 3 else if k ≠ 5 ∨ i < 0 ∨ (ts.length : Int) ≤ i then .error 4 else match ts[i.toNat]? with
    | some u => getV u π
    | none => .error 4
def putV : Vl → List Nat → Vl → Vl
  | _, [], x => x
  | .mk k n nm ts al pa tg, j :: π, x => .mk k n nm (match ts[j]? with | some u => ts.set j (putV u π x) | none => ts) al pa tg
def getN : Vl → List Nat → Option Vl
  | t, [] => some t
  | .mk k n nm ts al pa tg, j :: π => match ts[j]? with
    | some u => getN u π
    | none => none
/-- the place of a part -/
def Pl (h : Heap) : Addr → List Nat → Addr → Prop
  | p0, [], p => p = p0
  | p0, j :: π, p => ∃ (s : Sv) (q : Addr), cl h (p0.add 3) = some (.slice s.a s.n s.c) ∧ s.a = some q ∧ Pl h (q.add (j * 7)) π p
section
variable {Q : Nat → Prop} {h h' : Heap}
theorem Pl.at_ : ∀ {π : List Nat} {t y : Vl} {A : List Nat → Nat → Prop} {p0 p : Addr} {v : Vv} {o : Bool}, Pl h p0 π p → Vv7 h p0 v → VAt o Q h t A v → getN t π = some y →
    ∃ u, Vv7 h p u ∧ VAt o Q h y (fun σ => A (π ++ σ)) u ∧ ((π = [] ∧ p = p0) ∨ ∃ τ, τ.length < π.length ∧ A τ p.block ∧ τ = π.dropLast)
  | [], t, y, A, p0, p, v, o, hp, hv, ht, hg => by
    obtain rfl : p = p0 := hp
    unfold getN at hg
    simp only [Option.some.injEq] at hg
    subst hg
    exact ⟨v, hv, ht, .inl ⟨rfl, rfl⟩⟩
  | j :: π, .mk k n nm ts al pa tg, y, A, p0, p, v, o, hp, hv, ht, hg => by
    obtain ⟨s, q, c, e, hp'⟩ := hp
    obtain ⟨e1, e2, e3, e4, e5, e6, e7, e8⟩ := vAt_iff.1 ht
    unfold getN at hg
    split at hg
    · rename_i u hu
      obtain ⟨hj, rfl⟩ := List.getElem?_eq_some_iff.1 hu
      obtain ⟨q', u', r1, r2, r3, r4, r5⟩ := e8 j hj
      have c' : cl h (p0.add 3) = some (.slice v.ps.a v.ps.n v.ps.c) := hv 3 _ rfl
      rw [c] at c'
      simp only [Option.some.injEq, Value.slice.injEq] at c'
      rw [e, r1] at c'
      obtain rfl : q = q' := by simpa using c'.1
      obtain ⟨u, g1, g2, g3⟩ := Pl.at_ hp' r4 r5 hg
      refine ⟨u, g1, g2, .inr ?_⟩
      rcases g3 with ⟨rfl, rfl⟩ | ⟨τ, l1, l2, l3⟩
      · exact ⟨[], by simp, by rw [add_block]; exact r2, rfl⟩
      · refine ⟨j :: τ, by simpa using l1, l2, ?_⟩
        cases π with
        | nil => simp at l1
        | cons a π => rw [l3]; rfl
    · cases hg
/-- one part written anew, the others as they were -/
theorem put_at : ∀ {π : List Nat} {t y x : Vl} {A : List Nat → Nat → Prop} {p0 p : Addr} {v u : Vv}, Pl h p0 π p → Vv7 h p0 v → VAt true Q h t A v → getN t π = some y →
    (∀ σ b, A σ b → b ≠ p0.block) → (∀ σ σ' b, A σ b → A σ' b → σ = σ') → (∀ b, Q b → ∀ σ, ¬ A σ b) → (∀ b, Q b → b ≠ p0.block) →
    Fr (fun b => b = p.block) h h' → Vv7 h' p u → (∀ i, (∀ k, k < 7 → ∀ c, p.off + k = c → i ≠ c) → ∀ w, cl h ⟨p.block, i, none⟩ = some w → cl h' ⟨p.block, i, none⟩ = some w) → (∀ cs, blk h p.block cs → ∃ cs', blk h' p.block cs' ∧ cs'.size = cs.size) → p.spot = none →
    VAt true Q h' x (fun σ => A (π ++ σ)) u → ∃ v', Vv7 h' p0 v' ∧ VAt true Q h' (putV t π x) A v' ∧ (π ≠ [] → v' = v) ∧ (π = [] → v' = u)
  | [], t, y, x, A, p0, p, v, u, hp, hv, ht, hg, d1, d2, d3, d4, f, hu, hout, hblk, hspot, hx => by
    obtain rfl : p = p0 := hp
    exact ⟨u, hu, hx, fun h => absurd rfl h, fun _ => rfl⟩
  | j :: π, .mk k n nm ts al pa tg, y, x, A, p0, p, v, u, hp, hv, ht, hg, d1, d2, d3, d4, f, hu, hout, hblk, hspot, hx => by
    have hpl := hp.at_ hv ht hg
    obtain ⟨s, q, c, e, hp'⟩ := hp
    obtain ⟨e1, e2, e3, e4, e5, e6, e7, e8⟩ := vAt_iff.1 ht
    unfold getN at hg
    split at hg
    rotate_left
    · cases hg
    rename_i u0 hu0
    obtain ⟨hj, rfl⟩ := List.getElem?_eq_some_iff.1 hu0
    obtain ⟨q', u', r1, r2, r3, r4, r5⟩ := e8 j hj
    have c' : cl h (p0.add 3) = some (.slice v.ps.a v.ps.n v.ps.c) := hv 3 _ rfl
    rw [c] at c'
    simp only [Option.some.injEq, Value.slice.injEq] at c'
    rw [e, r1] at c'
    obtain rfl : q = q' := by simpa using c'.1
    obtain ⟨τ0, l1, l2, l3⟩ : ∃ τ : List Nat, τ.length < (j :: π).length ∧ A τ p.block ∧ τ = (j :: π).dropLast := by
      obtain ⟨_, _, _, g3⟩ := hpl
      rcases g3 with ⟨h, _⟩ | ⟨τ, a, b, c⟩
      · cases h
      · exact ⟨τ, a, b, c⟩
    have hpb : p.block ≠ p0.block := d1 _ _ l2
    have hv' : Vv7 h' p0 v := hv.fr f fun h => hpb h.symm
    obtain ⟨s1, s2, cs, s3, s4⟩ := r3 rfl
    have hpu : putV (.mk k n nm ts al pa tg) (j :: π) x = .mk k n nm (ts.set j (putV ts[j] π x)) al pa tg := by
      conv => lhs; unfold putV
      rw [hu0]
    -- the part itself
    obtain ⟨w, w1, w2, w3, w4⟩ := put_at (π := π) (x := x) (A := shA A j) hp' r4 r5 hg (fun σ b hb hbq => by
        rw [add_block] at hbq
        rw [hbq] at hb
        have := d2 _ _ _ hb r2
        cases this) (fun σ σ' b a b' => by have := d2 _ _ _ a b'; simpa using this) (fun b hb σ => d3 b hb _) (fun b hb hbq => by rw [add_block] at hbq; rw [hbq] at hb; exact d3 _ hb _ r2) f hu hout hblk hspot hx
    refine ⟨v, hv', ?_, fun _ => rfl, fun h => (by cases h)⟩
    rw [hpu]
    refine vAt_iff.2 ⟨e1, e2, e3, e4, e5, e6.fr f fun b hb h => d3 b hb _ (h ▸ l2), by rw [List.length_set]; exact e7, fun i hi => ?_⟩
    have hi' : i < ts.length := by rw [List.length_set] at hi; exact hi
    -- the row that it lies in
    have hrow : ∃ cs', blk h' q.block cs' ∧ cs'.size = cs.size := by
      by_cases hpq : p.block = q.block
      · obtain ⟨cs', b1, b2⟩ := hblk cs (hpq ▸ s3)
        exact ⟨cs', hpq ▸ b1, b2⟩
      · exact ⟨cs, f.blk s3 fun h => hpq h.symm, rfl⟩
    obtain ⟨cs', b1, b2⟩ := hrow
    obtain ⟨qi, ui, t1, t2, t3, t4, t5⟩ := e8 i hi'
    rw [r1] at t1
    obtain rfl : q = qi := by simpa using t1
    have hsz : (i + 1) * 7 ≤ cs'.size := by
      obtain ⟨-, -, cs2, y3, y4⟩ := t3 rfl
      obtain ⟨E1, z1⟩ := s3
      obtain ⟨E2, z2⟩ := y3
      rw [z1] at z2
      simp only [Option.some.injEq, Obj.cells.injEq] at z2
      rw [b2, z2.1]; exact y4
    by_cases hij : i = j
    · subst hij
      refine ⟨q, w, r1, r2, fun _ => ⟨s1, s2, cs', b1, hsz⟩, w1, ?_⟩
      rw [List.getElem_set_self]
      exact w2
    · refine ⟨q, ui, r1, r2, fun _ => ⟨s1, s2, cs', b1, hsz⟩, ?_, ?_⟩
      · -- a sibling's cells
        by_cases hpq : p.block = q.block
        · -- then the part written lies in this very row
          have hτ : τ0 = [] := d2 _ _ _ l2 (hpq ▸ r2)
          have hπ : π = [] := by
            rw [hτ] at l3
            cases π with
            | nil => rfl
            | cons a π => simp at l3
          subst hπ
          obtain rfl : p = q.add (j * 7) := hp'
          intro m z hz
          have hm : m < 7 := (Array.getElem?_eq_some_iff.1 hz).1
          have h0 := t4 m z hz
          obtain ⟨qb, qo, qs⟩ := q
          simp only at s1 s2
          subst s1 s2
          rw [add_plain, add_plain] at h0 ⊢
          simp only [add_plain, Nat.zero_add] at hout h0 ⊢
          refine hout _ (fun k hk c hc => ?_) z h0
          rcases Nat.lt_or_ge i j with h | h
          · have := Nat.mul_le_mul_right 7 (show i + 1 ≤ j from h)
            omega
          · have := Nat.mul_le_mul_right 7 (show j + 1 ≤ i by omega)
            omega
        · exact t4.fr f (by rw [add_block]; exact fun h => hpq h.symm)
      · rw [List.getElem_set_ne (fun h => hij h.symm)]
        refine t5.fr f (fun b hb h => d3 b hb _ (h ▸ l2)) fun σ b hb h => ?_
        rw [h] at hb
        have := d2 _ _ _ hb l2
        rw [l3] at this
        cases π with
        | nil => simp at this
        | cons a π =>
          simp at this
          exact hij this.1
end
end Go.Proofs.Ytggacajnmgligaa

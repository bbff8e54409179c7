/-
  Reasoning over the lifted propositions: blocks, frames, slices of one's own.
-/
import Derived.Test.YtggacajnmgligaaLiftA
namespace Go.Lf
open Go

/-! ### Blocks -/
def blk (h : Heap) (b : Nat) (cs : Array Value) : Prop := ∃ E, h[b]? = some (.cells cs E (0, 0))

theorem blk.lt {h : Heap} {b : Nat} {cs : Array Value} (k : blk h b cs) : b < h.size := by
  obtain ⟨E, k⟩ := k
  rcases Nat.lt_or_ge b h.size with e | e
  · exact e
  · simp [Array.getElem?_eq_none e] at k
theorem blk.cl {h : Heap} {b : Nat} {cs : Array Value} (k : blk h b cs) (o : Nat) : cl h ⟨b, o, none⟩ = cs[o]? := by
  obtain ⟨E, k⟩ := k; simp [Lf.cl, k]
theorem blk.fz {h : Heap} {b : Nat} {cs : Array Value} (k : blk h b cs) (o : Nat) : fz h ⟨b, o, none⟩ = false := by
  obtain ⟨E, k⟩ := k; simp [Lf.fz, k]
theorem blk.push {h : Heap} {b : Nat} {cs : Array Value} (k : blk h b cs) (o : Obj) : blk (h.push o) b cs := by
  have := k.lt
  obtain ⟨E, k⟩ := k
  exact ⟨E, by rw [Array.getElem?_push, if_neg (by omega)]; exact k⟩
theorem blk.new (h : Heap) (cs : Array Value) (E : TypeId) : blk (h.push (.cells cs E)) h.size cs := ⟨E, by simp⟩
theorem blk.sc {h : Heap} {b : Nat} {cs : Array Value} (k : blk h b cs) (o : Nat) (v : Value) : blk (sc h ⟨b, o, none⟩ v) b (cs.setIfInBounds o v) := by
  obtain ⟨E, k⟩ := k
  exact ⟨E, by rw [sc_get, if_pos rfl, k]; rfl⟩
theorem blk.scne {h : Heap} {b : Nat} {cs : Array Value} (k : blk h b cs) {p : Addr} (hp : p.block ≠ b) (v : Value) : blk (Lf.sc h p v) b cs := by
  obtain ⟨E, k⟩ := k
  exact ⟨E, by rw [sc_get, if_neg hp]; exact k⟩

@[simp] theorem add_plain (b o n : Nat) : (⟨b, o, none⟩ : Addr).add n = ⟨b, o + n, none⟩ := by
  unfold Addr.add; split <;> simp_all

/-! ### What stays -/
structure Fr (T : Nat → Prop) (h h' : Heap) : Prop where
  size : h.size ≤ h'.size
  same : ∀ b, b < h.size → ¬ T b → h'[b]? = h[b]?
abbrev Grow (h h' : Heap) : Prop := Fr (fun _ => False) h h'
theorem Fr.refl (T : Nat → Prop) (h : Heap) : Fr T h h := ⟨Nat.le_refl _, fun _ _ _ => rfl⟩
theorem Fr.trans {T : Nat → Prop} {a b c : Heap} (x : Fr T a b) (y : Fr T b c) : Fr T a c :=
  ⟨Nat.le_trans x.size y.size, fun i hi hT => (y.same i (Nat.lt_of_lt_of_le hi x.size) hT).trans (x.same i hi hT)⟩
/-- what is new to the elder heap may be written -/
theorem Fr.trans' {T T' : Nat → Prop} {a b c : Heap} (x : Fr T a b) (y : Fr T' b c) (hT : ∀ i, i < a.size → T' i → T i) : Fr T a c :=
  ⟨Nat.le_trans x.size y.size, fun i hi hn => (y.same i (Nat.lt_of_lt_of_le hi x.size) (fun h => hn (hT i hi h))).trans (x.same i hi hn)⟩
theorem Fr.mono {T T' : Nat → Prop} {a b : Heap} (x : Fr T a b) (hT : ∀ i, i < a.size → T i → T' i) : Fr T' a b :=
  ⟨x.size, fun i hi hn => x.same i hi fun h => hn (hT i hi h)⟩
theorem Fr.push (T : Nat → Prop) (h : Heap) (o : Obj) : Fr T h (h.push o) := ⟨by simp, fun b hb _ => by rw [Array.getElem?_push, if_neg (by omega)]⟩
theorem Fr.sc {T : Nat → Prop} (h : Heap) {p : Addr} (hp : T p.block) (v : Value) : Fr T h (Lf.sc h p v) :=
  ⟨by rw [sc_size]; exact Nat.le_refl _, fun b _ hT => by
    have hne : p.block ≠ b := fun e => hT (by rw [← e]; exact hp)
    rw [sc_get, if_neg hne]⟩
theorem Fr.scb (h : Heap) (g o : Nat) (v : Value) : Fr (fun b => b = g) h (Lf.sc h ⟨g, o, none⟩ v) := Fr.sc (T := fun b => b = g) h (p := ⟨g, o, none⟩) rfl v
theorem Fr.blk {T : Nat → Prop} {h h' : Heap} (x : Fr T h h') {b : Nat} {cs : Array Value} (k : blk h b cs) (hT : ¬ T b) : Lf.blk h' b cs := by
  have := x.same b k.lt hT
  obtain ⟨E, k⟩ := k
  exact ⟨E, by rw [this, k]⟩
theorem Fr.cl {T : Nat → Prop} {h h' : Heap} (x : Fr T h h') {p : Addr} (hl : p.block < h.size) (hT : ¬ T p.block) : Lf.cl h' p = Lf.cl h p := by
  unfold Lf.cl; rw [x.same _ hl hT]
theorem cl_lt {h : Heap} {p : Addr} {v : Value} (hc : cl h p = some v) : p.block < h.size := by
  rcases Nat.lt_or_ge p.block h.size with e | e
  · exact e
  · simp [cl, Array.getElem?_eq_none e] at hc
theorem Fr.clk {T : Nat → Prop} {h h' : Heap} (x : Fr T h h') {p : Addr} {v : Value} (hc : Lf.cl h p = some v) (hT : ¬ T p.block) : Lf.cl h' p = some v := by
  rw [x.cl (cl_lt hc) hT]; exact hc

/-! ### A slice of one's own: from a block's head, nobody else's -/
/-- slice `s` of elements of `sz` cells owns the cells `xs`, in a block from `B` on, or is nil -/
structure Own (h : Heap) (B : Nat) (sz : Nat) (s : Sv) (xs : List Value) : Prop where
  len : xs.length = s.n * sz
  mem : (s.a = none ∧ s.n = 0 ∧ s.c = 0) ∨ ∃ g cur, s.a = some ⟨g, 0, none⟩ ∧ B ≤ g ∧ blk h g cur ∧ s.n ≤ s.c ∧ cur.size = s.c * sz ∧ cur.toList.take (s.n * sz) = xs
def Sv.own (s : Sv) (b : Nat) : Prop := ∃ a, s.a = some a ∧ a.block = b

theorem Own.nil (h : Heap) (B : Nat) (sz : Nat) : Own h B sz ⟨none, 0, 0⟩ [] := ⟨by simp, .inl ⟨rfl, rfl, rfl⟩⟩
theorem Own.frame {T : Nat → Prop} {h h' : Heap} {B : Nat} {sz : Nat} {s : Sv} {xs : List Value} (o : Own h B sz s xs) (x : Fr T h h') (hT : ∀ b, s.own b → ¬ T b) : Own h' B sz s xs := by
  refine ⟨o.len, o.mem.imp id ?_⟩
  rintro ⟨g, cur, e, hB, k, r⟩
  exact ⟨g, cur, e, hB, x.blk k (hT g ⟨_, e, rfl⟩), r⟩
theorem Own.row {h : Heap} {B : Nat} {sz : Nat} {s : Sv} {xs : List Value} (o : Own h B sz s xs) : RowO h s.a xs := by
  rcases o.mem with ⟨e, e2, _⟩ | ⟨g, cur, e, _, k, _, _, ht⟩
  · rw [e]
    have := o.len
    rw [e2] at this
    simpa [RowO] using this
  · rw [e]
    intro j v hv
    rw [add_plain, k.cl]
    rw [← ht, List.getElem?_take] at hv
    split at hv
    · simpa using hv
    · cases hv
theorem Own.ge {h : Heap} {B : Nat} {sz : Nat} {s : Sv} {xs : List Value} (o : Own h B sz s xs) {b : Nat} (hb : s.own b) : B ≤ b ∧ b < h.size := by
  obtain ⟨a, e, rfl⟩ := hb
  rcases o.mem with ⟨e', _⟩ | ⟨g, cur, e', hB, k, _⟩
  · rw [e'] at e; cases e
  · rw [e'] at e
    simp only [Option.some.injEq] at e
    subst e
    exact ⟨hB, k.lt⟩

theorem scs_blk (g : Nat) : ∀ (vs : List Value) (h : Heap) (cur : Array Value) (o i : Nat), blk h g cur →
    blk (scs h ⟨g, o, none⟩ vs i) g ((vs.zipIdx (o + i)).foldl (fun c p => c.setIfInBounds p.2 p.1) cur) ∧ Fr (fun b => b = g) h (scs h ⟨g, o, none⟩ vs i)
  | [], h, cur, o, i, k => ⟨k, Fr.refl _ _⟩
  | v :: vs, h, cur, o, i, k => by
    have k' := k.sc (o + i) v
    have := scs_blk g vs _ _ o (i + 1) k'
    simp only [scs, add_plain, List.zipIdx_cons, List.foldl_cons]
    refine ⟨?_, (Fr.sc (T := fun b => b = g) h (p := ⟨g, o + i, none⟩) rfl v).trans this.2⟩
    have e : o + i + 1 = o + (i + 1) := by omega
    rw [e]
    exact this.1

theorem fold_set (vs : List Value) : ∀ (cur : Array Value) (o : Nat), o + vs.length ≤ cur.size →
    ((vs.zipIdx o).foldl (fun c p => c.setIfInBounds p.2 p.1) cur).toList = cur.toList.take o ++ vs ++ cur.toList.drop (o + vs.length) := by
  induction vs with
  | nil => intro cur o h; simp
  | cons v vs ih =>
    intro cur o h
    simp only [List.length_cons] at h
    simp only [List.zipIdx_cons, List.foldl_cons]
    rw [ih _ _ (by simp; omega)]
    have h1 : (cur.setIfInBounds o v).toList = cur.toList.set o v := by simp
    rw [h1]
    apply List.ext_getElem?
    intro k
    simp only [List.getElem?_append, List.getElem?_take, List.getElem?_drop, List.length_append, List.length_take, List.length_set, List.getElem?_set, Array.length_toList, List.length_cons]
    rcases Nat.lt_trichotomy k o with e | e | e
    · have a1 : k < min (o + 1) cur.size + vs.length := by omega
      have a2 : k < min (o + 1) cur.size := by omega
      have a3 : k < min o cur.size + (vs.length + 1) := by omega
      have a4 : k < min o cur.size := by omega
      have a5 : k < o + 1 := by omega
      have a6 : ¬ o = k := by omega
      simp [a1, a2, a3, a4, a5, a6, e]
    · subst e
      have a1 : k < min (k + 1) cur.size + vs.length := by omega
      have a2 : k < min (k + 1) cur.size := by omega
      have a3 : k < min k cur.size + (vs.length + 1) := by omega
      have a4 : ¬ k < min k cur.size := by omega
      have a7 : k < cur.size := by omega
      have a8 : k - min k cur.size = 0 := by omega
      simp [a1, a2, a3, a4, a7, a8]
    · have a2 : ¬ k < min (o + 1) cur.size := by omega
      have a4 : ¬ k < min o cur.size := by omega
      have e1 : min (o + 1) cur.size = o + 1 := by omega
      have e2 : min o cur.size = o := by omega
      by_cases a1 : k < o + 1 + vs.length
      · have a3 : k < o + (vs.length + 1) := by omega
        have e3 : k - o = (k - (o + 1)) + 1 := by omega
        have a5 : ¬ k < o := by omega
        have a6 : ¬ k < o + 1 := by omega
        simp [e1, e2, a1, a3, e3, a5, a6]
      · have a3 : ¬ k < o + (vs.length + 1) := by omega
        have a5 : ¬ o = o + 1 + vs.length + (k - (o + 1 + vs.length)) := by omega
        have e4 : o + 1 + vs.length + (k - (o + 1 + vs.length)) = o + (vs.length + 1) + (k - (o + (vs.length + 1))) := by omega
        simp [e1, e2, a1, a3]
        rw [if_neg a5, e4]

/-- append to a slice of one's own -/
theorem appS_own {E : TypeId} {z : Array Value} {sz bytes : Nat} {h : Heap} {B : Nat} {s x : Sv} {xs news : List Value} {K : Sv → Heap → Prop} (hsz : z.size = sz) (o : Own h B sz s xs)
    (hl : news.length = x.n * sz) (hr : RowO h x.a news) (h1 : ∀ u ∈ news, u.oneCell' = true) (hB : B ≤ h.size) (h63 : s.n + x.n ≤ 9223372036854775807) (hb : (s.n + x.n) * bytes ≤ 140737488355328)
    (k : ∀ s' h', s'.n = s.n + x.n → Own h' B sz s' (xs ++ news) → Fr s.own h h' → (∀ b, s'.own b → s.own b ∨ h.size ≤ b) → K s' h') : appS E z sz bytes h s x K := by
  refine ⟨news, hl, hr, h1, fun hroom => ?_, fun hgrow => ?_⟩
  · rcases o.mem with ⟨e1, e2, e3⟩ | ⟨g, cur, e1, hg, kk, hn, hc, ht⟩
    · have hx0 : x.n = 0 := by omega
      have hn0 : news = [] := List.eq_nil_of_length_eq_zero (by rw [hl, hx0, Nat.zero_mul])
      subst hn0
      refine ⟨by rw [e1]; rfl, ?_⟩
      rintro s' h' rfl rfl
      rw [e1]
      refine k _ _ rfl ?_ (Fr.refl _ _) ?_
      · have hxs : xs = [] := List.eq_nil_of_length_eq_zero (by rw [o.len, e2, Nat.zero_mul])
        subst hxs
        exact ⟨by simp [e2, hx0], .inl ⟨rfl, by simp [e2, hx0], e3⟩⟩
      · rintro b ⟨a, ea, _⟩; cases ea
    · have hfit : s.n * sz + news.length ≤ cur.size := by rw [hl, hc, ← Nat.add_mul]; exact Nat.mul_le_mul_right _ hroom
      refine ⟨?_, ?_⟩
      · rw [e1]
        intro j hj
        simp only [add_plain, Nat.zero_add]
        refine ⟨?_, kk.fz _⟩
        rw [kk.cl]
        have : s.n * sz + j < cur.size := by omega
        simp [this]
      · rintro s' h' rfl rfl
        rw [e1]
        simp only [scsO, add_plain, Nat.zero_add]
        have hs := scs_blk g news h cur (s.n * sz) 0 kk
        simp only [Nat.add_zero] at hs
        have hf := fold_set news cur (s.n * sz) hfit
        refine k _ _ rfl ?_ (hs.2.mono fun i _ hi => ⟨_, e1, hi.symm⟩) ?_
        · refine ⟨by rw [List.length_append, o.len, hl, ← Nat.add_mul], .inr ⟨g, _, rfl, hg, hs.1, hroom, ?_, ?_⟩⟩
          · rw [← hc, ← Array.length_toList, hf]
            simp
            omega
          · rw [hf, ht]
            have : (s.n + x.n) * sz = (xs ++ news).length := by rw [List.length_append, o.len, hl, ← Nat.add_mul]
            rw [this]
            exact List.take_left
        · rintro b ⟨a, ea, eb⟩
          exact .inl ⟨a, by rw [e1]; exact ea, eb⟩
  · refine ⟨h63, growslice_fits hgrow hb, xs, o.len, o.row, ?_⟩
    rintro c s' h' hc rfl rfl
    have hz : (Builtin.zeroCells z (c - (s.n + x.n))).size = (c - (s.n + x.n)) * sz := by rw [size_zeroCells, hsz]
    refine k _ _ rfl ⟨by rw [List.length_append, o.len, hl, ← Nat.add_mul], .inr ⟨h.size, _, rfl, hB, blk.new _ _ _, hc, ?_, ?_⟩⟩ (Fr.push _ _ _) ?_
    · simp only [Array.size_append, List.size_toArray, hz, o.len, hl, ← Nat.add_mul]
      congr 1
      omega
    · simp only [Array.toList_append, List.append_assoc]
      have : (s.n + x.n) * sz = (xs ++ news).length := by rw [List.length_append, o.len, hl, ← Nat.add_mul]
      rw [this, ← List.append_assoc]
      exact List.take_left
    · rintro b ⟨a, ea, eb⟩
      simp only [Option.some.injEq] at ea
      subst ea
      exact .inr (by rw [← eb]; exact Nat.le_refl _)

/-- one element more -/
theorem app1 {E : TypeId} {z vs : Array Value} {sz bytes : Nat} {h : Heap} {B : Nat} {s : Sv} {xs : List Value} {K : Sv → Heap → Prop} (hsz : z.size = sz) (o : Own h B sz s xs)
    (hl : vs.size = sz) (h1 : ∀ u ∈ vs.toList, u.oneCell' = true) (hB : B ≤ h.size) (h63 : s.n + 1 ≤ 9223372036854775807) (hb : (s.n + 1) * bytes ≤ 140737488355328)
    (k : ∀ s' h', s'.n = s.n + 1 → Own h' B sz s' (xs ++ vs.toList) → Fr s.own h h' → (∀ b, s'.own b → s.own b ∨ h.size ≤ b) → K s' h') :
    newS E vs 1 h fun s1 h1 => appS E z sz bytes h1 s s1 K := by
  rintro s1 h1' rfl rfl
  have hf : Fr s.own h (h.push (.cells vs E)) := Fr.push _ _ _
  have o' : Own (h.push (.cells vs E)) B sz s xs := o.frame (Fr.push (fun _ => False) h (.cells vs E)) (fun _ _ h => h)
  refine appS_own hsz o' (news := vs.toList) (by simp [hl]) ?_ h1 (by simp; omega) h63 hb ?_
  · intro j v hv
    rw [add_plain, (blk.new h vs E).cl]
    simpa using hv
  · intro s' h' e1 e2 e3 e4
    refine k s' h' e1 e2 (hf.trans e3) fun b hb => (e4 b hb).imp id fun h => ?_
    simp at h
    omega

theorem made_get (v : Value) (hv : v.cells = #[v]) (k i : Nat) : (madeCells v.cells k)[i]? = if i < k then some v else none := by
  rw [hv]
  unfold madeCells
  simp only [Array.getElem?_map, Array.getElem?_range]
  split <;> simp [Nat.mod_one]

/-! ### Steps -/
section
variable {P : Program} {h : Heap} {p : Addr}
theorem cal_of {f : FuncId} {args : Array Value} {J K : Value → Heap → Prop} (c : CallsH P f args h J) (k : ∀ v h', J v h' → K v h') : cal P f args h K := ⟨J, c, k⟩
theorem ifb_dec {q : Prop} [Decidable q] {A B : Prop} (t : q → A) (f : ¬ q → B) : ifb (decide q) A B := ⟨fun e => t (of_decide_eq_true e), fun e => f (of_decide_eq_false e)⟩
theorem ifb_iff {b : Bool} {q : Prop} {A B : Prop} (hb : b = true ↔ q) (t : q → A) (f : ¬ q → B) : ifb b A B :=
  ⟨fun e => t (hb.1 e), fun e => f fun hq => by rw [hb.2 hq] at e; cases e⟩
theorem ixS_i {s : Sv} {i : Int} {K : Addr → Prop} {a : Addr} (e : s.a = some a) (h0 : 0 ≤ i) (h1 : i < s.n) (k : K a) : ixS s i K := ⟨a, e, h0, h1, k⟩
theorem ldI_i {k : IntKind} {x : Int} {K : Int → Prop} (c : cl h p = some (.int k x)) (hk : K x) : ldI k h p K := ⟨x, c, hk⟩
theorem ldB_i {x : Bool} {K : Bool → Prop} (c : cl h p = some (.bool x)) (hk : K x) : ldB h p K := ⟨x, c, hk⟩
theorem ldS_i {s : Sv} {K : Sv → Prop} (c : cl h p = some (.slice s.a s.n s.c)) (hk : K s) : ldS h p K := ⟨s, c, hk⟩
theorem nn_i {K : Addr → Prop} (hk : K p) : nn (some p) K := ⟨p, rfl, hk⟩
theorem sto_i {v : Value} {K : Heap → Prop} {b o : Nat} {cs : Array Value} (kk : blk h b cs) (ho : o < cs.size) (k : K (sc h ⟨b, o, none⟩ v)) : sto h ⟨b, o, none⟩ v K :=
  ⟨by rw [kk.cl]; simp [ho], kk.fz o, fun _ e => e ▸ k⟩
theorem wrap64_id {x : Int} (h0 : -9223372036854775808 ≤ x) (h1 : x ≤ 9223372036854775807) : IntKind.i64.wrap x = x := by rw [IntKind.wrap_i64]; omega
end
end Go.Lf

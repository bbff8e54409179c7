/-
  A list of structs copied, with a field more in one.
-/
import Derived.Test.YtomafdhiflbgcaaW3
namespace Go.Proofs.Ytomafdhiflbgcaa
open Go Go.Lf
set_option linter.unusedVariables false

def c6 (us : List Tv) : List Value := us.flatMap fun u => (tvs u).toList
theorem c6_len (us : List Tv) : (c6 us).length = us.length * 6 := by
  induction us with
  | nil => rfl
  | cons a l ih =>
    have e : c6 (a :: l) = (tvs a).toList ++ c6 l := rfl
    rw [e, List.length_append, ih, List.length_cons]
    simp
    omega
theorem c6_app (l m : List Tv) : c6 (l ++ m) = c6 l ++ c6 m := by simp [c6]
theorem c6_get : ∀ (us : List Tv) (i : Nat) (hi : i < us.length) (q : Nat), q < 6 → (c6 us)[i * 6 + q]? = (tvs us[i])[q]?
  | a :: us, 0, _, q, hq => by
    have e : c6 (a :: us) = (tvs a).toList ++ c6 us := rfl
    rw [e, Nat.zero_mul, Nat.zero_add, List.getElem?_append_left (by simpa [tvs] using hq)]
    simp
  | a :: us, i + 1, hi, q, hq => by
    have e : c6 (a :: us) = (tvs a).toList ++ c6 us := rfl
    have := c6_get us i (by simpa using hi) q hq
    rw [e, List.getElem?_append_right (by simp; omega)]
    have e2 : (i + 1) * 6 + q - (tvs a).toList.length = i * 6 + q := by simp; omega
    rw [e2, this]
    simp
theorem own6 {h : Heap} {B : Nat} {s : Sv} {us : List Tv} (o : Own h B 6 s (c6 us)) {i : Nat} (hi : i < us.length) : ∃ p, s.a = some p ∧ s.own p.block ∧ Tv6 h (p.add (i * 6)) us[i] := by
  have hn := o.len
  rw [c6_len] at hn
  have hr := o.row
  rcases o.mem with ⟨_, e, _⟩ | ⟨g, cur, e, _⟩
  · omega
  rw [e] at hr
  refine ⟨_, e, ⟨_, e, rfl⟩, ?_⟩
  have key : ∀ q v, q < 6 → (tvs us[i])[q]? = some v → cl h ((⟨g, 0, none⟩ : Addr).add (i * 6 + q)) = some v := fun q v hq hv => hr _ _ (by rw [c6_get us i hi q hq]; exact hv)
  unfold Tv6
  simp only [add_plain] at key ⊢
  exact ⟨key 0 _ (by omega) rfl, by rw [Nat.add_assoc]; exact key 1 _ (by omega) rfl, by rw [Nat.add_assoc]; exact key 2 _ (by omega) rfl, by rw [Nat.add_assoc]; exact key 3 _ (by omega) rfl, by rw [Nat.add_assoc]; exact key 4 _ (by omega) rfl, by rw [Nat.add_assoc]; exact key 5 _ (by omega) rfl⟩
section
variable {Q : Nat → Prop} {h : Heap}
/-- the parts of a type, as they stand -/
theorem args_row {k : Int} {nm : ByteArray} {mu : Bool} {r : Int} {rs : List Int} {az : List Ty} {v : Tv} (x : TyAt Q h (.mk k nm mu r rs az) v) : ∃ us : List Tv, us.length = az.length ∧ RowO h v.az.a (c6 us) ∧ ∀ i (hi : i < us.length) (hi' : i < az.length), TyAt Q h az[i] us[i] := by
  obtain ⟨-, -, -, -, -, e6, e7⟩ := tyAt_iff.1 x
  have key : ∀ i, i < az.length → ∃ u : Tv, ∃ p, v.az.a = some p ∧ Tv6 h (p.add (i * 6)) u ∧ ∀ (hi : i < az.length), TyAt Q h az[i] u := by
    intro i hi
    obtain ⟨p, u, q1, q2, q3, q4⟩ := e7 i hi
    exact ⟨u, p, q1, q3, fun _ => q4⟩
  have : ∃ us : List Tv, us.length = az.length ∧ ∀ i (hi : i < us.length), ∃ p, v.az.a = some p ∧ Tv6 h (p.add (i * 6)) us[i] ∧ ∀ (hi' : i < az.length), TyAt Q h az[i] us[i] := by
    refine ⟨(List.range az.length).attach.map fun i => Classical.choose (key i.1 (by simpa using i.2)), by simp, fun j hj => ?_⟩
    simp only [List.getElem_map, List.getElem_attach, List.getElem_range]
    exact Classical.choose_spec (key j (by simpa using hj))
  obtain ⟨us, hl, hall⟩ := this
  refine ⟨us, hl, ?_, fun i hi hi' => by obtain ⟨p, _, _, h3⟩ := hall i hi; exact h3 hi'⟩
  cases ha : v.az.a with
  | none =>
    cases us with
    | nil => rfl
    | cons u us =>
      obtain ⟨p, e, _⟩ := hall 0 (by simp)
      rw [ha] at e; cases e
  | some p =>
    intro j w hw
    have hj : j < (c6 us).length := (List.getElem?_eq_some_iff.1 hw).1
    rw [c6_len] at hj
    have hi : j / 6 < us.length := by omega
    obtain ⟨q, e, T, _⟩ := hall (j / 6) hi
    rw [ha] at e
    simp only [Option.some.injEq] at e
    subst e
    have hq : j % 6 < 6 := by omega
    have ej : j = j / 6 * 6 + j % 6 := by omega
    rw [ej] at hw ⊢
    rw [c6_get us (j / 6) hi (j % 6) hq] at hw
    generalize j % 6 = m at *
    rw [← add_add]
    obtain ⟨c0, c1, c2, c3, c4, c5⟩ := T
    match m, hq with
    | 0, _ => rw [add_zero, c0]; exact hw
    | 1, _ => rw [c1]; exact hw
    | 2, _ => rw [c2]; exact hw
    | 3, _ => rw [c3]; exact hw
    | 4, _ => rw [c4]; exact hw
    | 5, _ => rw [c5]; exact hw
theorem one_c6l (us : List Tv) : ∀ u ∈ c6 us, u.oneCell' = true := by
  intro u hu
  obtain ⟨v, _, hu⟩ := List.mem_flatMap.1 hu
  exact one_c6 v u hu
theorem own_empty' (sz : Nat) (h : Heap) (B : Nat) (E : TypeId) (hB : B ≤ h.size) : Own (h.push (.cells #[] E)) B sz ⟨some ⟨h.size, 0, none⟩, 0, 0⟩ [] :=
  ⟨by simp, .inr ⟨h.size, #[], rfl, hB, blk.new h #[] E, Nat.le_refl _, by simp, by simp⟩⟩
end
theorem own_cell {h : Heap} {B sz : Nat} {s : Sv} {xs : List Value} (o : Own h B sz s xs) {i : Nat} (hi : i < xs.length) {v : Value} {p : Addr} (hp : s.a = some p) {K : Heap → Prop}
    (k : ∀ h', Own h' B sz s (xs.set i v) → Fr s.own h h' → K h') : sto h (p.add i) v K := by
  rcases o.mem with ⟨e, _, _⟩ | ⟨g, cur, e, hB, kk, hc, hsz, ht⟩
  · rw [e] at hp; cases hp
  rw [e] at hp
  simp only [Option.some.injEq] at hp
  subst hp
  have hl := o.len
  have hm : s.n * sz ≤ s.c * sz := Nat.mul_le_mul_right _ hc
  rw [add_plain]
  refine sto_i kk (by omega) (k _ ⟨by rw [List.length_set]; exact hl, .inr ⟨g, cur.setIfInBounds (0 + i) v, e, hB, kk.sc (0 + i) v, hc, by simp [hsz], ?_⟩⟩ ((Fr.scb h g (0 + i) v).mono fun b _ hb => ⟨_, e, hb.symm⟩))
  rw [Nat.zero_add, Array.toList_setIfInBounds, List.take_set, ht]
def c4 (vs : List Dv) : List Value := vs.flatMap fun v => (dvs v).toList
theorem c4_len (us : List Dv) : (c4 us).length = us.length * 4 := by
  induction us with
  | nil => rfl
  | cons a l ih =>
    have e : c4 (a :: l) = (dvs a).toList ++ c4 l := rfl
    rw [e, List.length_append, ih, List.length_cons]
    simp
    omega
theorem c4_get : ∀ (us : List Dv) (i : Nat) (hi : i < us.length) (q : Nat), q < 4 → (c4 us)[i * 4 + q]? = (dvs us[i])[q]?
  | a :: us, 0, _, q, hq => by
    have e : c4 (a :: us) = (dvs a).toList ++ c4 us := rfl
    rw [e, Nat.zero_mul, Nat.zero_add, List.getElem?_append_left (by simpa [dvs] using hq)]
    simp
  | a :: us, i + 1, hi, q, hq => by
    have e : c4 (a :: us) = (dvs a).toList ++ c4 us := rfl
    have := c4_get us i (by simpa using hi) q hq
    rw [e, List.getElem?_append_right (by simp; omega)]
    have e2 : (i + 1) * 4 + q - (dvs a).toList.length = i * 4 + q := by simp; omega
    rw [e2, this]
    simp
theorem c4_set : ∀ (us : List Dv) (i : Nat) (hi : i < us.length) (f : Sv), (c4 us).set (i * 4 + 3) (.slice f.a f.n f.c) = c4 (us.set i { us[i] with fs := f })
  | a :: us, 0, _, f => rfl
  | a :: us, i + 1, hi, f => by
    have e : c4 (a :: us) = (dvs a).toList ++ c4 us := rfl
    have := c4_set us i (by simpa using hi) f
    rw [e, List.set_append_right _ _ (by simp; omega)]
    have e2 : (i + 1) * 4 + 3 - (dvs a).toList.length = i * 4 + 3 := by simp; omega
    rw [e2, this]
    rfl
theorem one_c4 (us : List Dv) : ∀ u ∈ c4 us, u.oneCell' = true := by
  intro u hu
  obtain ⟨v, _, hu⟩ := List.mem_flatMap.1 hu
  simp only [List.mem_cons, List.not_mem_nil, or_false] at hu
  rcases hu with rfl | rfl | rfl | rfl <;> rfl
theorem own4 {h : Heap} {B : Nat} {s : Sv} {us : List Dv} (o : Own h B 4 s (c4 us)) {i : Nat} (hi : i < us.length) : ∃ p, s.a = some p ∧ s.own p.block ∧ Dv4 h (p.add (i * 4)) us[i] := by
  have hn := o.len
  rw [c4_len] at hn
  have hr := o.row
  rcases o.mem with ⟨_, e, _⟩ | ⟨g, cur, e, _⟩
  · omega
  rw [e] at hr
  refine ⟨_, e, ⟨_, e, rfl⟩, ?_⟩
  have key : ∀ q v, q < 4 → (dvs us[i])[q]? = some v → cl h ((⟨g, 0, none⟩ : Addr).add (i * 4 + q)) = some v := fun q v hq hv => hr _ _ (by rw [c4_get us i hi q hq]; exact hv)
  unfold Dv4
  simp only [add_plain] at key ⊢
  exact ⟨key 0 _ (by omega) rfl, by rw [Nat.add_assoc]; exact key 1 _ (by omega) rfl, by rw [Nat.add_assoc]; exact key 2 _ (by omega) rfl, by rw [Nat.add_assoc]; exact key 3 _ (by omega) rfl⟩
/-- structs as they stand -/
theorem ds_row {Q : Nat → Prop} {h : Heap} {l : Sv} {ds : List Df} (x : DsAt Q h l ds) : ∃ vs : List Dv, vs.length = ds.length ∧ RowO h l.a (c4 vs) ∧ (∀ i (hi : i < vs.length) (hi' : i < ds.length), DfAt Q h vs[i] ds[i]) ∧
    ∀ i (hi : i < vs.length), ∃ p, l.a = some p ∧ Dv4 h (p.add (i * 4)) vs[i] := by
  have key : ∀ i, i < ds.length → ∃ u : Dv, ∃ p, l.a = some p ∧ Dv4 h (p.add (i * 4)) u ∧ ∀ (hi : i < ds.length), DfAt Q h u ds[i] := by
    intro i hi
    obtain ⟨p, u, q1, q2, q3, q4⟩ := x.at_ i hi
    exact ⟨u, p, q1, q3, fun _ => q4⟩
  have : ∃ us : List Dv, us.length = ds.length ∧ ∀ i (hi : i < us.length), ∃ p, l.a = some p ∧ Dv4 h (p.add (i * 4)) us[i] ∧ ∀ (hi' : i < ds.length), DfAt Q h us[i] ds[i] := by
    refine ⟨(List.range ds.length).attach.map fun i => Classical.choose (key i.1 (by simpa using i.2)), by simp, fun j hj => ?_⟩
    simp only [List.getElem_map, List.getElem_attach, List.getElem_range]
    exact Classical.choose_spec (key j (by simpa using hj))
  obtain ⟨us, hl, hall⟩ := this
  refine ⟨us, hl, ?_, fun i hi hi' => by obtain ⟨p, _, _, h3⟩ := hall i hi; exact h3 hi', fun i hi => by obtain ⟨p, h1, h2, _⟩ := hall i hi; exact ⟨p, h1, h2⟩⟩
  cases ha : l.a with
  | none =>
    cases us with
    | nil => rfl
    | cons u us =>
      obtain ⟨p, e, _⟩ := hall 0 (by simp)
      rw [ha] at e; cases e
  | some p =>
    intro j w hw
    have hj : j < (c4 us).length := (List.getElem?_eq_some_iff.1 hw).1
    rw [c4_len] at hj
    have hi : j / 4 < us.length := by omega
    obtain ⟨q, e, T, _⟩ := hall (j / 4) hi
    rw [ha] at e
    simp only [Option.some.injEq] at e
    subst e
    have hq : j % 4 < 4 := by omega
    have ej : j = j / 4 * 4 + j % 4 := by omega
    rw [ej] at hw ⊢
    rw [c4_get us (j / 4) hi (j % 4) hq] at hw
    generalize j % 4 = m at *
    rw [← add_add]
    obtain ⟨c0, c1, c2, c3⟩ := T
    match m, hq with
    | 0, _ => rw [add_zero, c0]; exact hw
    | 1, _ => rw [c1]; exact hw
    | 2, _ => rw [c2]; exact hw
    | 3, _ => rw [c3]; exact hw
theorem modn (a : Int) {n : Nat} (h0 : 0 < n) (h1 : n ≤ 1000) : ∃ k : Nat, k < n ∧ IntKind.i64.wrap ((IntKind.u64.wrap a).tmod (IntKind.u64.wrap (n : Int))) = (k : Int) ∧ IntKind.u64.wrap (n : Int) ≠ 0 := by
  have hw : IntKind.u64.wrap (n : Int) = n := by rw [IntKind.wrap_u64]; omega
  have hp : 0 ≤ IntKind.u64.wrap a := by rw [IntKind.wrap_u64]; omega
  have e : (IntKind.u64.wrap a).tmod n = IntKind.u64.wrap a % n := Int.tmod_eq_emod_of_nonneg hp
  have l1 := Int.emod_nonneg (IntKind.u64.wrap a) (b := (n : Int)) (by omega)
  have l2 := Int.emod_lt_of_pos (IntKind.u64.wrap a) (b := (n : Int)) (by omega)
  rw [hw, e]
  refine ⟨(IntKind.u64.wrap a % n).toNat, by omega, ?_, by omega⟩
  rw [wrap64_id (by omega) (by omega)]
  omega
/-- the last steps: a type more among fields, put into a struct of the copy -/
theorem more_end {E : TypeId} {Z : Array Value} (hZ : Z.size = 6) {h9 h : Heap} (g : Grow h9 h) {B41 : Nat} {s50 s41 : Sv} {us : List Tv} {v : Tv} {vs : List Dv} (o50 : Own h h9.size 6 s50 (c6 us)) {b : Nat} (hb : h9.size ≤ b) (k52 : blk h b (tvs v)) (o41 : Own h9 B41 4 s41 (c4 vs))
    (hu : us.length ≤ 100) {k : Nat} (hk : k < vs.length) (hk1 : vs.length ≤ 100) {K : Heap → Prop} (hK : ∀ s53 h', Fr s41.own h9 h' → Own h' h9.size 6 s53 (c6 (us ++ [v])) → Own h' B41 4 s41 (c4 (vs.set k { vs[k] with fs := s53 })) → K h') :
    appS E Z 6 88 h s50 ⟨some ⟨b, 0, none⟩, 1, 1⟩ fun s53 h13 => ixS s41 (k : Int) fun q54 => sto h13 ((q54.add ((k : Int).toNat * 4)).add 3) (.slice s53.a s53.n s53.c) fun h14 => K h14 := by
  have hn : s50.n = us.length := by have := o50.len; rw [c6_len] at this; omega
  have hn4 : s41.n = vs.length := by have := o41.len; rw [c4_len] at this; omega
  have hrow : RowO h (some ⟨b, 0, none⟩) (tvs v).toList := by
    intro j w hw
    rw [add_plain, k52.cl, Nat.zero_add]
    simpa using hw
  refine appS_own hZ o50 (news := (tvs v).toList) rfl hrow (one_c6 v) g.size (by dsimp only; omega) (by dsimp only; omega) fun s53 h13 hn53 o53 f53 own53 => ?_
  have f913 : Grow h9 h13 := g.trans' f53 fun i hi e => by have := (o50.ge e).1; omega
  have o413 := o41.frame f913 fun _ _ h => h
  obtain ⟨p, ea, hown, -⟩ := own4 o413 hk
  refine ⟨p, ea, by omega, by omega, ?_⟩
  rw [Int.toNat_natCast]
  show sto h13 ((p.add (k * 4)).add 3) (.slice s53.a s53.n s53.c) fun h14 => K h14
  rw [add_add]
  refine own_cell o413 (by rw [c4_len]; omega) ea fun h14 o14 f14 => ?_
  rw [c4_set vs k hk] at o14
  refine hK s53 h14 ((f913.mono fun _ _ e => e.elim).trans f14) ?_ o14
  have e6 : c6 (us ++ [v]) = c6 us ++ (tvs v).toList := by rw [c6_app]; simp [c6]
  rw [e6]
  refine o53.frame f14 fun i hi e => ?_
  have h1 := (o41.ge e).2
  rcases own53 i hi with q | q
  · have := (o50.ge q).1; omega
  · have := g.size; omega
end Go.Proofs.Ytomafdhiflbgcaa

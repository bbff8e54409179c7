/-
  Which regions must outlive which: the specs of both.
-/
import Derived.Test.YtohlfkomjmjheaaTyG
namespace Go.Proofs.Ytohlfkomjmjheaa
open Go Go.Lf
set_option linter.unusedVariables false

theorem MapAt.fr {h h' : Heap} {m : Value} {es : List (ByteArray × Value)} {T : Nat → Prop} (x : MapAt h m es) (f : Fr T h h') (hT : ∀ r, m = .map (some r) → ¬ T r) : MapAt h' m es := by
  rcases x with x | ⟨r, L, c, e, hr, hL⟩
  · exact .inl x
  · have hlt : r < h.size := by
      rcases Nat.lt_or_ge r h.size with e | e
      · exact e
      · simp [Array.getElem?_eq_none e] at hr
    exact .inr ⟨r, L, c, e, by rw [f.same r hlt (hT r e)]; exact hr, hL⟩
theorem own_low {h : Heap} {B B' sz : Nat} {s : Sv} {xs : List Value} (o : Own h B sz s xs) (hB : B' ≤ B) : Own h B' sz s xs :=
  ⟨o.len, o.mem.imp id fun ⟨g, cur, e, hg, r⟩ => ⟨g, cur, e, Nat.le_trans hB hg, r⟩⟩
def lkN (nm : ByteArray) : List (ByteArray × List (Int × Int)) → List (Int × Int)
  | [] => []
  | (q, l) :: r => if nm = q then l else lkN nm r
/-- a map of needs -/
def NeedsAt (Q : Nat → Prop) (h : Heap) (w : Option Nat) (ns : List (ByteArray × List (Int × Int))) : Prop :=
  ∃ es : List (ByteArray × Sv × List (Int × Int)), ns = es.map (fun e => (e.1, e.2.2)) ∧ MapAt h (.map w) (es.map fun e => (e.1, e.2.1.v)) ∧ (∀ r, w = some r → Q r) ∧ ∀ e ∈ es, PrQ Q h e.2.1 e.2.2 ∧ (∀ p ∈ e.2.2, inI p.1 ∧ inI p.2) ∧ e.2.2.length ≤ 10
theorem NeedsAt.fr {Q T : Nat → Prop} {h h' : Heap} {w : Option Nat} {ns : List (ByteArray × List (Int × Int))} (x : NeedsAt Q h w ns) (f : Fr T h h') (hT : ∀ b, Q b → ¬ T b) : NeedsAt Q h' w ns := by
  obtain ⟨es, e, m, q, k⟩ := x
  exact ⟨es, e, MapAt.fr m f fun r hr => hT r (q r (by simpa using hr)), q, fun e he => ⟨(k e he).1.fr f hT, (k e he).2⟩⟩
theorem NeedsAt.weak {Q Q' : Nat → Prop} {h : Heap} {w : Option Nat} {ns : List (ByteArray × List (Int × Int))} (x : NeedsAt Q h w ns) (hq : ∀ b, Q b → b < h.size → Q' b) : NeedsAt Q' h w ns := by
  obtain ⟨es, e, m, q, k⟩ := x
  refine ⟨es, e, m, fun r hr => hq r (q r hr) ?_, fun e he => ⟨(k e he).1.weak hq, (k e he).2⟩⟩
  rcases m with ⟨m, _⟩ | ⟨r', L, c, m, hr', _⟩
  · rw [hr] at m; cases m
  · rw [hr] at m
    simp only [Value.map.injEq, Option.some.injEq] at m
    subst m
    rcases Nat.lt_or_ge r h.size with e | e
    · exact e
    · simp [Array.getElem?_eq_none e] at hr'
theorem needs_nil (Q : Nat → Prop) (h : Heap) : NeedsAt Q h none [] := ⟨[], rfl, .inl ⟨rfl, rfl⟩, fun r hr => (by cases hr), fun e he => (by cases he)⟩
theorem needs_lk {Q : Nat → Prop} {h : Heap} {w : Option Nat} {ns : List (ByteArray × List (Int × Int))} (x : NeedsAt Q h w ns) (nm : ByteArray) {K : Sv → Prop} (k : ∀ s, PrQ Q h s (lkN nm ns) → (∀ p ∈ lkN nm ns, inI p.1 ∧ inI p.2) → (lkN nm ns).length ≤ 10 → K s) :
    lkS h (.map w) nm (.slice none 0 0) fun u => asS u fun s => K s := by
  obtain ⟨es, rfl, m, q, kk⟩ := x
  refine ⟨_, m, ?_⟩
  have : (lkE nm (es.map fun e => (e.1, e.2.1.v)) = none ∧ lkN nm (es.map fun e => (e.1, e.2.2)) = []) ∨ ∃ e ∈ es, lkE nm (es.map fun e => (e.1, e.2.1.v)) = some e.2.1.v ∧ lkN nm (es.map fun e => (e.1, e.2.2)) = e.2.2 := by
    clear m kk k
    induction es with
    | nil => exact .inl ⟨rfl, rfl⟩
    | cons e es ih =>
      simp only [List.map_cons, lkE, lkN]
      by_cases h : nm = e.1
      · exact .inr ⟨e, by simp, by rw [if_pos h], by rw [if_pos h]⟩
      · rw [if_neg h, if_neg h]
        rcases ih with h1 | ⟨e', h1, h2⟩
        · exact .inl h1
        · exact .inr ⟨e', by simp [h1], h2⟩
  rcases this with ⟨h1, h2⟩ | ⟨e, he, h1, h2⟩
  · rw [h1]
    rw [h2] at k
    exact ⟨⟨none, 0, 0⟩, rfl, k _ (PrQ.nil _ _ _ _) (fun p hp => by cases hp) (by simp)⟩
  · rw [h1]
    rw [h2] at k
    exact ⟨e.2.1, rfl, k _ (kk e he).1 (kk e he).2.1 (kk e he).2.2⟩

/-! ### what must outlive what -/
noncomputable def refL (az : List Ty) (r : Int) : List (Int × Int) := az.flatMap fun a => crossL (allT a) [r]
noncomputable def needL (t : Ty) (l : List (Int × Int)) : List (Int × Int) := l.flatMap fun p => crossL (slotL t p.1) (slotL t p.2)
noncomputable def headW (of : ByteArray → List (Int × Int)) : Ty → List (Int × Int)
  | .mk k nm mu r rs az => (if k = 7 then refL az r else []) ++ (if k = 5 then needL (.mk k nm mu r rs az) (of nm) else [])
theorem headW_mk (of : ByteArray → List (Int × Int)) (k : Int) (nm : ByteArray) (mu : Bool) (r : Int) (rs : List Int) (az : List Ty) : headW of (.mk k nm mu r rs az) = (if k = 7 then refL az r else []) ++ (if k = 5 then needL (.mk k nm mu r rs az) (of nm) else []) := rfl
noncomputable def wfL (of : ByteArray → List (Int × Int)) : Ty → List (Int × Int) :=
  Ty.rec (motive_1 := fun _ => List (Int × Int)) (motive_2 := fun _ => List (Int × Int)) (fun k nm mu r rs az ih => headW of (.mk k nm mu r rs az) ++ ih) [] (fun _ _ a b => a ++ b)
theorem wfL_rec (of : ByteArray → List (Int × Int)) (az : List Ty) : (Ty.rec_1 (motive_1 := fun _ => List (Int × Int)) (motive_2 := fun _ => List (Int × Int)) (fun k nm mu r rs az ih => headW of (.mk k nm mu r rs az) ++ ih) [] (fun _ _ a b => a ++ b) az : List (Int × Int)) = az.flatMap (wfL of) := by
  induction az with
  | nil => rfl
  | cons a az ih => rw [List.flatMap_cons, ← ih]; rfl
theorem wfL_mk (of : ByteArray → List (Int × Int)) (k : Int) (nm : ByteArray) (mu : Bool) (r : Int) (rs : List Int) (az : List Ty) : wfL of (.mk k nm mu r rs az) = headW of (.mk k nm mu r rs az) ++ az.flatMap (wfL of) := by
  rw [← wfL_rec]; rfl
def wb : Nat → Nat
  | 0 => 0
  | n + 1 => 4 * bnd n + 10 * ((bnd n + 1) * (bnd n + 1)) + 4 * wb n
theorem wb6 {n : Nat} (h : n ≤ 6) : wb n ≤ 1000000000 := by
  have : ∀ n, n ≤ 6 → wb n ≤ 1000000000 := by decide
  exact this n h
theorem flat_lenP {α β : Type} {f : α → List β} {m : Nat} : ∀ (xs : List α), (∀ a ∈ xs, (f a).length ≤ m) → (xs.flatMap f).length ≤ xs.length * m
  | [], _ => by simp
  | x :: xs, H => by
    rw [List.flatMap_cons, List.length_append, List.length_cons, Nat.succ_mul]
    have := flat_lenP xs fun a ha => H a (by simp [ha])
    have := H x (by simp)
    omega
theorem slotL_len {m : Nat} {t : Ty} (h : small (m + 1) t = true) (i : Int) : (slotL t i).length ≤ bnd m + 1 := by
  obtain ⟨k, nm, mu, r, rs, az⟩ := t
  obtain ⟨m', e, h1, h2, h3⟩ := small_mk h
  obtain rfl : m' = m := by omega
  rw [slotL_mk]
  split
  · simp
  · split
    · simp
    · split
      · simp
      · split
        · rename_i a ha
          have := allT_len m' a (h3 a (List.mem_of_getElem? ha))
          omega
        · simp
theorem refL_len {m : Nat} {az : List Ty} (h : ∀ a ∈ az, small m a = true) (hl : az.length ≤ 4) (r : Int) : (refL az r).length ≤ 4 * bnd m := by
  have h1 := flat_lenP (f := fun a => crossL (allT a) [r]) (m := bnd m) az fun a ha => by
    rw [crossL_len]; simp; exact allT_len m a (h a ha)
  exact Nat.le_trans h1 (Nat.mul_le_mul_right _ hl)
theorem needL_len {m : Nat} {t : Ty} (h : small (m + 1) t = true) {l : List (Int × Int)} (hl : l.length ≤ 10) : (needL t l).length ≤ 10 * ((bnd m + 1) * (bnd m + 1)) := by
  have h1 := flat_lenP (f := fun p : Int × Int => crossL (slotL t p.1) (slotL t p.2)) (m := (bnd m + 1) * (bnd m + 1)) l fun p _ => by
    rw [crossL_len]; exact Nat.mul_le_mul (slotL_len h _) (slotL_len h _)
  exact Nat.le_trans h1 (Nat.mul_le_mul_right _ hl)
theorem headW_len {m : Nat} {of : ByteArray → List (Int × Int)} (ho : ∀ nm, (of nm).length ≤ 10) {t : Ty} (h : small (m + 1) t = true) : (headW of t).length ≤ 4 * bnd m + 10 * ((bnd m + 1) * (bnd m + 1)) := by
  have h0 := h
  obtain ⟨k, nm, mu, r, rs, az⟩ := t
  obtain ⟨m', e, h1, h2, h3⟩ := small_mk h
  obtain rfl : m' = m := by omega
  have a1 := refL_len h3 h1 r
  have a2 := needL_len h0 (ho nm)
  rw [headW_mk, List.length_append]
  split <;> split <;> (try simp only [List.length_nil]) <;> omega
theorem wfL_len {of : ByteArray → List (Int × Int)} (ho : ∀ nm, (of nm).length ≤ 10) : ∀ (n : Nat) (t : Ty), small n t = true → (wfL of t).length ≤ wb n := by
  intro n
  induction n with
  | zero => intro t h; cases t; cases h
  | succ n ih =>
    intro t h
    have h0 := headW_len ho h
    obtain ⟨k, nm, mu, r, rs, az⟩ := t
    obtain ⟨m, e, h1, h2, h3⟩ := small_mk h
    obtain rfl : m = n := by omega
    rw [wfL_mk, List.length_append]
    have := flat_lenP (f := wfL of) az fun a ha => ih a (h3 a ha)
    have := Nat.mul_le_mul_right (wb m) h1
    show _ ≤ 4 * bnd m + 10 * ((bnd m + 1) * (bnd m + 1)) + 4 * wb m
    omega
theorem refL_snoc (az : List Ty) (a : Ty) (r : Int) : refL (az ++ [a]) r = refL az r ++ crossL (allT a) [r] := by unfold refL; rw [List.flatMap_append]; simp
theorem needL_snoc (t : Ty) (l : List (Int × Int)) (p : Int × Int) : needL t (l ++ [p]) = needL t l ++ crossL (slotL t p.1) (slotL t p.2) := by unfold needL; rw [List.flatMap_append]; simp
section
variable {Q : Nat → Prop} {h : Heap}
theorem slotR_spec {t : Ty} {n : Nat} (hn : n ≤ 8) (hsm : small n t = true) {v : Tv} (hv : TyAt Q h t v) {i : Int} (hi : inI i) :
    CallsH Try.prog 31 #[.agg (tvs v), .int .i64 i] h (fun x h' => Grow h h' ∧ ∃ s : Sv, x = .slice s.a s.n s.c ∧ IntsQ (fun b => Q b ∨ h.size ≤ b) h' s (slotL t i)) := by
  obtain ⟨k, nm, mu, r, rs, az⟩ := t
  obtain ⟨m, rfl, ha4, hr6, hall⟩ := small_mk hsm
  obtain ⟨e1, e2, e3, e4, e5, e6, e7⟩ := tyAt_iff.1 hv
  unfold inI at hi
  apply F31
  unfold L31
  rw [slotL_mk]
  refine new6 (v := v) fun h1 b1 f1 z1 => ?_
  have T1 := Tv6.blk b1
  have one : ∀ x : Int, IntsQ (fun b => Q b ∨ h.size ≤ b) (h1.push (.cells #[Value.int .i64 x] 3)) ⟨some ⟨h1.size, 0, none⟩, 1, 1⟩ [x] := fun x => by
    refine ⟨rfl, fun j hj => ?_⟩
    obtain rfl : j = 0 := by simp at hj; omega
    refine ⟨_, rfl, .inr f1.size, ?_⟩
    rw [Nat.zero_mul, add_zero, (blk.new h1 _ _).cl]
    rfl
  refine ifb_iff (q := i < 0) (by simp) (fun hneg => ?_) (fun hneg => ?_)
  · rw [if_pos hneg]
    exact ⟨f1, _, rfl, (IntsC.nil _ _).toIntsQ⟩
  rw [if_neg hneg]
  refine ifb_iff (q := i = 0) (by simp) (fun h0 => ?_) (fun h0 => ?_)
  · rintro s12 h2 rfl rfl
    rw [if_pos h0]
    exact ⟨f1.trans (Fr.push _ _ _), _, rfl, one 0⟩
  rw [if_neg h0]
  have e5' := e5.fr f1 fun _ _ h => h
  refine ⟨_, T1.2.2.2.2.1, ?_⟩
  dsimp only
  rw [e5.len]
  refine ifb_iff (q := i ≤ (rs.length : Int)) (by simp) (fun h1' => ?_) (fun h1' => ?_)
  · have hw : IntKind.i64.wrap (i - 1) = ((i.toNat - 1 : Nat) : Int) := by rw [wrap64_id (by omega) (by omega)]; omega
    have hir : i.toNat - 1 < rs.length := by omega
    rw [hw, List.getElem?_eq_getElem hir]
    refine ⟨_, T1.2.2.2.2.1, e5'.ints.get hir ?_⟩
    rintro s12 h2 rfl rfl
    exact ⟨f1.trans (Fr.push _ _ _), _, rfl, one _⟩
  refine ⟨_, T1.2.2.2.2.1, _, T1.2.2.2.2.2, ?_⟩
  have hwk : IntKind.i64.wrap (i - ((rs.length : Nat) : Int)) = i - rs.length := wrap64_id (by omega) (by omega)
  dsimp only
  rw [e5.len, e6, hwk, List.getElem?_eq_none (by omega : rs.length ≤ i.toNat - 1)]
  dsimp only
  refine ifb_iff (q := i - rs.length ≤ (az.length : Int)) (by simp) (fun h2' => ?_) (fun h2' => ?_)
  · have hq : i.toNat - rs.length - 1 < az.length := by omega
    have hw2 : IntKind.i64.wrap (i - (rs.length : Int) - 1) = ((i.toNat - rs.length - 1 : Nat) : Int) := by rw [wrap64_id (by omega) (by omega)]; omega
    refine ⟨_, T1.2.2.2.2.2, _, T1.2.2.2.2.1, ?_⟩
    dsimp only
    rw [e5.len, hwk, hw2, List.getElem?_eq_getElem hq]
    refine args_get (hv.grow f1) hq fun u hu => ?_
    refine cal_of (all_spec az[i.toNat - rs.length - 1] m (by omega) (hall _ (List.getElem_mem hq)) u h1 hu) ?_
    rintro _ h3 ⟨f3, s, rfl, o3⟩
    exact ⟨_, rfl, f1.trans f3, _, rfl, IntsQ.of (own_ints o3) fun b hb _ => .inr (by have := (o3.ge hb).1; have := f1.size; omega)⟩
  · rw [List.getElem?_eq_none (by omega : az.length ≤ i.toNat - rs.length - 1)]
    exact ⟨f1, _, rfl, (IntsC.nil _ _).toIntsQ⟩
theorem one_int (x : Int) (h : Heap) (E : TypeId) : IntsAt (h.push (.cells #[Value.int .i64 x] E)) ⟨some ⟨h.size, 0, none⟩, 1, 1⟩ [x] := by
  refine ⟨rfl, fun j hj => ?_⟩
  obtain rfl : j = 0 := by simp at hj; omega
  refine ⟨_, rfl, ?_⟩
  rw [Nat.zero_mul, add_zero, (blk.new h _ _).cl]
  rfl
theorem wf_spec {w : Option Nat} {ns : List (ByteArray × List (Int × Int))} (ho : ∀ nm, (lkN nm ns).length ≤ 10) : ∀ (t : Ty) (n : Nat) (_ : n ≤ 6) (_ : small n t = true) (v : Tv) (h : Heap), TyAt (fun b => b < h.size) h t v → NeedsAt (fun b => b < h.size) h w ns →
    CallsH Try.prog 11 #[.agg (tvs v), .map w] h (fun x h' => Grow h h' ∧ ∃ s : Sv, x = .slice s.a s.n s.c ∧ Own h' h.size 2 s (prs (wfL (fun nm => lkN nm ns) t))) := by
  intro t
  refine Ty.ind (P := fun t => ∀ (n : Nat) (_ : n ≤ 6) (_ : small n t = true) (v : Tv) (h : Heap), TyAt (fun b => b < h.size) h t v → NeedsAt (fun b => b < h.size) h w ns →
    CallsH Try.prog 11 #[.agg (tvs v), .map w] h (fun x h' => Grow h h' ∧ ∃ s : Sv, x = .slice s.a s.n s.c ∧ Own h' h.size 2 s (prs (wfL (fun nm => lkN nm ns) t)))) ?_ t
  intro k nm mu r rs az ih n hn hsm v h hv hw
  have hsm0 := hsm
  have hwl := wfL_len (of := fun nm => lkN nm ns) ho n _ hsm
  have hwb := wb6 hn
  obtain ⟨m, rfl, ha4, hr6, hall⟩ := small_mk hsm
  obtain ⟨e1, e2, e3, e4, e5, e6, e7⟩ := tyAt_iff.1 hv
  have hbm := bnd8 (n := m) (by omega)
  have hsl : ∀ i, (slotL (.mk k nm mu r rs az) i).length ≤ bnd m + 1 := fun i => slotL_len hsm0 i
  have hrl := fun j => refL_len (az := az.take j) (m := m) (fun a ha => hall a (List.mem_of_mem_take ha)) (by simp; omega) r
  have hnl := fun (l : List (Int × Int)) (hl : l.length ≤ 10) => needL_len hsm0 hl
  have hbq : (bnd m + 1) * (bnd m + 1) ≤ 1000000000 := by
    have : wb (m + 1) = 4 * bnd m + 10 * ((bnd m + 1) * (bnd m + 1)) + 4 * wb m := rfl
    omega
  apply F11
  unfold L11
  refine new6 (v := v) fun h1 b1 f1 z1 => ?_
  have f1s := f1.size
  refine ⟨fun s h' => Grow h1 h' ∧ Own h' h1.size 2 s (prs (headW (fun nm => lkN nm ns) (.mk k nm mu r rs az))), ?_, ?_⟩
  · refine ⟨_, (Tv6.blk b1).1, ?_⟩
    rw [e1]
    refine ifb_iff (q := k = 7) (by simp) (fun h7 => ?_) (fun h7 => ?_)
    · have hhead : headW (fun nm => lkN nm ns) (.mk k nm mu r rs az) = refL az r := by rw [headW_mk]; rw [if_pos h7, if_neg (by omega), List.append_nil]
      rw [hhead]
      refine ⟨_, (Tv6.blk b1).2.2.2.2.2, ?_⟩
      refine ⟨fun s i h' => ∃ j : Nat, i = j ∧ j ≤ az.length ∧ Grow h1 h' ∧ Own h' h1.size 2 s (prs (refL (az.take j) r)), fun _ i _ => az.length - i.toNat, ⟨0, rfl, Nat.zero_le _, Fr.refl _ _, Own.nil _ _ _⟩, ?_⟩
      rintro s1 _ h2 ⟨j, rfl, hj, g2, o2⟩
      have B2 := g2.blk b1 fun h => h
      refine ifb_iff (q := j < az.length) (by simp [e6]) (fun hl => ?_) (fun hl => ?_)
      rotate_left
      · have : j = az.length := by omega
        subst this
        rw [List.take_length] at o2
        exact ⟨g2, o2⟩
      refine args_get (hv.grow (f1.trans g2)) hl fun u hu => ?_
      refine newz fun h3 b3 f3 z3 => sto6 (v := u) b3 rfl fun h4 b4 f4 => ?_
      have f24 : Grow h2 h4 := f3.trans' f4 fun i hi e => by omega
      refine rd6 (Tv6.blk b4) ?_
      have B4 := f24.blk B2 (fun h => h)
      have s24 := f24.size
      have hal := allT_len m az[j] (hall _ (List.getElem_mem hl))
      refine ⟨fun a b => Grow a b, Pre.grow, _, fun h' hs => (Tv6.blk (hs.blk B4 fun h => h)).2.2.2.1, ?_⟩
      rw [e4]
      refine ⟨fun s lo hi h' => IntsQ (fun b => lo ≤ b ∧ b < hi) h' s (allT az[j]), fun _ _ _ _ _ f x => x.fr f fun _ _ h => h, fun s lo hi h' => IntsQ (fun b => lo ≤ b ∧ b < hi) h' s [r], fun _ _ _ _ _ f x => x.fr f fun _ _ h => h, ?_, ?_, ?_⟩
      · intro h5 f5
        refine cal_of (allP_spec az[j] m (by omega) (hall _ (List.getElem_mem hl)) u h5 (hu.grow (f24.trans f5))) ?_
        rintro _ h6 ⟨f6, s6, rfl, o6⟩
        exact ⟨s6, rfl, f6, IntsQ.of (own_ints o6) fun b hb hlt => ⟨(o6.ge hb).1, hlt⟩⟩
      · intro h5 f5
        rintro s6 h6 rfl rfl
        refine ⟨Fr.push _ _ _, IntsQ.of (one_int r h5 _) fun b hb hlt => ?_⟩
        obtain ⟨a, ea, eb⟩ := hb
        simp only [Option.some.injEq] at ea
        subst ea
        simp only at eb
        exact ⟨by omega, hlt⟩
      · intro s5 lo5 hi5 s6 lo6 hi6 h7 f7 hD i5 i6
        obtain ⟨⟨d1, d2, d3, -⟩, ⟨d4, d5, d6, -⟩, -⟩ := hD
        dsimp only at d1 d2 d3 d4 d5 d6
        have hrj := hrl j
        have hge : ∀ b, s1.own b → b < h2.size := fun b hb => (o2.ge hb).2
        refine cal_of (cross_spec (Q := fun b => h4.size ≤ b ∧ b < h7.size) (B := h1.size) (L := refL (az.take j) r) (o2.frame (f24.trans f7) fun _ _ h => h) (i5.weak fun b hb _ => ⟨by omega, by omega⟩) (i6.weak fun b hb _ => ⟨by omega, by omega⟩) (fun b hb e => by have := hge b e; omega) (fun b hb => hb.2) (by have := g2.size; have := (f24.trans f7).size; omega) (by omega) (by simp) (by simp only [List.length_cons, List.length_nil]; omega)) ?_
        rintro _ h8 ⟨s8, rfl, o8, f8, w8⟩
        refine ⟨s8, rfl, ?_⟩
        rw [wrap_succ hl (by omega)]
        refine ⟨⟨j + 1, rfl, hl, ((g2.trans f24).trans f7).trans' f8 fun i hi e => by have := (o2.ge e).1; omega, ?_⟩, by simp; omega⟩
        rw [List.take_succ_eq_append_getElem hl, refL_snoc]
        exact o8
    · refine ifb_iff (q := k = 5) (by simp) (fun h5 => ?_) (fun h5 => ?_)
      rotate_left
      · have hhead : headW (fun nm => lkN nm ns) (.mk k nm mu r rs az) = [] := by rw [headW_mk]; rw [if_neg h7, if_neg h5]; rfl
        rw [hhead]
        exact ⟨Fr.refl _ _, Own.nil _ _ _⟩
      have hhead : headW (fun nm => lkN nm ns) (.mk k nm mu r rs az) = needL (.mk k nm mu r rs az) (lkN nm ns) := by rw [headW_mk]; rw [if_neg h7, if_pos h5]; rfl
      rw [hhead]
      refine ⟨_, (Tv6.blk b1).2.1, ?_⟩
      rw [e2]
      refine needs_lk (hw.fr f1 fun _ _ h => h) nm fun sn hsn hin hlen => ?_
      rw [hsn.len]
      generalize lkN nm ns = l at *
      refine ⟨fun s i h' => ∃ j : Nat, i = j ∧ j ≤ l.length ∧ Grow h1 h' ∧ Own h' h1.size 2 s (prs (needL (.mk k nm mu r rs az) (l.take j))), fun _ i _ => l.length - i.toNat, ⟨0, rfl, Nat.zero_le _, Fr.refl _ _, Own.nil _ _ _⟩, ?_⟩
      rintro s1 _ h2 ⟨j, rfl, hj, g2, o2⟩
      refine ifb_iff (q := j < l.length) (by simp) (fun hl => ?_) (fun hl => ?_)
      rotate_left
      · have : j = l.length := by omega
        subst this
        rw [List.take_length] at o2
        exact ⟨g2, o2⟩
      obtain ⟨p, ea, _, c1, c2⟩ := (hsn.fr g2 fun _ _ h => h).at_ j hl
      refine ⟨p, ea, by omega, by rw [hsn.len]; omega, _, _, by rw [Int.toNat_natCast]; exact c1, by rw [Int.toNat_natCast]; exact c2, ?_⟩
      rintro p9 h3 rfl rfl
      refine stoA_i (blk.new h2 _ _) rfl (by simp [Value.oneCell']) fun h4 b4 f4 => ?_
      have f24 : Grow h2 h4 := (Fr.push (fun _ => False) h2 _).trans' f4 fun i hi e => by omega
      have g4 := g2.trans f24
      have B4 := g4.blk b1 fun h => h
      have hp1 := hin l[j] (List.getElem_mem hl)
      refine ⟨fun h' => Grow h4 h', Fr.refl _ _, rd6 (Tv6.blk B4) ⟨_, by rw [b4.cl]; rfl, hd6 (fun h' hs => Tv6.blk (hs.blk B4 fun h => h)) ⟨_, fun h' hs => by rw [add_plain, (hs.blk b4 fun h => h).cl]; rfl, ?_⟩⟩⟩
      refine cal_of (slot_spec (n := m + 1) (by omega) hsm0 (hv.grow (f1.trans g4)) hp1.1) ?_
      rintro _ h5 ⟨f5, sa, rfl, ia⟩
      refine ⟨sa, rfl, f5, ?_⟩
      refine cal_of (slot_spec (n := m + 1) (by omega) hsm0 (hv.grow (f1.trans (g4.trans f5))) hp1.2) ?_
      rintro _ h6 ⟨f6, sb, rfl, ib⟩
      refine ⟨sb, rfl, ?_⟩
      have hl1 := hsl l[j].1
      have hl2 := hsl l[j].2
      have hl12 := Nat.mul_le_mul hl1 hl2
      have hnlj := hnl (l.take j) (by simp; omega)
      have s56 := (f5.trans f6).size
      have s24 := f24.size
      have hge : ∀ b, s1.own b → h1.size ≤ b ∧ b < h2.size := fun b hb => o2.ge hb
      refine cal_of (cross_spec (Q := fun b => (b < h.size ∨ h4.size ≤ b) ∧ b < h6.size) (B := h1.size) (L := needL (.mk k nm mu r rs az) (l.take j)) (o2.frame (f24.trans (f5.trans f6)) fun _ _ h => h) ((ia.fr f6 fun _ _ h => h).weak fun b hb hlt => ⟨hb, hlt⟩) (ib.weak fun b hb hlt => ⟨hb.imp id fun q => by have := f5.size; omega, hlt⟩) (fun b hb e => by have := hge b e; omega) (fun b hb => hb.2) (by have := g2.size; omega) (by omega) (by omega) (by omega)) ?_
      rintro _ h8 ⟨s8, rfl, o8, f8, w8⟩
      refine ⟨s8, rfl, ?_⟩
      rw [wrap_succ hl (by omega)]
      refine ⟨⟨j + 1, rfl, hl, (g4.trans (f5.trans f6)).trans' f8 fun i hi e => by have := hge i e; omega, ?_⟩, by simp; omega⟩
      rw [List.take_succ_eq_append_getElem hl, needL_snoc]
      exact o8
  rintro l7 h7 ⟨g7, o7⟩
  refine ⟨_, (Tv6.blk (g7.blk b1 fun h => h)).2.2.2.2.2, ?_⟩
  refine ⟨fun out i h' => ∃ j : Nat, i = j ∧ j ≤ az.length ∧ Grow h1 h' ∧ Own h' h1.size 2 out (prs (headW (fun nm => lkN nm ns) (.mk k nm mu r rs az) ++ (az.take j).flatMap (wfL fun nm => lkN nm ns))), fun _ i _ => az.length - i.toNat, ⟨0, rfl, Nat.zero_le _, g7, by simpa using o7⟩, ?_⟩
  rintro out _ h8 ⟨j, rfl, hj, g8, o8⟩
  refine ifb_iff (q := j < az.length) (by simp [e6]) (fun hl => ?_) (fun hl => ?_)
  · refine args_get (hv.grow (f1.trans g8)) hl fun u hu => ?_
    refine newz fun h9 b9 f9 z9 => sto6 (v := u) b9 rfl fun h10 b10 f10 => ?_
    have f10' : Grow h8 h10 := f9.trans' f10 fun i hi e => by omega
    refine rd6 (Tv6.blk b10) ?_
    have g10 := f1.trans (g8.trans f10')
    refine cal_of (ih _ (List.getElem_mem hl) m (by omega) (hall _ (List.getElem_mem hl)) u h10 ((hu.weak fun b hb _ => by have := g10.size; omega).grow f10') ((hw.weak fun b hb _ => by have := g10.size; omega).fr g10 fun _ _ h => h)) ?_
    rintro _ h11 ⟨f11, s6, rfl, o6⟩
    refine ⟨s6, rfl, ?_⟩
    have F := f10'.trans f11
    have hl6 := wfL_len (of := fun nm => lkN nm ns) ho m az[j] (hall _ (List.getElem_mem hl))
    have hn6 : s6.n = (wfL (fun nm => lkN nm ns) az[j]).length := by have := o6.len; rw [prs_len] at this; omega
    have hfl := flat_lenP (f := wfL fun nm => lkN nm ns) (m := wb m) (az.take j) fun a ha => wfL_len (of := fun nm => lkN nm ns) ho m a (hall a (List.mem_of_mem_take ha))
    have hfl2 : (az.take j).length * wb m ≤ 4 * wb m := Nat.mul_le_mul_right _ (by simp; omega)
    have hhl := headW_len (of := fun nm => lkN nm ns) ho hsm0
    have hno : out.n = (headW (fun nm => lkN nm ns) (.mk k nm mu r rs az) ++ (az.take j).flatMap (wfL fun nm => lkN nm ns)).length := by have := o8.len; rw [prs_len] at this; omega
    rw [List.length_append] at hno
    have hwm := wb6 (n := m) (by omega)
    have g8s := g8.size
    have h1le : h1.size ≤ h11.size := by have := F.size; omega
    refine appS_own rfl (o8.frame F fun _ _ h => h) (news := prs (wfL (fun nm => lkN nm ns) az[j])) (by rw [prs_len, hn6]) o6.row (one_prs _) h1le (by omega) (by omega) ?_
    intro s7 h12 _ o12 f12 own12
    rw [wrap_succ hl (by omega)]
    refine ⟨⟨j + 1, rfl, hl, (g8.trans F).trans' f12 fun i hi e => by have := (o8.ge e).1; omega, ?_⟩, by simp; omega⟩
    rw [List.take_succ_eq_append_getElem hl, List.flatMap_append, ← List.append_assoc, prs_app]
    simpa using o12
  · have hje : j = az.length := by omega
    subst hje
    rw [List.take_length, ← wfL_mk] at o8
    exact ⟨f1.trans g8, _, rfl, own_low o8 f1s⟩
end
end Go.Proofs.Ytohlfkomjmjheaa

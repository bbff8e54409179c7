/-
  Ways, and the pairs that two types ask for (ty/S3, under a name of its own).
-/
import Derived.Test.YteaidgpiolakcaaP2
namespace Go.Proofs.Yteaidgpiolakcaa.pairs
open Go Go.Lf Go.Proofs.Yteaidgpiolakcaa
set_option linter.unusedVariables false

def thr (o i : Int) : Int := if o = 0 ∨ i = 0 then 0 else if o = 1 then bitsI .and .i64 i 3 else if o = 3 ∨ i = 3 then 3 else if o = i then 1 else 2
def lkL (nm : ByteArray) : List (ByteArray × List Int) → List Int
  | [] => []
  | (q, l) :: r => if nm = q then l else lkL nm r
def ofW (ws : List (ByteArray × List Int)) (nm : ByteArray) (i : Nat) : Int := ((lkL nm ws)[i]?).getD 3
def WaysAt (Q : Nat → Prop) (h : Heap) (w : Option Nat) (ws : List (ByteArray × List Int)) : Prop :=
  ∃ es : List (ByteArray × Sv × List Int), ws = es.map (fun e => (e.1, e.2.2)) ∧ MapAt h (.map w) (es.map fun e => (e.1, e.2.1.v)) ∧ (∀ r, w = some r → Q r) ∧ ∀ e ∈ es, IntsQ Q h e.2.1 e.2.2
theorem MapAt.fr {h h' : Heap} {m : Value} {es : List (ByteArray × Value)} {T : Nat → Prop} (x : MapAt h m es) (f : Fr T h h') (hT : ∀ r, m = .map (some r) → ¬ T r) : MapAt h' m es := by
  rcases x with x | ⟨r, L, c, e, hr, hL⟩
  · exact .inl x
  · have hlt : r < h.size := by
      rcases Nat.lt_or_ge r h.size with e | e
      · exact e
      · simp [Array.getElem?_eq_none e] at hr
    exact .inr ⟨r, L, c, e, by rw [f.same r hlt (hT r e)]; exact hr, hL⟩
theorem WaysAt.fr {Q T : Nat → Prop} {h h' : Heap} {w : Option Nat} {ws : List (ByteArray × List Int)} (x : WaysAt Q h w ws) (f : Fr T h h') (hT : ∀ b, Q b → ¬ T b) : WaysAt Q h' w ws := by
  obtain ⟨es, e, m, q, k⟩ := x
  exact ⟨es, e, MapAt.fr m f fun r hr => hT r (q r (by simpa using hr)), q, fun e he => (k e he).fr f hT⟩
theorem WaysAt.weak {Q Q' : Nat → Prop} {h : Heap} {w : Option Nat} {ws : List (ByteArray × List Int)} (x : WaysAt Q h w ws) (hq : ∀ b, Q b → b < h.size → Q' b) : WaysAt Q' h w ws := by
  obtain ⟨es, e, m, q, k⟩ := x
  refine ⟨es, e, m, fun r hr => hq r (q r hr) ?_, fun e he => (k e he).weak hq⟩
  rcases m with ⟨m, _⟩ | ⟨r', L, c, m, hr', _⟩
  · rw [hr] at m; cases m
  · rw [hr] at m
    simp only [Value.map.injEq, Option.some.injEq] at m
    subst m
    rcases Nat.lt_or_ge r h.size with e | e
    · exact e
    · simp [Array.getElem?_eq_none e] at hr'
theorem lkE_map (nm : ByteArray) : ∀ es : List (ByteArray × Sv × List Int), (lkE nm (es.map fun e => (e.1, e.2.1.v)) = none ∧ lkL nm (es.map fun e => (e.1, e.2.2)) = []) ∨ ∃ e ∈ es, lkE nm (es.map fun e => (e.1, e.2.1.v)) = some e.2.1.v ∧ lkL nm (es.map fun e => (e.1, e.2.2)) = e.2.2
  | [] => .inl ⟨rfl, rfl⟩
  | e :: es => by
    simp only [List.map_cons, lkE, lkL]
    by_cases h : nm = e.1
    · exact .inr ⟨e, by simp, by rw [if_pos h], by rw [if_pos h]⟩
    · rw [if_neg h, if_neg h]
      rcases lkE_map nm es with h1 | ⟨e', h1, h2⟩
      · exact .inl h1
      · exact .inr ⟨e', by simp [h1], h2⟩
section
variable {Q : Nat → Prop} {h : Heap}
theorem of_spec {w : Option Nat} {ws : List (ByteArray × List Int)} (x : WaysAt Q h w ws) (nm : ByteArray) (i : Nat) :
    CallsH Try.prog 27 #[.map w, .string nm, .int .i64 i] h (fun v h' => h = h' ∧ v = .int .i64 (ofW ws nm i)) := by
  apply F27
  unfold L27
  obtain ⟨es, rfl, m, q, k⟩ := x
  refine ⟨_, m, ?_⟩
  rcases lkE_map nm es with ⟨h1, h2⟩ | ⟨e, he, h1, h2⟩
  · rw [h1]
    refine ⟨⟨none, 0, 0⟩, rfl, fun _ => ⟨rfl, ?_⟩, fun e => ?_⟩
    · unfold ofW; rw [h2]; rfl
    · have : decide ((((⟨none, 0, 0⟩ : Sv).n : Nat) : Int) ≤ (i : Int)) = true := decide_eq_true (by simp)
      rw [this, Bool.or_true] at e
      cases e
  · rw [h1]
    have y := k e he
    refine ⟨e.2.1, rfl, ?_⟩
    refine ifb_iff (q := e.2.2.length ≤ i) (by rw [y.len]; simp; omega) (fun hge => ⟨rfl, ?_⟩) (fun hlt => ?_)
    · unfold ofW; rw [h2, List.getElem?_eq_none hge]; rfl
    · have hi : i < e.2.2.length := by omega
      refine y.ints.get hi ⟨rfl, ?_⟩
      unfold ofW; rw [h2, List.getElem?_eq_getElem hi]; rfl
theorem thr_spec (o i : Int) : CallsH Try.prog 26 #[.int .i64 o, .int .i64 i] h (fun v h' => h = h' ∧ v = .int .i64 (thr o i)) := by
  apply F26
  unfold L26
  refine ifb_iff (q := o = 0 ∨ i = 0) (by simp) (fun h1 => ⟨rfl, by unfold thr; rw [if_pos h1]⟩) (fun h1 => ?_)
  refine ifb_iff (q := o = 1) (by simp) (fun h2 => ⟨rfl, by unfold thr; rw [if_neg h1, if_pos h2]⟩) (fun h2 => ?_)
  refine ifb_iff (q := o = 3 ∨ i = 3) (by simp) (fun h3 => ⟨rfl, by unfold thr; rw [if_neg h1, if_neg h2, if_pos h3]⟩) (fun h3 => ?_)
  exact ifb_iff (q := o = i) (by simp) (fun h4 => ⟨rfl, by unfold thr; rw [if_neg h1, if_neg h2, if_neg h3, if_pos h4]⟩) (fun h4 => ⟨rfl, by unfold thr; rw [if_neg h1, if_neg h2, if_neg h3, if_neg h4]⟩)

def regsL (f : Nat → Int) : Nat → List Int → List Int → List (Int × Int)
  | i, x :: xs, y :: ys => lifeL x y (f i) ++ regsL f (i + 1) xs ys
  | _, _, _ => []
def seeA (S : Ty → Int → Ty → List (Int × Int)) (f : Nat → Int) : Nat → List Ty → List Ty → List (Int × Int)
  | i, a :: az, b :: bz => S a (f i) b ++ seeA S f (i + 1) az bz
  | _, _, _ => []
theorem regsL_snoc (f : Nat → Int) (x y : Int) : ∀ (i : Nat) (xs ys : List Int), xs.length = ys.length → regsL f i (xs ++ [x]) (ys ++ [y]) = regsL f i xs ys ++ lifeL x y (f (i + xs.length))
  | i, [], [], _ => by simp [regsL]
  | i, [], _ :: _, h => by simp at h
  | i, _ :: _, [], h => by simp at h
  | i, a :: xs, b :: ys, h => by
    simp only [List.cons_append, regsL, List.length_cons]
    rw [regsL_snoc f x y (i + 1) xs ys (by simpa using h), List.append_assoc, show i + 1 + xs.length = i + (xs.length + 1) by omega]
theorem seeA_snoc (S : Ty → Int → Ty → List (Int × Int)) (f : Nat → Int) (x y : Ty) : ∀ (i : Nat) (xs ys : List Ty), xs.length = ys.length → seeA S f i (xs ++ [x]) (ys ++ [y]) = seeA S f i xs ys ++ S x (f (i + xs.length)) y
  | i, [], [], _ => by simp [seeA]
  | i, [], _ :: _, h => by simp at h
  | i, _ :: _, [], h => by simp at h
  | i, a :: xs, b :: ys, h => by
    simp only [List.cons_append, seeA, List.length_cons]
    rw [seeA_snoc S f x y (i + 1) xs ys (by simpa using h), List.append_assoc, show i + 1 + xs.length = i + (xs.length + 1) by omega]
noncomputable def seeL (of : ByteArray → Nat → Int) : Ty → Int → Ty → List (Int × Int) :=
  Ty.rec (motive_1 := fun _ => Int → Ty → List (Int × Int)) (motive_2 := fun _ => (Nat → Int) → Nat → List Ty → List (Int × Int))
    (fun k nm mu r rs _ ih w b => match b with
      | .mk _ _ _ r' rs' az' => if k = 5 then regsL (fun i => thr w (of nm i)) 0 rs rs' ++ ih (fun i => thr w (of nm (rs.length + i))) 0 az'
          else (if k = 7 ∨ k = 8 then lifeL r r' w else []) ++ ih (fun _ => if k = 7 ∧ mu = true then thr w 3 else w) 0 az')
    (fun _ _ _ => [])
    (fun _ _ ih1 ih2 f i bs => match bs with | [] => [] | b :: bs => ih1 (f i) b ++ ih2 f (i + 1) bs)
theorem seeL_rec (of : ByteArray → Nat → Int) (az : List Ty) (f : Nat → Int) (i : Nat) (bs : List Ty) :
    (Ty.rec_1 (motive_1 := fun _ => Int → Ty → List (Int × Int)) (motive_2 := fun _ => (Nat → Int) → Nat → List Ty → List (Int × Int))
    (fun k nm mu r rs _ ih w b => match b with
      | .mk _ _ _ r' rs' az' => if k = 5 then regsL (fun i => thr w (of nm i)) 0 rs rs' ++ ih (fun i => thr w (of nm (rs.length + i))) 0 az'
          else (if k = 7 ∨ k = 8 then lifeL r r' w else []) ++ ih (fun _ => if k = 7 ∧ mu = true then thr w 3 else w) 0 az')
    (fun _ _ _ => [])
    (fun _ _ ih1 ih2 f i bs => match bs with | [] => [] | b :: bs => ih1 (f i) b ++ ih2 f (i + 1) bs) az : (Nat → Int) → Nat → List Ty → List (Int × Int)) f i bs = seeA (seeL of) f i az bs := by
  induction az generalizing i bs with
  | nil => rfl
  | cons a az ih =>
    cases bs with
    | nil => rfl
    | cons b bs => rw [seeA, ← ih (i + 1) bs]; rfl
theorem seeL_mk (of : ByteArray → Nat → Int) (k : Int) (nm : ByteArray) (mu : Bool) (r : Int) (rs : List Int) (az : List Ty) (w : Int) (k' : Int) (nm' : ByteArray) (mu' : Bool) (r' : Int) (rs' : List Int) (az' : List Ty) :
    seeL of (.mk k nm mu r rs az) w (.mk k' nm' mu' r' rs' az') = if k = 5 then regsL (fun i => thr w (of nm i)) 0 rs rs' ++ seeA (seeL of) (fun i => thr w (of nm (rs.length + i))) 0 az az'
          else (if k = 7 ∨ k = 8 then lifeL r r' w else []) ++ seeA (seeL of) (fun _ => if k = 7 ∧ mu = true then thr w 3 else w) 0 az az' := by
  rw [← seeL_rec, ← seeL_rec]; rfl
/-- how much a small type asks for -/
def bnd : Nat → Nat
  | 0 => 0
  | n + 1 => 14 + 4 * bnd n
theorem regsL_len (f : Nat → Int) : ∀ (i : Nat) (xs ys : List Int), (regsL f i xs ys).length ≤ 2 * xs.length
  | i, [], ys => by simp [regsL]
  | i, _ :: _, [] => by simp [regsL]
  | i, x :: xs, y :: ys => by
    simp only [regsL, List.length_append, List.length_cons]
    have := regsL_len f (i + 1) xs ys
    have := lifeL_len x y (f i)
    omega
theorem seeA_len {S : Ty → Int → Ty → List (Int × Int)} {m : Nat} (f : Nat → Int) : ∀ (i : Nat) (xs ys : List Ty) (_ : ∀ a ∈ xs, ∀ w b, (S a w b).length ≤ m), (seeA S f i xs ys).length ≤ xs.length * m
  | i, [], ys, _ => by simp [seeA]
  | i, _ :: _, [], _ => by simp [seeA]
  | i, x :: xs, y :: ys, H => by
    simp only [seeA, List.length_append, List.length_cons]
    have := seeA_len f (i + 1) xs ys fun a ha => H a (by simp [ha])
    have := H x (by simp) (f i) y
    rw [Nat.succ_mul]
    omega
theorem small_mk {n : Nat} {k : Int} {nm : ByteArray} {mu : Bool} {r : Int} {rs : List Int} {az : List Ty} (h : small n (.mk k nm mu r rs az) = true) : ∃ m, n = m + 1 ∧ az.length ≤ 4 ∧ rs.length ≤ 6 ∧ ∀ a ∈ az, small m a = true := by
  cases n with
  | zero => cases h
  | succ m =>
    have h' : (decide (az.length ≤ 4) && decide (rs.length ≤ 6) && decide (nm.size ≤ 60) && az.all (small m)) = true := h
    simp only [Bool.and_eq_true, decide_eq_true_eq, List.all_eq_true] at h'
    exact ⟨m, rfl, h'.1.1.1, h'.1.1.2, h'.2⟩
theorem seeL_len (of : ByteArray → Nat → Int) : ∀ (n : Nat) (a : Ty) (w : Int) (b : Ty), small n a = true → (seeL of a w b).length ≤ bnd n := by
  intro n
  induction n with
  | zero => intro a w b h; cases a; cases h
  | succ n ih =>
    intro a w b h
    obtain ⟨k, nm, mu, r, rs, az⟩ := a
    obtain ⟨k', nm', mu', r', rs', az'⟩ := b
    obtain ⟨m, e, h1, h2, h3⟩ := small_mk h
    obtain rfl : m = n := by omega
    have key : ∀ f i, (seeA (seeL of) f i az az').length ≤ 4 * bnd m := fun f i => Nat.le_trans (seeA_len f i az az' fun a ha w b => ih a w b (h3 a ha)) (Nat.mul_le_mul_right _ h1)
    rw [seeL_mk]
    show _ ≤ 14 + 4 * bnd m
    split
    · rw [List.length_append]
      have := key (fun i => thr w (of nm (rs.length + i))) 0
      have := regsL_len (fun i => thr w (of nm i)) 0 rs rs'
      omega
    · rw [List.length_append]
      have := key (fun _ => if k = 7 ∧ mu = true then thr w 3 else w) 0
      have := lifeL_len r r' w
      split
      · omega
      · simp; omega
theorem PrAt.grow {B pb : Nat} {w : Option Nat} {s : Sv} {L : List (Int × Int)} {h' : Heap} (x : PrAt h B pb w s L) (f : Grow h h') : PrAt h' B pb w s L :=
  ⟨f.blk x.box (fun h => h), x.own.frame f (fun _ _ h => h), x.lt, by have := f.size; have := x.le; omega⟩
theorem see_spec {B pb : Nat} {w : Option Nat} {ws : List (ByteArray × List Int)} : ∀ (a b : Ty) (n : Nat) (_ : small n a = true) (_ : same a b = true) (v v' : Tv) (h : Heap) (s : Sv) (L : List (Int × Int)) (way : Int),
    TyAt (fun b => b < pb) h a v → TyAt (fun b => b < pb) h b v' → WaysAt (fun b => b < pb) h w ws → PrAt h B pb w s L → L.length + bnd n ≤ 1000000 →
    CallsH Try.prog 17 #[.pointer (some ⟨pb, 0, none⟩), .agg (tvs v), .agg (tvs v'), .int .i64 way] h (fun _ h' => PrTo h B pb w s (L ++ seeL (ofW ws) a way b) h') := by
  intro a
  refine Ty.ind (P := fun a => ∀ (b : Ty) (n : Nat) (_ : small n a = true) (_ : same a b = true) (v v' : Tv) (h : Heap) (s : Sv) (L : List (Int × Int)) (way : Int),
    TyAt (fun b => b < pb) h a v → TyAt (fun b => b < pb) h b v' → WaysAt (fun b => b < pb) h w ws → PrAt h B pb w s L → L.length + bnd n ≤ 1000000 →
    CallsH Try.prog 17 #[.pointer (some ⟨pb, 0, none⟩), .agg (tvs v), .agg (tvs v'), .int .i64 way] h (fun _ h' => PrTo h B pb w s (L ++ seeL (ofW ws) a way b) h')) ?_ a
  intro k nm mu r rs az ih b n hsm hsame v v' h s L way hv hv' hw hp hlen
  obtain ⟨k', nm', mu', r', rs', az'⟩ := b
  obtain ⟨m, rfl, ha4, hr6, hall⟩ := small_mk hsm
  rw [same_mk] at hsame
  simp only [Bool.and_eq_true, Bool.not_eq_true', Bool.or_eq_false_iff] at hsame
  obtain ⟨-, hs5, hsA⟩ := hsame
  have hlA := sameA_len hsA
  have hsi := (sameA_iff.1 hsA).2
  obtain ⟨e1, e2, e3, e4, e5, e6, e7⟩ := tyAt_iff.1 hv
  obtain ⟨d1, d2, d3, d4, d5, d6, d7⟩ := tyAt_iff.1 hv'
  have hbn : bnd (m + 1) = 14 + 4 * bnd m := rfl
  apply F17
  unfold L17
  refine new6 (v := v) fun h1 b1 f1 z1 => new6 (v := v') fun h2 b2 f2 z2 => ?_
  have g2 : Grow h h2 := f1.trans f2
  have B1 := f2.blk b1 (fun h => h)
  have hp2 := hp.grow g2
  have hpl := hp.lt
  have hle := hp.le
  -- what any state behind some steps still shows
  have keep : ∀ {s' : Sv} {L' : List (Int × Int)} {h' : Heap}, PrAt h' B pb w s' L' → Fr (fun b => b = pb ∨ s.own b) h2 h' →
      TyAt (fun b => b < pb) h' (.mk k nm mu r rs az) v ∧ TyAt (fun b => b < pb) h' (.mk k' nm' mu' r' rs' az') v' ∧ WaysAt (fun b => b < pb) h' w ws ∧ Tv6 h' ⟨h.size, 0, none⟩ v ∧ Tv6 h' ⟨h1.size, 0, none⟩ v' := by
    intro s' L' h' _ f
    have hQ : ∀ b, b < pb → ¬ (b = pb ∨ s.own b) := fun b hb e => e.elim (fun e => by omega) fun e => by have := (hp.own.ge e).1; omega
    have hN : ∀ b, h.size ≤ b → ¬ (b = pb ∨ s.own b) := fun b hb e => e.elim (fun e => by omega) fun e => by have := (hp.own.ge e).2; omega
    exact ⟨(hv.grow g2).fr f hQ, (hv'.grow g2).fr f hQ, (hw.fr g2 (fun _ _ h => h)).fr f hQ, (Tv6.blk B1).fr f (hN _ (Nat.le_refl _)), (Tv6.blk b2).fr f (hN _ f1.size)⟩
  have fin : ∀ {L' : List (Int × Int)} {h' : Heap}, PrTo h2 B pb w s L' h' → PrTo h B pb w s L' h' := fun P => P.after (g2.mono fun _ _ e => e.elim) (fun _ e => .inl e)
  -- the loop over arguments, round by round
  have hargs : ∀ (f : Nat → Int) (j : Nat), (seeA (seeL (ofW ws)) f 0 (az.take j) (az'.take j)).length ≤ 4 * bnd m := fun f j =>
    Nat.le_trans (seeA_len f 0 _ _ fun a ha w b => seeL_len (ofW ws) m a w b (hall a (List.mem_of_mem_take ha))) (Nat.mul_le_mul_right _ (by simp; omega))
  have hround : ∀ (f : Nat → Int) (j : Nat) (h1 : j < az.length) (h2 : j < az'.length), seeA (seeL (ofW ws)) f 0 (az.take (j + 1)) (az'.take (j + 1)) = seeA (seeL (ofW ws)) f 0 (az.take j) (az'.take j) ++ seeL (ofW ws) az[j] (f j) az'[j] := by
    intro f j q1 q2
    rw [List.take_add_one, List.take_add_one, List.getElem?_eq_getElem q1, List.getElem?_eq_getElem q2]
    have := seeA_snoc (seeL (ofW ws)) f az[j] az'[j] 0 (az.take j) (az'.take j) (by simp; omega)
    simp only [Nat.zero_add, List.length_take] at this
    rw [Nat.min_eq_left (by omega)] at this
    exact this
  refine ⟨fun inner h' => k ≠ 5 ∧ inner = (if k = 7 ∧ mu = true then thr way 3 else way) ∧ PrTo h2 B pb w s (L ++ (if k = 7 ∨ k = 8 then lifeL r r' way else [])) h', ?_, ?_⟩
  · obtain ⟨-, -, -, T1, T2⟩ := keep hp2 (Fr.refl _ _)
    refine ⟨_, T1.1, ?_⟩
    rw [e1]
    refine ifb_iff (q := k = 7) (by simp) (fun h7 => ?_) (fun h7 => ?_)
    · refine ⟨_, T1.2.2.2.1, _, T2.2.2.2.1, ?_⟩
      rw [e4, d4]
      refine cal_of (life_spec hp2 (by omega) r r' way) ?_
      rintro _ h3 P3
      obtain ⟨s3, p3, f3, o3⟩ := P3
      obtain ⟨-, -, -, T1, T2⟩ := keep p3 f3
      refine ⟨_, T1.2.2.1, ?_⟩
      rw [e3]
      have h75 : k ≠ 5 := by omega
      refine ⟨fun hm => ?_, fun hm => ⟨h75, by rw [if_neg (by simp [hm])], by rw [if_pos (.inl h7)]; exact ⟨s3, p3, f3, o3⟩⟩⟩
      refine cal_of (thr_spec way 3) ?_
      rintro _ _ ⟨rfl, rfl⟩
      exact ⟨_, rfl, h75, by rw [if_pos ⟨h7, hm⟩], by rw [if_pos (.inl h7)]; exact ⟨s3, p3, f3, o3⟩⟩
    refine ifb_iff (q := k = 8) (by simp) (fun h8 => ?_) (fun h8 => ?_)
    · refine ⟨_, T1.2.2.2.1, _, T2.2.2.2.1, ?_⟩
      rw [e4, d4]
      refine cal_of (life_spec hp2 (by omega) r r' way) ?_
      rintro _ h3 P3
      exact ⟨by omega, by rw [if_neg (by omega)], by rw [if_pos (.inr h8)]; exact P3⟩
    refine ifb_iff (q := k = 5) (by simp) (fun h5 => ?_) (fun h5 => ⟨h5, by rw [if_neg (by omega)], by rw [if_neg (by omega), List.append_nil]; exact PrTo.refl hp2⟩)
    have hrl : rs.length = rs'.length := by simpa [h5] using hs5
    refine ⟨_, T1.2.2.2.2.1, _, T1.2.2.2.2.1, ?_⟩
    rw [e5.len]
    have hregs : ∀ (j : Nat) (h1 : j < rs.length) (h2 : j < rs'.length), regsL (fun i => thr way (ofW ws nm i)) 0 (rs.take (j + 1)) (rs'.take (j + 1)) = regsL (fun i => thr way (ofW ws nm i)) 0 (rs.take j) (rs'.take j) ++ lifeL rs[j] rs'[j] (thr way (ofW ws nm j)) := by
      intro j q1 q2
      rw [List.take_add_one, List.take_add_one, List.getElem?_eq_getElem q1, List.getElem?_eq_getElem q2]
      have := regsL_snoc (fun i => thr way (ofW ws nm i)) rs[j] rs'[j] 0 (rs.take j) (rs'.take j) (by simp; omega)
      simp only [Nat.zero_add, List.length_take] at this
      rw [Nat.min_eq_left (by omega)] at this
      exact this
    refine ⟨fun i h' => ∃ j : Nat, i = j ∧ j ≤ rs.length ∧ PrTo h2 B pb w s (L ++ regsL (fun i => thr way (ofW ws nm i)) 0 (rs.take j) (rs'.take j)) h', fun i _ => rs.length - i.toNat, ⟨0, rfl, Nat.zero_le _, by simpa [regsL] using PrTo.refl hp2⟩, ?_⟩
    rintro _ h6 ⟨j, rfl, hj, P6⟩
    obtain ⟨s6, p6, f6, o6⟩ := P6
    obtain ⟨K1, K2, K3, T1, T2⟩ := keep p6 f6
    refine ifb_iff (q := j < rs.length) (by simp [e5.len]) (fun hl => ?_) (fun hl => ?_)
    · have hl' : j < rs'.length := by omega
      refine ⟨fun h' => h' = h6, rfl, _, rfl, w, by rw [p6.box.cl]; rfl, _, T1.2.1, ?_⟩
      obtain ⟨-, -, -, -, E5, -, -⟩ := tyAt_iff.1 K1
      obtain ⟨-, -, -, -, D5, -, -⟩ := tyAt_iff.1 K2
      obtain ⟨pa, a1, -, a2⟩ := E5.at_ j hl
      obtain ⟨pc, c1, -, c2⟩ := D5.at_ j hl'
      refine ⟨_, (by rintro _ rfl; exact T1.2.2.2.2.1), pa, a1, by omega, by rw [E5.len]; omega, _, (by rintro _ rfl; rw [Int.toNat_natCast]; exact a2), _, (by rintro _ rfl; exact T2.2.2.2.2.1), pc, c1, by omega, by rw [D5.len]; omega, _, (by rintro _ rfl; rw [Int.toNat_natCast]; exact c2), ?_⟩
      rw [e2]
      refine cal_of (of_spec K3 nm j) ?_
      rintro _ _ ⟨rfl, rfl⟩
      refine ⟨_, rfl, rfl, cal_of (thr_spec way _) ?_⟩
      rintro _ _ ⟨rfl, rfl⟩
      have hrlen := regsL_len (fun i => thr way (ofW ws nm i)) 0 (rs.take j) (rs'.take j)
      have htk : (rs.take j).length ≤ rs.length := by simp; omega
      refine ⟨_, rfl, rfl, cal_of (life_spec p6 (by rw [List.length_append]; omega) _ _ _) ?_⟩
      rintro _ h9 P9
      rw [wrap_succ hl (by omega)]
      refine ⟨⟨j + 1, rfl, hl, ?_⟩, by simp; omega⟩
      rw [hregs j hl hl', ← List.append_assoc]
      exact P9.after f6 o6
    · have hje : j = rs.length := by omega
      subst hje
      rw [List.take_length, hrl, List.take_length] at p6
      refine ⟨_, T1.2.2.2.2.2, ?_⟩
      dsimp only
      rw [e6]
      refine ⟨fun i h' => ∃ j : Nat, i = j ∧ j ≤ az.length ∧ PrTo h2 B pb w s (L ++ (regsL (fun i => thr way (ofW ws nm i)) 0 rs rs' ++ seeA (seeL (ofW ws)) (fun i => thr way (ofW ws nm (rs.length + i))) 0 (az.take j) (az'.take j))) h', fun i _ => az.length - i.toNat, ⟨0, rfl, Nat.zero_le _, ⟨s6, by simpa [seeA] using p6, f6, o6⟩⟩, ?_⟩
      rintro _ h10 ⟨j, rfl, hj, P10⟩
      obtain ⟨s10, p10, f10, o10⟩ := P10
      obtain ⟨K1, K2, K3, T1, T2⟩ := keep p10 f10
      refine ifb_iff (q := j < az.length) (by simp) (fun hl => ?_) (fun hl => ?_)
      · have hl' : j < az'.length := by omega
        refine ⟨fun h' => h' = h10, rfl, _, rfl, w, by rw [p10.box.cl]; rfl, _, T1.2.1, ?_⟩
        obtain ⟨-, -, -, -, -, E6, E7⟩ := tyAt_iff.1 K1
        obtain ⟨-, -, -, -, -, D6, D7⟩ := tyAt_iff.1 K2
        obtain ⟨pa, ua, a1, -, a2, a3⟩ := E7 j hl
        obtain ⟨pc, uc, c1, -, c2, c3⟩ := D7 j hl'
        refine ⟨_, (by rintro _ rfl; exact T1.2.2.2.2.2), pa, a1, by omega, by rw [E6]; omega, ?_⟩
        rw [Int.toNat_natCast]
        refine hd6 (t := ua) (by rintro _ rfl; exact a2) ?_
        refine ⟨_, (by rintro _ rfl; exact T2.2.2.2.2.2), pc, c1, by omega, by rw [D6]; omega, ?_⟩
        refine hd6 (t := uc) (by rintro _ rfl; exact c2) ?_
        have hw2 : IntKind.i64.wrap (((rs.length : Nat) : Int) + (j : Int)) = ((rs.length + j : Nat) : Int) := by rw [wrap64_id (by omega) (by omega)]; rfl
        rw [hw2, e2]
        refine cal_of (of_spec K3 nm (rs.length + j)) ?_
        rintro _ _ ⟨rfl, rfl⟩
        refine ⟨_, rfl, rfl, cal_of (thr_spec way _) ?_⟩
        rintro _ _ ⟨rfl, rfl⟩
        have hrlen := regsL_len (fun i => thr way (ofW ws nm i)) 0 rs rs'
        have halen := hargs (fun i => thr way (ofW ws nm (rs.length + i))) j
        -- one more type: what is listed so far leaves room
        have hsofar : (seeA (seeL (ofW ws)) (fun i => thr way (ofW ws nm (rs.length + i))) 0 (az.take j) (az'.take j)).length ≤ 3 * bnd m :=
          Nat.le_trans (seeA_len _ 0 _ _ fun a ha w b => seeL_len (ofW ws) m a w b (hall a (List.mem_of_mem_take ha))) (Nat.mul_le_mul_right _ (by simp; omega))
        refine ⟨_, rfl, rfl, cal_of (ih _ (List.getElem_mem hl) az'[j] m (hall _ (List.getElem_mem hl)) (hsi j hl hl') ua uc h10 s10 _ _ a3 c3 K3 p10 (by rw [List.length_append, List.length_append]; omega)) ?_⟩
        rintro _ h13 P13
        rw [wrap_succ hl (by omega)]
        refine ⟨⟨j + 1, rfl, hl, ?_⟩, by simp; omega⟩
        rw [hround _ j hl hl', ← List.append_assoc (regsL _ _ _ _), ← List.append_assoc L]
        exact P13.after f10 o10
      · have hje : j = az.length := by omega
        subst hje
        rw [List.take_length, hlA, List.take_length] at p10
        rw [seeL_mk, if_pos h5]
        exact fin ⟨s10, p10, f10, o10⟩
  · rintro inner h14 ⟨h5, rfl, s14, p14, f14, o14⟩
    obtain ⟨K1, K2, K3, T1, T2⟩ := keep p14 f14
    refine ⟨_, T1.2.2.2.2.2, ?_⟩
    dsimp only
    rw [e6]
    generalize hin : (if k = 7 ∧ mu = true then thr way 3 else way) = inner
    generalize hL2 : (if k = 7 ∨ k = 8 then lifeL r r' way else []) = L2 at p14
    have hL2l : L2.length ≤ 2 := by
      have := lifeL_len r r' way
      rw [← hL2]; split
      · exact this
      · simp
    refine ⟨fun i h' => ∃ j : Nat, i = j ∧ j ≤ az.length ∧ PrTo h2 B pb w s (L ++ (L2 ++ seeA (seeL (ofW ws)) (fun _ => inner) 0 (az.take j) (az'.take j))) h', fun i _ => az.length - i.toNat, ⟨0, rfl, Nat.zero_le _, ⟨s14, by simpa [seeA] using p14, f14, o14⟩⟩, ?_⟩
    rintro _ h15 ⟨j, rfl, hj, P15⟩
    obtain ⟨s15, p15, f15, o15⟩ := P15
    obtain ⟨K1, K2, K3, T1, T2⟩ := keep p15 f15
    refine ifb_iff (q := j < az.length) (by simp) (fun hl => ?_) (fun hl => ?_)
    · have hl' : j < az'.length := by omega
      refine ⟨_, T1.2.2.2.2.2, args_get K1 hl fun ua hua => ⟨_, T2.2.2.2.2.2, args_get K2 hl' fun uc huc => ?_⟩⟩
      have hsofar : (seeA (seeL (ofW ws)) (fun _ => inner) 0 (az.take j) (az'.take j)).length ≤ 3 * bnd m :=
        Nat.le_trans (seeA_len _ 0 _ _ fun a ha w b => seeL_len (ofW ws) m a w b (hall a (List.mem_of_mem_take ha))) (Nat.mul_le_mul_right _ (by simp; omega))
      refine cal_of (ih _ (List.getElem_mem hl) az'[j] m (hall _ (List.getElem_mem hl)) (hsi j hl hl') ua uc h15 s15 _ inner hua huc K3 p15 (by rw [List.length_append, List.length_append]; omega)) ?_
      rintro _ h16 P16
      rw [wrap_succ hl (by omega)]
      refine ⟨⟨j + 1, rfl, hl, ?_⟩, by simp; omega⟩
      rw [hround _ j hl hl', ← List.append_assoc L2, ← List.append_assoc L]
      exact P16.after f15 o15
    · have hje : j = az.length := by omega
      subst hje
      rw [List.take_length, hlA, List.take_length] at p15
      rw [seeL_mk, if_neg h5, hL2, hin]
      exact fin ⟨s15, p15, f15, o15⟩
end
end Go.Proofs.Yteaidgpiolakcaa.pairs

/-
  What Under and Pairs tell, by the program and by the document; lists held against each other.
-/
import Derived.Test.YthpfblimfaefhaaS7
namespace Go.Proofs.Ythpfblimfaefhaa
open Go Go.Lf

/-- a slice that reads as ints -/
structure IntsAt (h : Heap) (s : Sv) (xs : List Int) : Prop where
  len : s.n = xs.length
  at_ : ∀ i (hi : i < xs.length), ∃ p, s.a = some p ∧ cl h (p.add (i * 1)) = some (.int .i64 xs[i])
theorem IntsAt.frame {h h' : Heap} {s : Sv} {xs : List Int} {T : Nat → Prop} (x : IntsAt h s xs) (f : Fr T h h') (hT : ∀ b, s.own b → ¬ T b) : IntsAt h' s xs := by
  refine ⟨x.len, fun i hi => ?_⟩
  obtain ⟨p, e, c⟩ := x.at_ i hi
  exact ⟨p, e, f.clk c (by rw [add_block]; exact hT _ ⟨p, e, rfl⟩)⟩
def ints (xs : List Int) : List Value := xs.map (.int .i64)
theorem own_ints {h : Heap} {B : Nat} {s : Sv} {xs : List Int} (o : Own h B 1 s (ints xs)) : IntsAt h s xs := by
  have hl : s.n = xs.length := by have := o.len; simp [ints] at this; omega
  refine ⟨hl, fun i hi => ?_⟩
  rcases o.mem with ⟨_, e, _⟩ | ⟨g, cur, e, _⟩
  · omega
  · have hr := o.row
    rw [e] at hr
    exact ⟨_, e, by have := hr i (.int .i64 xs[i]) (by simp [ints, hi]); rwa [Nat.mul_one]⟩
theorem own_pairs {h : Heap} {B : Nat} {s : Sv} {ps : List (Int × Int)} (o : Own h B 2 s (flat ps)) : PairsAt h s ps := by
  have hl : s.n = ps.length := by have := o.len; rw [flat_len] at this; omega
  refine ⟨hl, fun i hi => ?_⟩
  rcases o.mem with ⟨_, e, _⟩ | ⟨g, cur, e, _⟩
  · omega
  · have hr := o.row
    rw [e] at hr
    have hf := flat_get ps i hi
    refine ⟨_, e, hr _ _ hf.1, ?_⟩
    have := hr _ _ hf.2
    simp only [add_plain, Nat.zero_add] at this ⊢
    exact this
theorem own_grown {h h2 h4 : Heap} {sz : Nat} {l : Sv} {xs : List Value} (o : Own h2 h.size sz l xs) (f : Grow h h2) (g : Fr l.own h2 h4) : Grow h h4 :=
  f.trans' g fun i hi ho => by have := (o.ge ho).1; omega

theorem ints_spec {h : Heap} {a b : Sv} {xs ys : List Int} (x : IntsAt h a xs) (y : IntsAt h b ys) (hl : xs.length ≤ 1000000) :
    CallsH Try.prog 17 #[.slice a.a a.n a.c, .slice b.a b.n b.c] h (fun v h' => h = h' ∧ v = .bool (decide (xs = ys))) := by
  apply F17
  unfold L17
  have e1 := x.len
  have e2 := y.len
  refine ifb_iff (q := xs.length ≠ ys.length) (by rw [e1, e2]; simp; omega) (fun hne => ⟨rfl, ?_⟩) (fun heq => ?_)
  · have : xs ≠ ys := fun e => hne (by rw [e])
    simp [this]
  have heq : xs.length = ys.length := by omega
  refine ⟨fun i => ∃ k : Nat, i = k ∧ k ≤ xs.length ∧ ∀ j (h1 : j < xs.length) (h2 : j < ys.length), j < k → xs[j] = ys[j], fun i => (xs.length - i).toNat, ⟨0, rfl, by omega, fun j _ _ h => by omega⟩, ?_⟩
  rintro i ⟨k, rfl, hk, hall⟩
  refine ifb_dec (fun hlt => ?_) (fun hge => ?_)
  · have hkl : k < xs.length := by rw [e1] at hlt; omega
    have hwk : IntKind.i64.wrap ((k : Int) + 1) = ((k + 1 : Nat) : Int) := by rw [wrap64_id (by omega) (by omega)]; omega
    obtain ⟨p, ep, cp⟩ := x.at_ k hkl
    obtain ⟨q, eq, cq⟩ := y.at_ k (by omega)
    refine ixS_i ep (by omega) hlt (ldI_i (by simpa only [Int.toNat_natCast] using cp) (ixS_i eq (by omega) (by rw [e2]; omega) (ldI_i (by simpa only [Int.toNat_natCast] using cq) ?_)))
    refine ⟨fun e => ⟨rfl, ?_⟩, fun e => ⟨⟨k + 1, hwk, by omega, fun j h1 h2 hj => ?_⟩, by rw [hwk]; (try dsimp only); omega⟩⟩
    · have hne : xs[k] ≠ ys[k]'(by omega) := by simpa using e
      have : xs ≠ ys := fun e => hne (by subst e; rfl)
      simp [this]
    · have he : xs[k] = ys[k]'(by omega) := by simpa using e
      by_cases ej : j = k
      · subst ej; exact he
      · exact hall j h1 h2 (by omega)
  · have : xs = ys := List.ext_getElem heq fun j h1 h2 => hall j h1 h2 (by rw [e1] at hge; omega)
    exact ⟨rfl, by simp [this]⟩

theorem same_spec {h : Heap} {a b : Sv} {xs ys : List (Int × Int)} (x : PairsAt h a xs) (y : PairsAt h b ys) (hl : xs.length ≤ 1000000) :
    CallsH Try.prog 19 #[.slice a.a a.n a.c, .slice b.a b.n b.c] h (fun v h' => h = h' ∧ v = .bool (decide (xs = ys))) := by
  apply F19
  unfold L19
  have e1 := x.len
  have e2 := y.len
  refine ifb_iff (q := xs.length ≠ ys.length) (by rw [e1, e2]; simp; omega) (fun hne => ⟨rfl, ?_⟩) (fun heq => ?_)
  · have : xs ≠ ys := fun e => hne (by rw [e])
    simp [this]
  have heq : xs.length = ys.length := by omega
  refine ⟨fun i => ∃ k : Nat, i = k ∧ k ≤ xs.length ∧ ∀ j (h1 : j < xs.length) (h2 : j < ys.length), j < k → xs[j] = ys[j], fun i => (xs.length - i).toNat, ⟨0, rfl, by omega, fun j _ _ h => by omega⟩, ?_⟩
  rintro i ⟨k, rfl, hk, hall⟩
  refine ifb_dec (fun hlt => ?_) (fun hge => ?_)
  · have hkl : k < xs.length := by rw [e1] at hlt; omega
    have hwk : IntKind.i64.wrap ((k : Int) + 1) = ((k + 1 : Nat) : Int) := by rw [wrap64_id (by omega) (by omega)]; omega
    obtain ⟨p, ep, cp, cp'⟩ := x.at_ k hkl
    obtain ⟨q, eq, cq, cq'⟩ := y.at_ k (by omega)
    refine ixS_i ep (by omega) hlt ⟨_, _, by simpa only [Int.toNat_natCast] using cp, by simpa only [Int.toNat_natCast] using cp', ixS_i eq (by omega) (by rw [e2]; omega) ⟨_, _, by simpa only [Int.toNat_natCast] using cq, by simpa only [Int.toNat_natCast] using cq', ?_⟩⟩
    refine ⟨fun e => ⟨rfl, ?_⟩, fun e => ⟨⟨k + 1, hwk, by omega, fun j h1 h2 hj => ?_⟩, by rw [hwk]; (try dsimp only); omega⟩⟩
    · have hne : xs[k] ≠ ys[k]'(by omega) := fun he => by rw [he] at e; simp at e
      have : xs ≠ ys := fun e => hne (by subst e; rfl)
      simp [this]
    · have he : xs[k] = ys[k]'(by omega) := by
        simp at e
        exact Prod.ext e.1 e.2
      by_cases ej : j = k
      · subst ej; exact he
      · exact hall j h1 h2 (by omega)
  · have : xs = ys := List.ext_getElem heq fun j h1 h2 => hall j h1 h2 (by rw [e1] at hge; omega)
    exact ⟨rfl, by simp [this]⟩

/-- the numbers below `k` that `f` holds -/
def sel (f : Nat → Bool) (k : Nat) : List Int := ((List.range k).filter f).map fun i : Nat => (i : Int)
theorem sel_succ (f : Nat → Bool) (k : Nat) : sel f (k + 1) = sel f k ++ (if f k then [(k : Int)] else []) := by
  unfold sel
  rw [List.range_succ, List.filter_append, List.map_append]
  congr 1
  simp only [List.filter_cons, List.filter_nil]
  split <;> rfl
theorem sel_len (f : Nat → Bool) (k : Nat) : (sel f k).length ≤ k := by
  unfold sel; rw [List.length_map]; exact Nat.le_trans (List.length_filter_le _ _) (by simp)
theorem sel_congr {f g : Nat → Bool} {k : Nat} (h : ∀ i, i < k → f i = g i) : sel f k = sel g k := by
  unfold sel; congr 1; exact List.filter_congr fun i hi => h i (List.mem_range.1 hi)

section
variable {br bo c : Nat} {rb : Nat → Nat} {n : Nat} {m : Nat → Nat → Bool} {h : Heap}
theorem under_bad (x : RelOk br bo c rb n m h) (a : Int) (ha : inR n a = false) : CallsH Try.prog 18 #[.pointer (some ⟨br, 0, none⟩), .int .i64 a] h (fun v h' => h = h' ∧ v = .slice none 0 0) := by
  apply F18
  unfold L18
  refine cal_of (known_spec x.cn a) ?_
  rintro _ _ ⟨rfl, rfl⟩
  exact ⟨_, rfl, ⟨fun _ => ⟨rfl, rfl⟩, fun e => by simp [inR] at e ha; omega⟩⟩
theorem under_nil (a : Int) : CallsH Try.prog 18 #[.pointer none, .int .i64 a] h (fun v h' => h = h' ∧ v = .slice none 0 0) := by
  apply F18
  unfold L18
  refine cal_of (known_nil a) ?_
  rintro _ _ ⟨rfl, rfl⟩
  exact ⟨_, rfl, ⟨fun _ => ⟨rfl, rfl⟩, fun e => by cases e⟩⟩

theorem under_spec (x : RelOk br bo c rb n m h) (hn : n ≤ 300) (a : Nat) (ha : a ≤ n) :
    CallsH Try.prog 18 #[.pointer (some ⟨br, 0, none⟩), .int .i64 a] h (fun v h' => ∃ s : Sv, v = s.v ∧ Own h' h.size 1 s (ints (sel (m a) (n + 1))) ∧ Grow h h') := by
  apply F18
  unfold L18
  refine cal_of (known_spec x.cn a) ?_
  rintro _ _ ⟨rfl, rfl⟩
  refine ⟨_, rfl, ⟨fun e => by simp at e; omega, fun _ => ?_⟩⟩
  refine x.rdRow a ha fun cr => ?_
  refine ⟨fun l y h2 => ∃ k : Nat, y = k ∧ k ≤ n + 1 ∧ Grow h h2 ∧ Own h2 h.size 1 l (ints (sel (m a) k)), fun _ y _ => (n + 1 - y).toNat, ⟨0, rfl, by omega, Fr.refl _ _, Own.nil _ _ _⟩, ?_⟩
  rintro l y h2 ⟨k, rfl, hk, g, o⟩
  refine ifb_dec (fun hlt => ?_) (fun hge => ?_)
  · have hkn : k ≤ n := by have : (k : Int) < ((n + 1 : Nat) : Int) := hlt; omega
    have hwk : IntKind.i64.wrap ((k : Int) + 1) = ((k + 1 : Nat) : Int) := by rw [wrap64_id (by omega) (by omega)]; omega
    refine ⟨fun l' h5 => Grow h h5 ∧ Own h5 h.size 1 l' (ints (sel (m a) (k + 1))), ?_, fun l' h5 ⟨q1, q2⟩ => ⟨⟨k + 1, hwk, by omega, q1, q2⟩, by rw [hwk]; (try dsimp only); omega⟩⟩
    refine (x.frame g fun _ _ h => h).rdCell a k ha hkn ?_
    rw [sel_succ]
    have hln : l.n ≤ 301 := by have := o.len; have := sel_len (m a) k; simp [ints] at *; omega
    refine ⟨fun hm => ?_, fun hm => ?_⟩
    · refine app1 (B := h.size) (sz := 1) rfl o rfl (by simp [Value.oneCell']) g.size (by omega) (by omega) ?_
      intro s' h4 e1 o4 f4 _
      refine ⟨own_grown o g f4, ?_⟩
      rw [hm]
      simpa [ints] using o4
    · rw [hm]
      exact ⟨g, by simpa using o⟩
  · have hke : k = n + 1 := by have : ¬ (k : Int) < ((n + 1 : Nat) : Int) := hge; omega
    subst hke
    exact ⟨l, rfl, o, g⟩
end

section
variable {bw B n : Nat} {s : Sv} {ps : List (Int × Int)} {h : Heap}
theorem refUnder_spec (x : RefOk bw B s n (okP n ps) h) (hn : n ≤ 300) (hl : ps.length ≤ 1000) (a : Nat) (ha : a ≤ n) :
    CallsH Try.prog 15 #[.pointer (some ⟨bw, 0, none⟩), .int .i64 a] h (fun v h' => ∃ t : Sv, v = t.v ∧ Own h' h.size 1 t (ints (sel (mOf n ps a) (n + 1))) ∧ Grow h h') := by
  apply F15
  unfold L15
  refine ⟨fun l y h1 => ∃ k : Nat, y = k ∧ k ≤ n + 1 ∧ Grow h h1 ∧ Own h1 h.size 1 l (ints (sel (mOf n ps a) k)), fun _ y _ => (n + 1 - y).toNat, ⟨0, rfl, by omega, Fr.refl _ _, Own.nil _ _ _⟩, ?_⟩
  rintro l y h1 ⟨k, rfl, hk, g, o⟩
  have X := x.frame g (fun h => h) fun _ _ h => h
  refine nn_i (ldI_i X.cn ?_)
  refine ifb_dec (fun hle => ?_) (fun hgt => ?_)
  · have hkn : k ≤ n := by omega
    have hwk : IntKind.i64.wrap ((k : Int) + 1) = ((k + 1 : Nat) : Int) := by rw [wrap64_id (by omega) (by omega)]; omega
    refine ⟨fun l' h5 => Grow h h5 ∧ Own h5 h.size 1 l' (ints (sel (mOf n ps a) (k + 1))), ?_, fun l' h5 ⟨q1, q2⟩ => ⟨⟨k + 1, hwk, by omega, q1, q2⟩, by rw [hwk]; (try dsimp only); omega⟩⟩
    refine cal_of (refHas_is X hn hl a k) ?_
    rintro _ h2 ⟨rfl, g2⟩
    refine ⟨_, rfl, ?_⟩
    have hh : hasM n (mOf n ps) a k = mOf n ps a k := by simp [hasM, inR, ha, hkn]
    rw [hh, sel_succ]
    have o2 := o.frame g2 fun _ _ h => h
    have hln : l.n ≤ 301 := by have := o.len; have := sel_len (mOf n ps a) k; simp [ints] at *; omega
    refine ⟨fun hm => ?_, fun hm => ?_⟩
    · refine app1 (B := h.size) (sz := 1) rfl o2 rfl (by simp [Value.oneCell']) (g.trans g2).size (by omega) (by omega) ?_
      intro s' h4 e1 o4 f4 _
      refine ⟨own_grown o2 (g.trans g2) f4, ?_⟩
      rw [hm]
      simpa [ints] using o4
    · rw [hm]
      exact ⟨g.trans g2, by simpa using o2⟩
  · have hke : k = n + 1 := by omega
    subst hke
    exact ⟨l, rfl, o, g⟩
end

/-- the pairs of one -/
def selP (a : Nat) (l : List Int) : List (Int × Int) := (l.filter fun b => (a : Int) != b).map fun b => ((a : Int), b)
/-- all pairs, from 1 to below `k` -/
def allP (m : Nat → Nat → Bool) (n : Nat) : Nat → List (Int × Int)
  | 0 => []
  | k + 1 => allP m n k ++ (if k = 0 then [] else selP k (sel (m k) (n + 1)))
theorem selP_len (a : Nat) (l : List Int) : (selP a l).length ≤ l.length := by unfold selP; rw [List.length_map]; exact List.length_filter_le _ _
theorem allP_len (m : Nat → Nat → Bool) (n : Nat) : ∀ k, (allP m n k).length ≤ k * (n + 1)
  | 0 => by simp [allP]
  | k + 1 => by
    have := allP_len m n k
    have h1 := selP_len k (sel (m k) (n + 1))
    have h2 := sel_len (m k) (n + 1)
    simp only [allP, List.length_append]
    rw [Nat.add_mul]
    split <;> simp <;> omega
theorem selP_snoc (a : Nat) (l : List Int) (b : Int) : selP a (l ++ [b]) = selP a l ++ (if (a : Int) != b then [((a : Int), b)] else []) := by
  unfold selP
  rw [List.filter_append, List.map_append]
  congr 1
  simp only [List.filter_cons, List.filter_nil]
  split <;> rfl
theorem flat_app (a b : List (Int × Int)) : flat (a ++ b) = flat a ++ flat b := by simp [flat]

section
variable {br bo c : Nat} {rb : Nat → Nat} {n : Nat} {m : Nat → Nat → Bool} {h : Heap}
theorem pairs_nil : CallsH Try.prog 20 #[.pointer none] h (fun v h' => h = h' ∧ v = .slice none 0 0) := by
  apply F20
  unfold L20
  refine ⟨fun l a h1 => h = h1 ∧ l = ⟨none, 0, 0⟩ ∧ a = 1, fun _ _ _ => 0, ⟨rfl, rfl, rfl⟩, ?_⟩
  rintro _ _ _ ⟨rfl, rfl, rfl⟩
  refine cal_of len_nil ?_
  rintro _ _ ⟨rfl, rfl⟩
  exact ⟨_, rfl, ifb_dec (fun e => by omega) (fun _ => ⟨rfl, rfl⟩)⟩

theorem pairs_spec (x : RelOk br bo c rb n m h) (hn : n ≤ 300) :
    CallsH Try.prog 20 #[.pointer (some ⟨br, 0, none⟩)] h (fun v h' => ∃ s : Sv, v = s.v ∧ Own h' h.size 2 s (flat (allP m n (n + 1))) ∧ Grow h h') := by
  apply F20
  unfold L20
  refine ⟨fun l y h1 => ∃ k : Nat, y = k ∧ 1 ≤ k ∧ k ≤ n + 1 ∧ Grow h h1 ∧ Own h1 h.size 2 l (flat (allP m n k)), fun _ y _ => (n + 1 - y).toNat, ⟨1, rfl, by omega, by omega, Fr.refl _ _, Own.nil _ _ _⟩, ?_⟩
  rintro l y h1 ⟨k, rfl, hk1, hk, g, o⟩
  refine cal_of (len_spec (x.frame g fun _ _ h => h)) ?_
  rintro _ _ ⟨rfl, rfl⟩
  refine ⟨_, rfl, ?_⟩
  refine ifb_dec (fun hle => ?_) (fun hgt => ?_)
  · have hkn : k ≤ n := by omega
    have hwk : IntKind.i64.wrap ((k : Int) + 1) = ((k + 1 : Nat) : Int) := by rw [wrap64_id (by omega) (by omega)]; omega
    refine cal_of (under_spec (x.frame g fun _ _ h => h) hn k hkn) ?_
    rintro _ h3 ⟨u, rfl, ou, g3⟩
    refine ⟨u, rfl, ?_⟩
    have hul := sel_len (m k) (n + 1)
    have hap := allP_len m n k
    have hkk : k * (n + 1) ≤ 300 * 301 := Nat.mul_le_mul (by omega) (by omega)
    have hue : allP m n (k + 1) = allP m n k ++ selP k (sel (m k) (n + 1)) := by simp only [allP]; rw [if_neg (by omega)]
    generalize sel (m k) (n + 1) = us at *
    have o3 := o.frame g3 fun _ _ h => h
    refine ⟨fun l' z h4 => ∃ i : Nat, z = i ∧ i ≤ us.length ∧ Grow h h4 ∧ Own h4 h.size 2 l' (flat (allP m n k ++ selP k (us.take i))) ∧ Own h4 h1.size 1 u (ints us) ∧ ∀ b, u.own b → ¬ l'.own b, fun _ z _ => (us.length - z).toNat,
      ⟨0, rfl, by omega, g.trans g3, by simpa [selP] using o3, ou, fun b hb hl => by have := (ou.ge hb).1; have := (o.ge hl).2; omega⟩, ?_⟩
    rintro l' z h4 ⟨i, rfl, hi, g4, o4, ou4, hd⟩
    have hun : u.n = us.length := by have := ou4.len; simp [ints] at this; omega
    refine ifb_dec (fun hlt => ?_) (fun hge => ?_)
    · have hil : i < us.length := by omega
      have hwi : IntKind.i64.wrap ((i : Int) + 1) = ((i + 1 : Nat) : Int) := by rw [wrap64_id (by omega) (by omega)]; omega
      have htk : us.take (i + 1) = us.take i ++ [us[i]] := by rw [List.take_succ_eq_append_getElem hil]
      refine ⟨fun l'' h7 => Grow h h7 ∧ Own h7 h.size 2 l'' (flat (allP m n k ++ selP k (us.take (i + 1)))) ∧ Own h7 h1.size 1 u (ints us) ∧ ∀ b, u.own b → ¬ l''.own b, ?_,
        fun l'' h7 ⟨q1, q2, q3, q4⟩ => ⟨⟨i + 1, hwi, by omega, q1, q2, q3, q4⟩, by rw [hwi]; (try dsimp only); omega⟩⟩
      obtain ⟨p, ep, cp⟩ := (own_ints ou4).at_ i hil
      refine ixS_i ep (by omega) hlt (ldI_i (by simpa only [Int.toNat_natCast] using cp) ?_)
      rw [htk, selP_snoc]
      have hln : l'.n ≤ 100000 := by
        have h1 := o4.len
        rw [flat_len, List.length_append] at h1
        have h2 := selP_len k (us.take i)
        have h3 := List.length_take_le i us
        omega
      refine ⟨fun hm => ?_, fun hm => ?_⟩
      · refine app1 (B := h.size) (sz := 2) rfl o4 rfl (by simp [Value.oneCell']) g4.size (by omega) (by omega) ?_
        intro s' h6 e1 o6 f6 hown
        refine ⟨own_grown o4 g4 f6, ?_, ou4.frame f6 hd, fun b hb ho => ?_⟩
        · rw [if_pos hm]
          simpa [flat] using o6
        · rcases hown b ho with h' | h'
          · exact hd b hb h'
          · have := (ou4.ge hb).2; omega
      · rw [hm]
        exact ⟨g4, by simpa using o4, ou4, hd⟩
    · have hie : i = us.length := by omega
      subst hie
      rw [List.take_length] at o4
      refine ⟨⟨k + 1, hwk, by omega, by omega, g4, by rw [hue]; exact o4⟩, by rw [hwk]; (try dsimp only); omega⟩
  · have hke : k = n + 1 := by omega
    subst hke
    exact ⟨l, rfl, o, g⟩
end
end Go.Proofs.Ythpfblimfaefhaa

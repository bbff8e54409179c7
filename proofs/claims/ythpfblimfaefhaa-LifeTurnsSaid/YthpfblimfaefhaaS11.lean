/-
  LifeTurns: the pairs the other way round tell the same; and what is known already adds nothing.
-/
import Derived.Test.YthpfblimfaefhaaS9
namespace Go.Proofs.Ythpfblimfaefhaa
open Go Go.Lf

theorem mOf_sub {n : Nat} {ps qs : List (Int × Int)} (hs : ∀ p ∈ okP n qs, p ∈ okP n ps) : ∀ i j, i ≤ n → j ≤ n → mOf n qs i j = true → mOf n ps i j = true := by
  have C := Clo.mOf n ps
  have key : ∀ (l : List (Int × Int)) (m : Nat → Nat → Bool), (∀ p ∈ l, p ∈ qs) → (∀ i j, i ≤ n → j ≤ n → m i j = true → mOf n ps i j = true) → ∀ i j, i ≤ n → j ≤ n → l.foldl (stepP n) m i j = true → mOf n ps i j = true := by
    intro l
    induction l with
    | nil => intro m _ hm; exact hm
    | cons p l ih =>
      intro m hl hm
      refine ih (stepP n m p) (fun q hq => hl q (List.mem_cons_of_mem _ hq)) fun i j hi hj h => ?_
      unfold stepP at h
      split at h
      · rename_i hr
        have hp := hs p (List.mem_filter.2 ⟨hl p (by simp), hr⟩)
        have hm' := mOf_mem hp
        simp [inR] at hr
        simp only [addM, Bool.or_eq_true, Bool.and_eq_true] at h
        rcases h with h | ⟨h1, h2⟩
        · exact hm i j hi hj h
        · exact C.trans i _ j hi (by omega) hj (hm _ _ hi (by omega) h1) (C.trans _ _ j (by omega) (by omega) hj hm' (hm _ _ (by omega) hj h2))
      · exact hm i j hi hj h
  refine key qs m0 (fun p hp => hp) fun i j hi hj h => ?_
  simp [m0] at h
  rcases h with rfl | rfl
  · exact C.refl _ hi
  · exact C.zero _ hj
theorem mOf_rev {n : Nat} {ps : List (Int × Int)} : ∀ i j, i ≤ n → j ≤ n → mOf n ps.reverse i j = mOf n ps i j := by
  intro i j hi hj
  have h1 := mOf_sub (n := n) (ps := ps) (qs := ps.reverse) (fun p hp => by simpa [okP] using hp) i j hi hj
  have h2 := mOf_sub (n := n) (ps := ps.reverse) (qs := ps) (fun p hp => by simpa [okP] using hp) i j hi hj
  cases e1 : mOf n ps.reverse i j <;> cases e2 : mOf n ps i j <;> simp_all
theorem allP_congr {m m' : Nat → Nat → Bool} {n : Nat} (h : ∀ i j, i ≤ n → j ≤ n → m i j = m' i j) : ∀ k, k ≤ n + 1 → allP m n k = allP m' n k
  | 0, _ => rfl
  | k + 1, hk => by
    simp only [allP]
    rw [allP_congr h k (by omega), sel_congr (f := m k) (g := m' k) fun i hi => h k i (by omega) (by omega)]
theorem allP_mem {m : Nat → Nat → Bool} {n : Nat} : ∀ k, k ≤ n + 1 → ∀ p ∈ allP m n k, ∃ i j : Nat, p = ((i : Int), (j : Int)) ∧ i ≤ n ∧ j ≤ n ∧ m i j = true
  | 0, _, p, hp => by simp [allP] at hp
  | k + 1, hk, p, hp => by
    simp only [allP, List.mem_append] at hp
    rcases hp with hp | hp
    · exact allP_mem k (by omega) p hp
    · split at hp
      · simp at hp
      · simp only [selP, sel, List.mem_map, List.mem_filter, List.mem_range] at hp
        obtain ⟨_, ⟨⟨j, ⟨hj, hm⟩, rfl⟩, _⟩, rfl⟩ := hp
        exact ⟨k, j, rfl, by omega, by omega, hm⟩
theorem rem_at (len : Nat) (h0 : 0 < len) (h1 : len ≤ 1000000) (x : Int) : IntKind.u64.wrap (len : Int) ≠ 0 ∧
    0 ≤ IntKind.i64.wrap ((IntKind.u64.wrap x).tmod (IntKind.u64.wrap (len : Int))) ∧ IntKind.i64.wrap ((IntKind.u64.wrap x).tmod (IntKind.u64.wrap (len : Int))) < len := by
  have e : IntKind.u64.wrap (len : Int) = len := by rw [IntKind.wrap_u64]; omega
  rw [e]
  have hx : 0 ≤ IntKind.u64.wrap x := by rw [IntKind.wrap_u64]; omega
  generalize IntKind.u64.wrap x = y at *
  have a1 := Int.tmod_nonneg (a := y) (len : Int) hx
  have a2 := Int.tmod_lt_of_pos y (show (0 : Int) < len by omega)
  rw [wrap64_id (by omega) (by omega)]
  exact ⟨by omega, a1, a2⟩

theorem turns_walk (n : Int) (pv : Sv) (ps : List (Int × Int)) (x0 : Int) (h : Heap) (x : PairsAt h pv ps) :
    CallsH Try.prog 7 #[.int .i64 n, .slice pv.a pv.n pv.c, .int .i64 x0] h (fun v h' => v = .bool true ∧ Grow h h') := by
  apply F7
  unfold L7
  refine cal_of (outlived_spec _) ?_
  rintro _ h1 ⟨rfl, f1⟩
  refine ⟨_, rfl, ?_⟩
  refine ifb_iff (q := ¬ (0 ≤ n ∧ n ≤ 20 ∧ pv.n ≤ 40)) (by simp; omega) (fun hn => ?_) (fun hn => ?_)
  · refine cal_of (outlived_spec _) ?_
    rintro _ h3 ⟨rfl, f3⟩
    exact ⟨_, rfl, rfl, f1.trans f3⟩
  have hn : 0 ≤ n ∧ n ≤ 20 ∧ pv.n ≤ 40 := by omega
  obtain ⟨n, rfl⟩ := Int.eq_ofNat_of_zero_le hn.1
  have hlen : ps.length ≤ 40 := by have := x.len; omega
  have hpl := x.len
  refine cal_of (both_spec (by omega) (x.grow f1) (by omega)) ?_
  rintro _ h3 ⟨br, bo, c, rb, bw, s, rfl, R, Q, f3, hB, -⟩
  have f13 := f1.trans f3
  refine ⟨_, rfl, _, rfl, _, rfl, _, rfl, _, rfl, _, rfl, _, rfl, ⟨fun e => (by cases e), fun _ => ?_⟩⟩
  refine ⟨fun back i h4 => ∃ k : Nat, i = (k : Int) - 1 ∧ k ≤ ps.length ∧ Grow h3 h4 ∧ Own h4 h3.size 2 back (flat (ps.drop k).reverse), fun _ i _ => (i + 1).toNat, ?_, ?_⟩
  · refine ⟨pv.n, by rw [wrap64_id (by omega) (by omega)], by omega, Fr.refl _ _, ?_⟩
    rw [hpl]
    simpa [flat] using Own.nil h3 h3.size 2
  rintro back i h4 ⟨k, rfl, hk, g4, o4⟩
  refine ifb_dec (fun hge => ?_) (fun hlt => ?_)
  · obtain ⟨q, rfl⟩ : ∃ q, k = q + 1 := ⟨k - 1, by omega⟩
    have ei : ((q + 1 : Nat) : Int) - 1 = (q : Int) := by omega
    rw [ei]
    have x4 := (x.grow f13).grow g4
    obtain ⟨p, ep, c1, c2⟩ := x4.at_ q (by omega)
    refine ixS_i ep (by omega) (by omega) ?_
    refine ⟨_, _, by simpa only [Int.toNat_natCast] using c1, by simpa only [Int.toNat_natCast] using c2, ?_⟩
    have hln : back.n ≤ 40 := by
      have := o4.len
      rw [flat_len, List.length_reverse, List.length_drop] at this
      omega
    refine app1 (B := h3.size) (sz := 2) rfl o4 rfl (by simp [Value.oneCell']) g4.size (by omega) (by omega) ?_
    intro s' h6 e1 o6 f6 hown
    have hw : IntKind.i64.wrap ((q : Int) - 1) = (q : Int) - 1 := wrap64_id (by omega) (by omega)
    rw [hw]
    refine ⟨⟨q, rfl, by omega, own_grown o4 g4 f6, ?_⟩, by (try dsimp only); omega⟩
    have hd : ps.drop q = ps[q] :: ps.drop (q + 1) := List.drop_eq_getElem_cons (by omega)
    rw [hd, List.reverse_cons, flat_app]
    simpa [flat] using o6
  have hk0 : k = 0 := by omega
  subst hk0
  rw [List.drop_zero] at o4
  refine cal_of (both_spec (by omega) (own_pairs o4) (by simp; omega)) ?_
  rintro _ h7 ⟨br', bo', c', rb', bw', s', rfl, R', Q', f7, -⟩
  refine ⟨_, rfl, _, rfl, _, rfl, _, rfl, _, rfl, _, rfl, _, rfl, ?_⟩
  have g7 : Grow h3 h7 := g4.trans f7
  have hal : allP (mOf n ps.reverse) n (n + 1) = allP (mOf n ps) n (n + 1) := allP_congr (fun i j hi hj => mOf_rev i j hi hj) _ (by omega)
  have hap : (allP (mOf n ps) n (n + 1)).length ≤ 1000 := by
    have h1 := allP_len (mOf n ps) n (n + 1)
    have h2 : (n + 1) * (n + 1) ≤ 21 * 21 := Nat.mul_le_mul (by omega) (by omega)
    omega
  have Rn := R.frame (T := fun _ => False) g7 (fun _ _ h => h)
  refine ⟨fun t h8 => t = false ∧ Grow h7 h8, ⟨fun e => (by cases e), fun _ => ?_⟩, ?_⟩
  · refine cal_of (pairs_spec Rn (by omega)) ?_
    rintro _ h9 ⟨u, rfl, ou, g9⟩
    refine ⟨u, rfl, ?_⟩
    refine cal_of (pairs_spec (R'.frame (T := fun _ => False) g9 (fun _ _ h => h)) (by omega)) ?_
    rintro _ h10 ⟨u', rfl, ou', g10⟩
    refine ⟨u', rfl, ?_⟩
    refine cal_of (same_spec ((own_pairs ou).frame g10 (fun _ _ h => h)) (own_pairs ou') (by omega)) ?_
    rintro _ _ ⟨rfl, rfl⟩
    refine ⟨_, rfl, ?_, g9.trans g10⟩
    rw [hal]
    simp
  rintro t h8 ⟨rfl, g8⟩
  refine ⟨fun e => (by cases e), fun _ => ?_⟩
  have R8 := Rn.frame (T := fun _ => False) g8 (fun _ _ h => h)
  have g38 : Grow h3 h8 := g7.trans g8
  refine cal_of (pairs_spec R8 (by omega)) ?_
  rintro _ h12 ⟨u, rfl, ou, g12⟩
  refine ⟨u, rfl, ?_⟩
  have R12 := R8.frame (T := fun _ => False) g12 (fun _ _ h => h)
  have P12 := own_pairs ou
  have hul : u.n ≤ 1000 := by rw [P12.len]; exact hap
  refine ⟨fun h16 => RelOk br bo c rb n (mOf n ps) h16 ∧ PairsAt h16 u (allP (mOf n ps) n (n + 1)) ∧ Grow h h16, ?_, ?_⟩
  · have gh : Grow h h12 := f13.trans (g38.trans g12)
    refine ifb_dec (fun hpos => ?_) (fun _ => ⟨R12, P12, gh⟩)
    have hr := rem_at u.n (by omega) (by omega) x0
    refine ⟨hr.1, ?_⟩
    obtain ⟨i, ei⟩ := Int.eq_ofNat_of_zero_le hr.2.1
    have hil := hr.2.2
    rw [ei] at hil ⊢
    have hi' : i < (allP (mOf n ps) n (n + 1)).length := by rw [← P12.len]; omega
    obtain ⟨p, ep, c1, c2⟩ := P12.at_ i hi'
    refine ixS_i ep (by omega) hil ?_
    refine ⟨_, _, by simpa only [Int.toNat_natCast] using c1, by simpa only [Int.toNat_natCast] using c2, ?_⟩
    rintro p16 h13 rfl rfl
    obtain ⟨a, b, eab, ha, hb, hm⟩ := allP_mem (n + 1) (by omega) _ (List.getElem_mem hi')
    rw [eab]
    dsimp only
    have k13 := blk.new h12 #[.int .i64 0, .int .i64 0] 33
    have e13 : Grow h12 (h12.push (.cells #[.int .i64 0, .int .i64 0] 33)) := Fr.push _ _ _
    generalize h12.push (.cells #[.int .i64 0, .int .i64 0] 33) = h13 at *
    refine ⟨by simp [Value.oneCell'], fun j hj => ?_, ?_⟩
    · rw [add_plain, k13.cl, k13.fz]
      simp at hj
      match j, hj with
      | 0, _ => simp
      | 1, _ => simp
    rintro h14 rfl
    obtain ⟨k14, f14⟩ := scs_blk h12.size [.int .i64 (a : Int), .int .i64 (b : Int)] h13 _ 0 0 k13
    generalize scs h13 ⟨h12.size, 0, none⟩ [.int .i64 (a : Int), .int .i64 (b : Int)] 0 = h14 at *
    refine ldI_i (x := a) (by rw [k14.cl]; rfl) (ldI_i (x := b) (by rw [add_plain, k14.cl]; rfl) ?_)
    have notB : ∀ z, RelB br bo rb n z → z ≠ h12.size := fun z hz e => by have := R12.lt hz; omega
    have R14 := (R12.frame (T := fun _ => False) e13 (fun _ _ h => h)).frame f14 notB
    have un : ∀ z, u.own z → z < h12.size := fun z hz => (ou.ge hz).2
    have P14 := (P12.frame (T := fun _ => False) e13 (fun _ _ h => h)).frame f14 (fun z hz e => by have := un z hz; omega)
    refine cal_of (add_spec R14 (Clo.mOf n ps) a b ha hb (by omega)) ?_
    rintro _ h15 ⟨rfl, R15, f15⟩
    refine ⟨_, rfl, ⟨fun e => (by simp at e), fun _ => ⟨R15.congr fun i' j' hi hj => ?_, P14.frame f15 (fun z hz hR => ?_), ?_⟩⟩⟩
    · have C := Clo.mOf n ps
      simp only [addM]
      cases e : mOf n ps i' j' with
      | true => simp
      | false =>
        simp only [Bool.false_or]
        cases e1 : mOf n ps i' a with
        | false => rfl
        | true => cases e2 : mOf n ps b j' with
          | false => rfl
          | true =>
            have := C.trans i' a j' hi ha hj e1 (C.trans a b j' ha hb hj hm e2)
            rw [this] at e; cases e
    · have := (ou.ge hz).1
      have := R8.lt hR
      omega
    · have hsz := gh.size
      have q := (gh.trans e13).trans' f14 (fun i hi e => by omega)
      refine q.trans' f15 fun i hi hR => ?_
      have := hB i hR
      have := f1.size
      omega
  rintro h16 ⟨R16, P16, g16⟩
  refine cal_of (pairs_spec R16 (by omega)) ?_
  rintro _ h17 ⟨w, rfl, ow, g17⟩
  refine ⟨w, rfl, ?_⟩
  refine cal_of (same_spec (own_pairs ow) (P16.grow g17) (by omega)) ?_
  rintro _ _ ⟨rfl, rfl⟩
  exact ⟨_, rfl, by simp, g16.trans g17⟩
end Go.Proofs.Ythpfblimfaefhaa

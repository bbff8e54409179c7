/-
  The document's Has, walked.
-/
import Derived.Test.YthpfblimfaefhaaS6
namespace Go.Proofs.Ythpfblimfaefhaa
open Go Go.Lf

theorem flat_get : ∀ (ps : List (Int × Int)) (i : Nat) (hi : i < ps.length), (flat ps)[i * 2]? = some (.int .i64 ps[i].1) ∧ (flat ps)[i * 2 + 1]? = some (.int .i64 ps[i].2)
  | p :: ps, 0, _ => by simp [flat]
  | p :: ps, i + 1, hi => by
    have := flat_get ps i (by simpa using hi)
    simp only [flat, List.flatMap_cons] at this ⊢
    rw [show (i + 1) * 2 = i * 2 + 2 by omega]
    simpa using this

section
variable {bw B n : Nat} {s : Sv} {qs : List (Int × Int)} {h : Heap}
theorem RefOk.frame {T : Nat → Prop} {h' : Heap} (x : RefOk bw B s n qs h) (f : Fr T h h') (h1 : ¬ T bw) (h2 : ∀ b, s.own b → ¬ T b) : RefOk bw B s n qs h' :=
  ⟨f.blk x.st h1, x.own.frame f h2, x.no⟩
theorem RefOk.len (x : RefOk bw B s n qs h) : s.n = qs.length := by have := x.own.len; rw [flat_len] at this; omega
theorem RefOk.cn (x : RefOk bw B s n qs h) : cl h ⟨bw, 0, none⟩ = some (.int .i64 n) := by rw [x.st.cl]; rfl
theorem RefOk.cs (x : RefOk bw B s n qs h) : cl h ⟨bw, 1, none⟩ = some (.slice s.a s.n s.c) := by rw [x.st.cl]; rfl
theorem RefOk.pair (x : RefOk bw B s n qs h) (i : Nat) (hi : i < qs.length) : ∃ g, s.a = some ⟨g, 0, none⟩ ∧ cl h ⟨g, i * 2, none⟩ = some (.int .i64 qs[i].1) ∧ cl h ⟨g, i * 2 + 1, none⟩ = some (.int .i64 qs[i].2) := by
  have hl := x.len
  rcases x.own.mem with ⟨_, e, _⟩ | ⟨g, cur, e, _⟩
  · omega
  · have hr := x.own.row
    rw [e] at hr
    have hf := flat_get qs i hi
    have r1 := hr _ _ hf.1
    have r2 := hr _ _ hf.2
    simp only [add_plain, Nat.zero_add] at r1 r2
    exact ⟨g, e, r1, r2⟩
theorem RefOk.lt (x : RefOk bw B s n qs h) : bw < h.size ∧ ∀ b, s.own b → b < h.size := ⟨x.st.lt, fun _ hb => (x.own.ge hb).2⟩

/-- the set, in memory -/
def SetAt (h : Heap) (g n : Nat) (C : Nat → Bool) : Prop := ∃ cs : Array Value, blk h g cs ∧ ∀ k, k ≤ n → cs[k]? = some (.int .i64 (if C k then 1 else 0))
theorem SetAt.get {g n : Nat} {C : Nat → Bool} (x : SetAt h g n C) (k : Nat) (hk : k ≤ n) : cl h ⟨g, k, none⟩ = some (.int .i64 (if C k then 1 else 0)) := by
  obtain ⟨cs, kb, e⟩ := x; rw [kb.cl, e k hk]
theorem SetAt.put {g n : Nat} {C : Nat → Bool} (x : SetAt h g n C) (k : Nat) (hk : k ≤ n) {K : Heap → Prop} (hK : ∀ h', SetAt h' g n (fun j => decide (j = k) || C j) → Fr (fun b => b = g) h h' → K h') : sto h ⟨g, k, none⟩ (.int .i64 1) K := by
  obtain ⟨cs, kb, e⟩ := x
  have hlt := (Array.getElem?_eq_some_iff.1 (e k hk)).1
  refine sto_i kb hlt (hK _ ⟨_, kb.sc k _, fun j hj => ?_⟩ (Fr.scb _ _ _ _))
  rw [Array.getElem?_setIfInBounds]
  by_cases q : k = j
  · subst q; simp [hlt]
  · have q' : ¬ j = k := fun h => q h.symm
    simp [q, q', e j hj]

theorem refHas_spec (x : RefOk bw B s n qs h) (hq : ∀ p ∈ qs, (inR n p.1 && inR n p.2) = true) (hn : n ≤ 300) (hl : qs.length ≤ 1000) (a b : Int) :
    CallsH Try.prog 12 #[.pointer (some ⟨bw, 0, none⟩), .int .i64 a, .int .i64 b] h (fun v h' => ∃ r : Bool, v = .bool r ∧ Grow h h' ∧
      ((inR n a && inR n b) = false → r = false) ∧ ((inR n a && inR n b) = true → (r = true ∧ ∃ k, iterC (natP qs) a.toNat k 0 = true) ∨ (iterC (natP qs) a.toNat (n + 1) 0 = false ∧ r = iterC (natP qs) a.toNat (n + 1) b.toNat))) := by
  apply F12
  unfold L12
  refine ⟨fun b' => b' = (decide (a < 0) || decide (b < 0) || decide ((n : Int) < a)), ⟨fun e => ?_, fun e => ?_⟩, ?_⟩
  · simp only [e, Bool.true_or]
  · refine nn_i (ldI_i x.cn ?_)
    simp only [e, Bool.false_or]
  rintro _ rfl
  refine ⟨fun b' => b' = !(inR n a && inR n b), ⟨fun e => ?_, fun e => ?_⟩, ?_⟩
  · have : (inR n a && inR n b) = false := by simp [inR] at e ⊢; omega
    rw [this]; rfl
  · refine nn_i (ldI_i x.cn ?_)
    dsimp only
    rw [Bool.eq_iff_iff]
    simp [inR] at e ⊢
    omega
  rintro _ rfl
  refine ⟨fun e => ?_, fun e => ?_⟩
  · have e' : (inR n a && inR n b) = false := by cases hh : (inR n a && inR n b) <;> simp_all
    exact ⟨false, rfl, Fr.refl _ _, fun _ => rfl, fun h => (by rw [e'] at h; cases h)⟩
  have e' : (inR n a && inR n b) = true := by simpa using e
  have hr : inR n a = true ∧ inR n b = true := by simpa using e'
  obtain ⟨a, rfl⟩ := Int.eq_ofNat_of_zero_le (show 0 ≤ a by simp [inR] at hr; omega)
  obtain ⟨b, rfl⟩ := Int.eq_ofNat_of_zero_le (show 0 ≤ b by simp [inR] at hr; omega)
  have ha : a ≤ n := by simp [inR] at hr; omega
  have hb : b ≤ n := by simp [inR] at hr; omega
  refine nn_i (ldI_i x.cn ?_)
  have hw : IntKind.i64.wrap ((n : Int) + 1) = ((n + 1 : Nat) : Int) := by rw [wrap64_id (by omega) (by omega)]; omega
  rw [hw]
  refine ⟨by omega, by omega, by omega, by omega, ?_⟩
  rintro s37 h1 rfl rfl
  simp only [Int.toNat_natCast, Nat.mul_one]
  have fp := Fr.push (fun _ => False) h (.cells (madeCells (Value.int .i64 0).cells (n + 1)) 3)
  have kb := blk.new h (madeCells (Value.int .i64 0).cells (n + 1)) 3
  have S0 : SetAt (h.push (.cells (madeCells (Value.int .i64 0).cells (n + 1)) 3)) h.size n (fun _ => false) :=
    ⟨_, kb, fun k hk => by rw [made_get _ rfl]; simp [show k < n + 1 by omega]⟩
  refine ixS_i rfl (by omega) (by show (a : Int) < ((n + 1 : Nat) : Int); omega) ?_
  simp only [add_plain, Nat.zero_add]
  refine S0.put a ha fun h2 S2 f2 => ?_
  have noT : ∀ b, b < h.size → ¬ (b = h.size) := fun b hb e => by omega
  have g2 : Grow h h2 := fp.trans' f2 fun i hi e => by omega
  have X : ∀ {h' : Heap}, Grow h h' → RefOk bw B s n qs h' := fun f => x.frame f (fun h => h) (fun _ _ h => h)
  have hlen := x.len
  refine ⟨fun y h3 => ∃ r : Nat, y = r ∧ r ≤ n + 1 ∧ SetAt h3 h.size n (iterC (natP qs) a r) ∧ Grow h h3 ∧ (r = 0 ∨ iterC (natP qs) a r 0 = false), fun y _ => (n + 1 - y).toNat, ⟨0, rfl, by omega, ?_, g2, .inl rfl⟩, ?_⟩
  · obtain ⟨cs, k1, k2⟩ := S2
    exact ⟨cs, k1, fun k hk => by rw [k2 k hk]; simp [iterC]⟩
  rintro y h3 ⟨r, rfl, hr1, S3, g3, hr0⟩
  refine nn_i (ldI_i (X g3).cn ?_)
  refine ifb_dec (fun hle => ?_) (fun hgt => ?_)
  · have hrn : r ≤ n := by omega
    have hwr : IntKind.i64.wrap ((r : Int) + 1) = ((r + 1 : Nat) : Int) := by rw [wrap64_id (by omega) (by omega)]; omega
    refine ⟨fun z h4 => ∃ i : Nat, z = i ∧ i ≤ qs.length ∧ SetAt h4 h.size n (((natP qs).take i).foldl stepC (iterC (natP qs) a r)) ∧ Grow h h4, fun z _ => (qs.length - z).toNat, ⟨0, rfl, by omega, S3, g3⟩, ?_⟩
    rintro z h4 ⟨i, rfl, hi, S4, g4⟩
    refine nn_i ?_
    simp only [add_plain, Nat.zero_add]
    refine ldS_i (s := s) (X g4).cs ?_
    refine ifb_dec (fun hlt => ?_) (fun hge => ?_)
    · have hil : i < qs.length := by rw [hlen] at hlt; omega
      have hwi : IntKind.i64.wrap ((i : Int) + 1) = ((i + 1 : Nat) : Int) := by rw [wrap64_id (by omega) (by omega)]; omega
      have hp := hq qs[i] (List.getElem_mem hil)
      obtain ⟨g, eg, c1, c2⟩ := (X g4).pair i hil
      have htk : (natP qs).take (i + 1) = (natP qs).take i ++ [(qs[i].1.toNat, qs[i].2.toNat)] := by
        rw [List.take_succ_eq_append_getElem (by simpa [natP] using hil)]
        simp [natP]
      generalize qs[i] = pr at *
      obtain ⟨u, v⟩ := pr
      dsimp only at hp c1 c2 htk
      have hp' : inR n u = true ∧ inR n v = true := by simpa using hp
      obtain ⟨u, rfl⟩ := Int.eq_ofNat_of_zero_le (show 0 ≤ u by simp [inR] at hp'; omega)
      obtain ⟨v, rfl⟩ := Int.eq_ofNat_of_zero_le (show 0 ≤ v by simp [inR] at hp'; omega)
      have hu : u ≤ n := by simp [inR] at hp'; omega
      have hv : v ≤ n := by simp [inR] at hp'; omega
      simp only [Int.toNat_natCast] at htk
      refine ⟨fun h6 => SetAt h6 h.size n (((natP qs).take (i + 1)).foldl stepC (iterC (natP qs) a r)) ∧ Grow h h6, ?_, fun h6 ⟨q1, q2⟩ => ⟨⟨i + 1, hwi, by omega, q1, q2⟩, by rw [hwi]; (try dsimp only); omega⟩⟩
      have hstep : ((natP qs).take (i + 1)).foldl stepC (iterC (natP qs) a r) = stepC (((natP qs).take i).foldl stepC (iterC (natP qs) a r)) (u, v) := by rw [htk, List.foldl_append]; rfl
      rw [hstep]
      generalize ((natP qs).take i).foldl stepC (iterC (natP qs) a r) = C at *
      refine nn_i (ldS_i (s := s) (X g4).cs (ixS_i eg (by omega) (by rw [hlen]; omega) ?_))
      simp only [add_plain, Nat.zero_add, Int.toNat_natCast]
      refine ldI_i c1 (ixS_i rfl (by omega) (by show (u : Int) < ((n + 1 : Nat) : Int); omega) ?_)
      simp only [add_plain, Nat.zero_add]
      refine ldI_i (S4.get u hu) ?_
      refine ifb_dec (fun hpos => ?_) (fun hz => ?_)
      · have hC : C u = true := by cases hc : C u with | true => rfl | false => rw [hc] at hpos; simp at hpos
        refine nn_i (ldS_i (s := s) (X g4).cs (ixS_i eg (by omega) (by rw [hlen]; omega) ?_))
        simp only [add_plain, Nat.zero_add]
        refine ldI_i c2 (ixS_i rfl (by omega) (by show (v : Int) < ((n + 1 : Nat) : Int); omega) ?_)
        simp only [add_plain, Nat.zero_add, Int.toNat_natCast]
        refine S4.put v hv fun h5 S5 f5 => ⟨?_, g4.trans' f5 fun i hi e => by omega⟩
        simp only [stepC, hC, if_true]
        exact S5
      · have hC : C u = false := by cases hc : C u with | false => rfl | true => rw [hc] at hz; simp at hz
        refine ⟨?_, g4⟩
        simp only [stepC, hC]
        exact S4
    · have hie : i = qs.length := by rw [hlen] at hge; omega
      subst hie
      have hfull : (natP qs).take qs.length = natP qs := by rw [List.take_of_length_le (by simp [natP])]
      rw [hfull] at S4
      refine ixS_i rfl (by omega) (by show (0 : Int) < ((n + 1 : Nat) : Int); omega) ?_
      refine ldI_i (S4.get 0 (by omega)) ?_
      refine ifb_dec (fun hpos => ?_) (fun hz => ?_)
      · refine ⟨true, rfl, g4, fun h => (by rw [e'] at h; cases h), fun _ => .inl ⟨rfl, r + 1, ?_⟩⟩
        show roundC (natP qs) (iterC (natP qs) a r) 0 = true
        cases hc : roundC (natP qs) (iterC (natP qs) a r) 0 with
        | true => rfl
        | false => unfold roundC at hc; rw [hc] at hpos; simp at hpos
      · refine ⟨⟨r + 1, hwr, by omega, S4, g4, .inr ?_⟩, by rw [hwr]; (try dsimp only); omega⟩
        show roundC (natP qs) (iterC (natP qs) a r) 0 = false
        cases hc : roundC (natP qs) (iterC (natP qs) a r) 0 with
        | false => rfl
        | true => unfold roundC at hc; rw [hc] at hz; simp at hz
  · have hre : r = n + 1 := by omega
    subst hre
    refine ixS_i rfl (by omega) (by show (b : Int) < ((n + 1 : Nat) : Int); omega) ?_
    simp only [add_plain, Nat.zero_add]
    refine ldI_i (S3.get b hb) ⟨_, rfl, g3, fun h => (by rw [e'] at h; cases h), fun _ => .inr ⟨hr0.resolve_left (by omega), ?_⟩⟩
    cases iterC (natP qs) a (n + 1) b <;> simp

/-- what the document answers is what the program knows -/
theorem refHas_is {ps : List (Int × Int)} (x : RefOk bw B s n (okP n ps) h) (hn : n ≤ 300) (hl : ps.length ≤ 1000) (a b : Int) :
    CallsH Try.prog 12 #[.pointer (some ⟨bw, 0, none⟩), .int .i64 a, .int .i64 b] h (fun v h' => v = .bool (hasM n (mOf n ps) a b) ∧ Grow h h') := by
  refine (refHas_spec x (fun p hp => (List.mem_filter.1 hp).2) hn (Nat.le_trans (List.length_filter_le _ _) hl) a b).mono ?_
  rintro v h' ⟨r, rfl, g, h1, h2⟩
  refine ⟨?_, g⟩
  congr 1
  cases e : inR n a && inR n b with
  | false => rw [h1 e]; simp [hasM, e]
  | true =>
    have hr : inR n a = true ∧ inR n b = true := by simpa using e
    have law := ref_law (ps := ps) (n := n) (a := a.toNat) (b := b.toNat) (by simp [inR] at hr; omega) (by simp [inR] at hr; omega)
    simp only [hasM, e, Bool.true_and]
    rcases h2 e with ⟨rfl, k, hk⟩ | ⟨h0, rfl⟩
    · exact (law.1 k hk).symm
    · exact law.2 h0
end
end Go.Proofs.Ythpfblimfaefhaa

/-
  both: a relation with pairs, by the program and by the document.
-/
import Derived.Test.YthpfblimfaefhaaS3
namespace Go.Proofs.Ythpfblimfaefhaa
open Go Go.Lf

/-- a slice that reads as pairs of ints -/
structure PairsAt (h : Heap) (s : Sv) (ps : List (Int × Int)) : Prop where
  len : s.n = ps.length
  at_ : ∀ i (hi : i < ps.length), ∃ p, s.a = some p ∧ cl h (p.add (i * 2)) = some (.int .i64 ps[i].1) ∧ cl h ((p.add (i * 2)).add 1) = some (.int .i64 ps[i].2)
theorem add_block (p : Addr) (k : Nat) : (p.add k).block = p.block := by unfold Addr.add; split <;> rfl
theorem PairsAt.frame {h h' : Heap} {s : Sv} {ps : List (Int × Int)} {T : Nat → Prop} (x : PairsAt h s ps) (f : Fr T h h') (hT : ∀ b, s.own b → ¬ T b) : PairsAt h' s ps := by
  refine ⟨x.len, fun i hi => ?_⟩
  obtain ⟨p, e, c1, c2⟩ := x.at_ i hi
  exact ⟨p, e, f.clk c1 (by rw [add_block]; exact hT _ ⟨p, e, rfl⟩), f.clk c2 (by rw [add_block, add_block]; exact hT _ ⟨p, e, rfl⟩)⟩
theorem PairsAt.grow {h h' : Heap} {s : Sv} {ps : List (Int × Int)} (x : PairsAt h s ps) (f : Grow h h') : PairsAt h' s ps := x.frame f fun _ _ h => h

def stepP (n : Nat) (m : Nat → Nat → Bool) (p : Int × Int) : Nat → Nat → Bool := if inR n p.1 && inR n p.2 then addM m p.1.toNat p.2.toNat else m
def mOf (n : Nat) (ps : List (Int × Int)) : Nat → Nat → Bool := ps.foldl (stepP n) m0
def okP (n : Nat) (ps : List (Int × Int)) : List (Int × Int) := ps.filter fun p => inR n p.1 && inR n p.2
def flat (ps : List (Int × Int)) : List Value := ps.flatMap fun p => [.int .i64 p.1, .int .i64 p.2]
theorem flat_len (ps : List (Int × Int)) : (flat ps).length = ps.length * 2 := by
  induction ps with
  | nil => rfl
  | cons p ps ih => simp [flat] at ih ⊢; omega

theorem Clo.step {n : Nat} {m : Nat → Nat → Bool} (C : Clo n m) (p : Int × Int) : Clo n (stepP n m p) := by
  unfold stepP
  split
  · rename_i e
    simp [inR] at e
    exact C.add (by omega) (by omega)
  · exact C
theorem Clo.fold {n : Nat} : ∀ (ps : List (Int × Int)) {m : Nat → Nat → Bool}, Clo n m → Clo n (ps.foldl (stepP n) m)
  | [], _, C => C
  | p :: ps, _, C => Clo.fold ps (C.step p)
theorem Clo.mOf (n : Nat) (ps : List (Int × Int)) : Clo n (mOf n ps) := Clo.fold ps (Clo.m0 n)

/-- the document's relation: struct `bw`, its pairs -/
structure RefOk (bw B : Nat) (s : Sv) (n : Nat) (ps : List (Int × Int)) (h : Heap) : Prop where
  st : blk h bw #[.int .i64 n, .slice s.a s.n s.c]
  own : Own h B 2 s (flat ps)
  no : ¬ s.own bw

theorem both_spec {n : Nat} {pv : Sv} {ps : List (Int × Int)} {h : Heap} (hn : n ≤ 300) (x : PairsAt h pv ps) (hl : ps.length ≤ 1000) :
    CallsH Try.prog 10 #[.int .i64 n, .slice pv.a pv.n pv.c] h (fun v h' => ∃ br bo c rb bw s, v = .tuple #[.pointer (some ⟨br, 0, none⟩), .pointer (some ⟨bw, 0, none⟩), .bool true] ∧
      RelOk br bo c rb n (mOf n ps) h' ∧ RefOk bw h.size s n (okP n ps) h' ∧ Grow h h' ∧ (∀ b, RelB br bo rb n b → h.size ≤ b) ∧ h.size ≤ bw ∧ ¬ RelB br bo rb n bw ∧ ∀ b, s.own b → ¬ RelB br bo rb n b) := by
  apply F10
  unfold L10
  refine cal_of (new_spec n h hn) ?_
  rintro _ h1 ⟨br, bo, c, rb, rfl, x1, f1, hB⟩
  refine ⟨_, rfl, _, rfl, _, rfl, _, rfl, _, rfl, ?_⟩
  refine ⟨fun e => (by simp at e), fun _ => ?_⟩
  rintro p h2 rfl rfl
  have f12 : Grow h1 (h1.push (.cells #[.int .i64 n, .slice none 0 0] 49)) := Fr.push _ _ _
  have hbw : ∀ b, RelB br bo rb n b → b < h1.size := fun b hb => x1.lt hb
  have hle : h.size ≤ h1.size := f1.size
  refine ⟨fun y h3 => ∃ k : Nat, y = k ∧ k ≤ ps.length ∧ RelOk br bo c rb n (mOf n (ps.take k)) h3 ∧ ∃ s, RefOk h1.size (h1.size + 1) s n (okP n (ps.take k)) h3 ∧ Grow h h3, fun y _ => (ps.length - y).toNat, ?_, ?_⟩
  · exact ⟨0, rfl, by omega, x1.frame f12 (fun _ _ h => h), ⟨none, 0, 0⟩, ⟨blk.new _ _ _, Own.nil _ _ _, fun ⟨a, e, _⟩ => (by cases e)⟩, f1.trans f12⟩
  rintro y h3 ⟨k, rfl, hk, x3, s, r3, f3⟩
  refine ifb_dec (fun hlt => ?_) (fun hge => ?_)
  · have hkl : k < ps.length := by rw [x.len] at hlt; omega
    have hwk : IntKind.i64.wrap ((k : Int) + 1) = ((k + 1 : Nat) : Int) := by rw [wrap64_id (by omega) (by omega)]; omega
    have tk : ps.take (k + 1) = ps.take k ++ [ps[k]] := by rw [List.take_succ_eq_append_getElem hkl]
    have tm : mOf n (ps.take (k + 1)) = stepP n (mOf n (ps.take k)) ps[k] := by rw [tk]; unfold mOf; rw [List.foldl_append]; rfl
    have to : okP n (ps.take (k + 1)) = okP n (ps.take k) ++ (if inR n ps[k].1 && inR n ps[k].2 then [ps[k]] else []) := by
      rw [tk]; simp only [okP, List.filter_append]; congr 1; simp only [List.filter_cons, List.filter_nil]
    refine ⟨fun h8 => RelOk br bo c rb n (mOf n (ps.take (k + 1))) h8 ∧ ∃ s, RefOk h1.size (h1.size + 1) s n (okP n (ps.take (k + 1))) h8 ∧ Grow h h8, ?_,
      fun h8 ⟨a1, s, a2, a3⟩ => ⟨⟨k + 1, hwk, by omega, a1, s, a2, a3⟩, by rw [hwk]; dsimp only; omega⟩⟩
    have x' := x.grow f3
    obtain ⟨q, eq, c1, c2⟩ := x'.at_ k hkl
    refine ixS_i eq (by omega) hlt ?_
    simp only [Int.toNat_natCast]
    refine ldI_i c1 (ixS_i eq (by omega) hlt ?_)
    refine ldI_i c2 ?_
    generalize hp : ps[k] = pr at *
    obtain ⟨a, b⟩ := pr
    dsimp only at c1 c2 to tm ⊢
    have cond : ((((decide (0 ≤ a)) && (decide (0 ≤ b))) && (decide (a ≤ (n : Int)))) && (decide (b ≤ (n : Int)))) = (inR n a && inR n b) := by
      rw [Bool.eq_iff_iff]; simp [inR]; omega
    cases hab : inR n a && inR n b with
    | false =>
      refine cal_of (add_bad x3 a b hab) ?_
      rintro _ _ ⟨rfl, rfl⟩
      refine ⟨_, rfl, ?_⟩
      rw [cond, hab]
      refine ⟨fun e => (by simp at e), fun _ => ⟨fun e => (by cases e), fun _ => ?_⟩⟩
      rw [tm, to]
      simp only [stepP, hab]
      simp only [Bool.false_eq_true, if_false, List.append_nil]
      exact ⟨x3, s, r3, f3⟩
    | true =>
      have hr : inR n a = true ∧ inR n b = true := by simpa using hab
      obtain ⟨i, rfl⟩ := Int.eq_ofNat_of_zero_le (show 0 ≤ a by simp [inR] at hr; omega)
      obtain ⟨j, rfl⟩ := Int.eq_ofNat_of_zero_le (show 0 ≤ b by simp [inR] at hr; omega)
      have hi : i ≤ n := by simp [inR] at hr; omega
      have hj : j ≤ n := by simp [inR] at hr; omega
      refine cal_of (add_spec x3 (Clo.mOf n _) i j hi hj hn) ?_
      rintro _ h4 ⟨rfl, x4, f4⟩
      refine ⟨_, rfl, ?_⟩
      rw [cond, hab]
      refine ⟨fun e => (by simp at e), fun _ => ⟨fun _ => ?_, fun e => (by cases e)⟩⟩
      have noT : ∀ b, h1.size ≤ b → ¬ RelB br bo rb n b := fun b hb hr => by have := hbw b hr; omega
      have st4 := f4.blk r3.st (noT _ (by omega))
      have o4 := r3.own.frame f4 (fun b hb => noT _ (by have := (r3.own.ge hb).1; omega))
      have f34 : Grow h h4 := f3.trans' f4 fun i hi hb => by have := hB i hb; omega
      refine ldS_i (s := s) (by rw [add_plain, st4.cl]; rfl) ?_
      have x'' := x.grow f34
      obtain ⟨q', eq', d1, d2⟩ := x''.at_ k hkl
      rw [hp] at d1 d2
      refine ixS_i eq' (by omega) hlt ?_
      refine ⟨_, _, d1, d2, ?_⟩
      have hlen : s.n ≤ 1000 := by
        have e1 := o4.len
        rw [flat_len] at e1
        have e2 : (okP n (ps.take k)).length ≤ k := Nat.le_trans (List.length_filter_le _ _) (List.length_take_le _ _)
        omega
      have h14 : h1.size < h4.size := st4.lt
      refine app1 (B := h1.size + 1) (sz := 2) rfl o4 rfl (by simp [Value.oneCell']) (by omega) (by omega) (by omega) ?_
      intro s' h6 e1 o6 f6 hown
      have no6 : ¬ s.own h1.size := fun ho => by have := (o4.ge ho).1; omega
      have st6 := f6.blk st4 no6
      rw [add_plain]
      refine sto_i st6 (by show 1 < 2; omega) ?_
      have f7 : Fr (fun b => b = h1.size) h6 (sc h6 ⟨h1.size, 0 + 1, none⟩ (.slice s'.a s'.n s'.c)) := Fr.scb _ _ _ _
      have notB : ∀ b, RelB br bo rb n b → ¬ s.own b ∧ b ≠ h1.size := fun b hb => ⟨fun ho => by have := (o4.ge ho).1; have := hbw b hb; omega, fun e => by have := hbw b hb; omega⟩
      refine ⟨?_, s', ⟨st6.sc _ _, ?_, fun ho => ?_⟩, ?_⟩
      · rw [tm]
        simp only [stepP, hab, if_true, Int.toNat_natCast]
        exact (x4.frame f6 fun b hb => (notB b hb).1).frame f7 fun b hb => (notB b hb).2
      · rw [to, hab]
        have := o6.frame f7 (fun b hb e => by have := (o6.ge hb).1; omega)
        simpa [flat] using this
      · rcases hown _ ho with h | h
        · exact no6 h
        · omega
      · exact (f34.trans' f6 fun i hi ho => by have := (o4.ge ho).1; omega).trans' f7 fun i hi e => by omega
  · have hke : k = ps.length := by rw [x.len] at hge; omega
    subst hke
    rw [List.take_length] at x3 r3
    refine ⟨br, bo, c, rb, h1.size, s, rfl, x3, ⟨r3.st, ⟨r3.own.len, ?_⟩, r3.no⟩, f3, hB, hle, fun hb => by have := hbw _ hb; omega, fun b ho hb => by have := (r3.own.ge ho).1; have := hbw b hb; omega⟩
    rcases r3.own.mem with e | ⟨g, cur, e1, e2, e3⟩
    · exact .inl e
    · exact .inr ⟨g, cur, e1, by omega, e3⟩
end Go.Proofs.Ythpfblimfaefhaa

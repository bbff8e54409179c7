/-
  A type with other regions, as they come.
-/
import Derived.Test.YteaidgpiolakcaaTyB
import Derived.Test.YteaidgpiolakcaaLiftN
namespace Go.Proofs.Yteaidgpiolakcaa
open Go Go.Lf
set_option linter.unusedVariables false

theorem addr_add_add (p : Addr) (a b : Nat) (h : p.spot = none) : (p.add a).add b = p.add (a + b) := by
  obtain ⟨k, o, s⟩ := p
  simp only at h
  subst h
  simp only [add_plain, Nat.add_assoc]
theorem cl_spot {h : Heap} {p : Addr} {v : Value} (c : cl h p = some v) : p.spot = none := by
  unfold cl at c
  split at c
  · split at c
    · cases c
    · rename_i hs
      cases hp : p.spot with
      | none => rfl
      | some x => rw [hp] at hs; simp at hs
  · cases c
theorem ints_head {h : Heap} {l : Sv} {xs : List Int} (x : IntsAt h l xs) (m : Nat) (hm : m ≤ xs.length) : IntsAt h ⟨l.a, m, l.c⟩ (xs.take m) := by
  refine ⟨by simp; omega, fun i hi => ?_⟩
  have hi' : i < xs.length := by simp at hi; omega
  obtain ⟨p, e, c⟩ := x.at_ i hi'
  exact ⟨p, e, by rw [List.getElem_take]; exact c⟩
/-- a slice's rest -/
theorem slS_rest {Q : Nat → Prop} {h : Heap} {l : Sv} {xs : List Int} (x : IntsQ Q h l xs) (hc : l.n ≤ l.c) {m : Nat} (hm : m ≤ xs.length) {K : Sv → Prop} (k : ∀ s', IntsQ Q h s' (xs.drop m) → s'.n ≤ s'.c → K s') : slS l 1 (m : Int) ((l.n : Nat) : Int) K := by
  have hl := x.len
  refine ⟨by omega, by omega, by omega, ?_⟩
  rintro ⟨a, n, c⟩ h1 h2 h3
  simp only [Int.toNat_natCast] at h1 h2 h3
  refine k _ ⟨by simp; omega, fun i hi => ?_⟩ (by dsimp only; omega)
  have hi' : m + i < xs.length := by simp at hi; omega
  obtain ⟨p, e, q, cc⟩ := x.at_ (m + i) hi'
  obtain ⟨p0, e0, _, c0⟩ := x.at_ 0 (by omega)
  rw [e] at e0
  simp only [Option.some.injEq] at e0
  subst e0
  rw [Nat.zero_mul, add_zero] at c0
  have hs := cl_spot c0
  rw [if_neg (by omega), e] at h1
  refine ⟨p.add (m * 1), h1, by rw [add_block]; exact q, ?_⟩
  rw [addr_add_add _ _ _ hs, List.getElem_drop, ← Nat.add_mul]
  exact cc

def withA (W : Ty → List Int → Ty) (A : Ty → List Int) : List Ty → List Int → List Ty
  | [], _ => []
  | a :: az, xs => W a xs :: withA W A az (xs.drop (A a).length)
noncomputable def withT : Ty → List Int → Ty :=
  Ty.rec (motive_1 := fun _ => List Int → Ty) (motive_2 := fun _ => List Int → List Ty)
    (fun k nm mu r rs az ih xs => .mk k nm mu (if k = 5 then r else if (ownL (.mk k nm mu r rs az)).length = 1 then xs.getD 0 r else r) (if k = 5 then xs.take (ownL (.mk k nm mu r rs az)).length else rs) (ih (xs.drop (ownL (.mk k nm mu r rs az)).length)))
    (fun _ => []) (fun a _ ih1 ih2 xs => ih1 xs :: ih2 (xs.drop (allT a).length))
theorem withT_rec (az : List Ty) (xs : List Int) : (Ty.rec_1 (motive_1 := fun _ => List Int → Ty) (motive_2 := fun _ => List Int → List Ty)
    (fun k nm mu r rs az ih xs => .mk k nm mu (if k = 5 then r else if (ownL (.mk k nm mu r rs az)).length = 1 then xs.getD 0 r else r) (if k = 5 then xs.take (ownL (.mk k nm mu r rs az)).length else rs) (ih (xs.drop (ownL (.mk k nm mu r rs az)).length)))
    (fun _ => []) (fun a _ ih1 ih2 xs => ih1 xs :: ih2 (xs.drop (allT a).length)) az : List Int → List Ty) xs = withA withT allT az xs := by
  induction az generalizing xs with
  | nil => rfl
  | cons a az ih => rw [withA, ← ih]; rfl
theorem withT_mk (k : Int) (nm : ByteArray) (mu : Bool) (r : Int) (rs : List Int) (az : List Ty) (xs : List Int) : withT (.mk k nm mu r rs az) xs =
    .mk k nm mu (if k = 5 then r else if (ownL (.mk k nm mu r rs az)).length = 1 then xs.getD 0 r else r) (if k = 5 then xs.take (ownL (.mk k nm mu r rs az)).length else rs) (withA withT allT az (xs.drop (ownL (.mk k nm mu r rs az)).length)) := by
  rw [← withT_rec]; rfl
theorem withA_len (W : Ty → List Int → Ty) (A : Ty → List Int) : ∀ (az : List Ty) (xs : List Int), (withA W A az xs).length = az.length
  | [], _ => rfl
  | a :: az, xs => by simp [withA, withA_len W A az]
theorem withA_get (W : Ty → List Int → Ty) (A : Ty → List Int) : ∀ (az : List Ty) (xs : List Int) (i : Nat) (hi : i < az.length) (hi' : i < (withA W A az xs).length), (withA W A az xs)[i] = W az[i] (xs.drop ((az.take i).flatMap A).length)
  | [], _, _, hi, _ => by simp at hi
  | a :: az, xs, 0, _, _ => by simp [withA]
  | a :: az, xs, i + 1, hi, hi' => by
    simp only [withA, List.getElem_cons_succ, List.take_succ_cons, List.flatMap_cons, List.length_append]
    rw [withA_get W A az _ i (by simpa using hi), List.drop_drop]
def c6 (us : List Tv) : List Value := us.flatMap fun u => (tvs u).toList
theorem c6_len (us : List Tv) : (c6 us).length = us.length * 6 := by
  induction us with
  | nil => rfl
  | cons a l ih =>
    have e : c6 (a :: l) = (tvs a).toList ++ c6 l := rfl
    rw [e, List.length_append, ih, List.length_cons]
    simp
    omega
theorem c6_app (l m : List Tv) : c6 (l ++ m) = c6 l ++ c6 m := by simp [c6]
theorem c6_get : ∀ (us : List Tv) (i : Nat) (hi : i < us.length) (q : Nat), q < 6 → (c6 us)[i * 6 + q]? = (tvs us[i])[q]?
  | a :: us, 0, _, q, hq => by
    have e : c6 (a :: us) = (tvs a).toList ++ c6 us := rfl
    rw [e, Nat.zero_mul, Nat.zero_add, List.getElem?_append_left (by simpa [tvs] using hq)]
    simp
  | a :: us, i + 1, hi, q, hq => by
    have e : c6 (a :: us) = (tvs a).toList ++ c6 us := rfl
    have := c6_get us i (by simpa using hi) q hq
    rw [e, List.getElem?_append_right (by simp; omega)]
    have e2 : (i + 1) * 6 + q - (tvs a).toList.length = i * 6 + q := by simp; omega
    rw [e2, this]
    simp
theorem own6 {h : Heap} {B : Nat} {s : Sv} {us : List Tv} (o : Own h B 6 s (c6 us)) {i : Nat} (hi : i < us.length) : ∃ p, s.a = some p ∧ s.own p.block ∧ Tv6 h (p.add (i * 6)) us[i] := by
  have hn := o.len
  rw [c6_len] at hn
  have hr := o.row
  rcases o.mem with ⟨_, e, _⟩ | ⟨g, cur, e, _⟩
  · omega
  rw [e] at hr
  refine ⟨_, e, ⟨_, e, rfl⟩, ?_⟩
  have key : ∀ q v, q < 6 → (tvs us[i])[q]? = some v → cl h ((⟨g, 0, none⟩ : Addr).add (i * 6 + q)) = some v := fun q v hq hv => hr _ _ (by rw [c6_get us i hi q hq]; exact hv)
  unfold Tv6
  simp only [add_plain] at key ⊢
  exact ⟨key 0 _ (by omega) rfl, by rw [Nat.add_assoc]; exact key 1 _ (by omega) rfl, by rw [Nat.add_assoc]; exact key 2 _ (by omega) rfl, by rw [Nat.add_assoc]; exact key 3 _ (by omega) rfl, by rw [Nat.add_assoc]; exact key 4 _ (by omega) rfl, by rw [Nat.add_assoc]; exact key 5 _ (by omega) rfl⟩
theorem one_c6 (v : Tv) : ∀ u ∈ (tvs v).toList, u.oneCell' = true := by
  intro u hu
  simp only [List.mem_cons, List.not_mem_nil, or_false] at hu
  rcases hu with rfl | rfl | rfl | rfl | rfl | rfl <;> rfl
abbrev z6 : Array Value := #[Value.int .i64 0, Value.string (⟨#[]⟩ : ByteArray), Value.bool false, Value.int .i64 0, Value.slice (⟨none, 0, 0⟩ : Sv).a (⟨none, 0, 0⟩ : Sv).n (⟨none, 0, 0⟩ : Sv).c, Value.slice (⟨none, 0, 0⟩ : Sv).a (⟨none, 0, 0⟩ : Sv).n (⟨none, 0, 0⟩ : Sv).c]
theorem newz {K : Addr → Heap → Prop} {h : Heap} (k : ∀ h', blk h' h.size z6 → Grow h h' → h'.size = h.size + 1 → K ⟨h.size, 0, none⟩ h') : new 32 z6 h K := by
  rintro p h' rfl rfl
  exact k _ (blk.new _ _ _) (Fr.push _ _ _) (by simp)
/-- a type stored whole -/
theorem sto6 {h : Heap} {b : Nat} {cs : Array Value} {v : Tv} {K : Heap → Prop} (kk : blk h b cs) (hs : cs.size = 6)
    (k : ∀ h', blk h' b (tvs v) → Fr (fun i => i = b) h h' → K h') : stoA h ⟨b, 0, none⟩ [.int .i64 v.k, .string v.nm, .bool v.mu, .int .i64 v.r, .slice v.rs.a v.rs.n v.rs.c, .slice v.az.a v.az.n v.az.c] K :=
  stoA_i kk (by rw [hs]; rfl) (one_c6 v) k
def partsN : Ty → Nat
  | .mk _ _ _ _ _ az => az.length
section
variable {h : Heap}
theorem with_spec : ∀ (t : Ty) (n : Nat) (_ : n ≤ 8) (_ : small n t = true) (Q Ql : Nat → Prop) (v : Tv) (h : Heap) (l : Sv) (xs : List Int), (∀ b, Q b → b < h.size) → (∀ b, Ql b → b < h.size) → TyAt Q h t v → IntsQ Ql h l xs → l.n ≤ l.c → (allT t).length ≤ xs.length →
    CallsH Try.prog 7 #[.agg (tvs v), .slice l.a l.n l.c] h (fun x h' => Grow h h' ∧ ∃ v' l', x = .tuple #[.agg (tvs v'), .slice l'.a l'.n l'.c] ∧ TyAt (fun b => Q b ∨ h.size ≤ b) h' (withT t xs) v' ∧ IntsQ Ql h' l' (xs.drop (allT t).length) ∧ l'.n ≤ l'.c ∧ (partsN t = 0 → v'.az = ⟨none, 0, 0⟩)) := by
  intro t
  refine Ty.ind (P := fun t => ∀ (n : Nat) (_ : n ≤ 8) (_ : small n t = true) (Q Ql : Nat → Prop) (v : Tv) (h : Heap) (l : Sv) (xs : List Int), (∀ b, Q b → b < h.size) → (∀ b, Ql b → b < h.size) → TyAt Q h t v → IntsQ Ql h l xs → l.n ≤ l.c → (allT t).length ≤ xs.length →
    CallsH Try.prog 7 #[.agg (tvs v), .slice l.a l.n l.c] h (fun x h' => Grow h h' ∧ ∃ v' l', x = .tuple #[.agg (tvs v'), .slice l'.a l'.n l'.c] ∧ TyAt (fun b => Q b ∨ h.size ≤ b) h' (withT t xs) v' ∧ IntsQ Ql h' l' (xs.drop (allT t).length) ∧ l'.n ≤ l'.c ∧ (partsN t = 0 → v'.az = ⟨none, 0, 0⟩))) ?_ t
  intro k nm mu r rs az ih n hn hsm Q Ql v h l xs hQ hQl hv hl hlc hlen
  have hown6 := ownL_len hsm
  obtain ⟨m, rfl, ha4, hr6, hall⟩ := small_mk hsm
  obtain ⟨e1, e2, e3, e4, e5, e6, e7⟩ := tyAt_iff.1 hv
  rw [allT_mk, List.length_append] at hlen
  rw [withT_mk, allT_mk, List.length_append]
  generalize ho : (ownL (.mk k nm mu r rs az)).length = o at hlen hown6
  apply F7
  unfold L7
  refine new6 (v := v) fun h1 b1 f1 z1 => newz fun h2 b2 f2 z2 => ?_
  have T2 := Tv6.blk (f2.blk b1 fun h => h)
  refine ⟨_, T2.1, _, T2.2.1, _, T2.2.2.1, _, T2.2.2.2.1, _, T2.2.2.2.2.1, ?_⟩
  refine newz fun h3 b3 f3 z3 => ?_
  refine sto6 (v := ⟨v.k, v.nm, v.mu, v.r, v.rs, ⟨none, 0, 0⟩⟩) b3 rfl fun h4 b4 f4 => ?_
  have g3 : Grow h h3 := f1.trans (f2.trans f3)
  have g4 : Grow h h4 := g3.trans' f4 fun i hi e => by have := f1.size; have := f2.size; omega
  have p24 : Grow h2 h4 := f3.trans' f4 fun i hi e => by omega
  have B1 : blk h4 h.size (tvs v) := p24.blk (f2.blk b1 fun h => h) (fun h => h)
  have B2 : blk h4 h1.size z6 := p24.blk b2 (fun h => h)
  refine rd6 (Tv6.blk B1) ?_
  refine cal_of (own_spec (hv.grow g4)) ?_
  rintro _ h5 ⟨f5, s5, rfl, i5⟩
  refine ⟨s5, rfl, ?_⟩
  have g5 := g4.trans f5
  have hs5 : s5.n = o := by rw [i5.len]; exact ho
  dsimp only
  rw [hs5, hl.len]
  refine ifb_iff (q := xs.length < o) (by simp) (fun hlt => by omega) (fun _ => ?_)
  have C1 := f5.blk B1 (fun h => h)
  have C2 := f5.blk B2 (fun h => h)
  have C6 := f5.blk b4 (fun h => h)
  have s01 := f1.size
  have s35 := f5.size
  have hz5 : h3.size ≤ h5.size := by have := f4.size; omega
  have hxl : l.n = xs.length := hl.len
  -- the own regions
  refine ⟨fun h11 => ∃ rs', blk h11 h2.size (tvs ⟨k, nm, mu, (if k = 5 then r else if o = 1 then xs.getD 0 r else r), rs', ⟨none, 0, 0⟩⟩) ∧ Fr (fun b => b = h2.size) h5 h11 ∧
      IntsC (fun b => Q b ∨ (h.size ≤ b ∧ b ≠ h2.size ∧ b ≠ h1.size)) h11 rs' (if k = 5 then xs.take o else rs), ?_, ?_⟩
  · refine ⟨_, (Tv6.blk C1).1, ?_⟩
    rw [e1]
    refine ifb_iff (q := k = 5) (by simp) (fun h5' => ?_) (fun h5' => ?_)
    · rintro s33 h7 rfl rfl
      refine slS_head (by omega) ?_
      have i7 := (ints_head (hl.ints.keep g5 (fun _ _ h => h)) o (by omega)).keep (Fr.push (fun _ => False) h5 (.cells #[] 3)) (fun _ _ h => h)
      refine appS_own rfl (own_empty h5 h5.size 3 (Nat.le_refl _)) (news := ints (xs.take o)) (by simp [ints]; omega) (ints_row i7) (one_ints _) (by simp) (by dsimp only; omega) (by dsimp only; omega) ?_
      intro s8 h8 hn8 o8 f8 own8
      have g8 : Grow h5 h8 := (Fr.push (fun _ => False) h5 (.cells #[] 3)).trans' f8 fun i hi e => by
        obtain ⟨a, ea, eb⟩ := e
        simp only [Option.some.injEq] at ea
        subst ea
        simp only at eb
        omega
      have C6' := g8.blk C6 (fun h => h)
      rw [add_plain]
      refine sto_i C6' (by simp) ⟨s8, ?_, ?_, ?_⟩
      · have := C6'.sc 4 (.slice s8.a s8.n s8.c)
        rw [if_pos h5']
        simp only [e1, e2, e3, e4] at this
        exact this
      · exact (g8.mono fun _ _ h => h.elim).trans (Fr.scb h8 h2.size (0 + 4) _)
      · rw [if_pos h5']
        have i8 : IntsAt (sc h8 ⟨h2.size, 0 + 4, none⟩ (.slice s8.a s8.n s8.c)) s8 (xs.take o) := by
          refine own_ints (B := h5.size) ?_
          have := o8.frame (Fr.scb h8 h2.size (0 + 4) (.slice s8.a s8.n s8.c)) fun b hb e => by have := (o8.ge hb).1; omega
          simpa [ints] using this
        refine ⟨IntsQ.of i8 fun b hb _ => .inr ?_, own_cap o8⟩
        have := (o8.ge hb).1
        have := g5.size
        exact ⟨by omega, by omega, by omega⟩
    · refine ifb_iff (q := o = 1) (by simp; omega) (fun h1' => ?_) (fun h1' => ?_)
      · have hx0 : 0 < xs.length := by omega
        refine (hl.ints.keep g5 (fun _ _ h => h)).ld hx0 fun q c => ⟨xs[0], by rw [Nat.zero_mul, add_zero] at c; exact c, ?_⟩
        rw [add_plain]
        refine sto_i C6 (by simp) ⟨v.rs, ?_, Fr.scb _ _ _ _, ?_⟩
        · have := C6.sc 3 (.int .i64 xs[0])
          rw [if_neg h5', if_pos h1']
          have hx : xs.getD 0 r = xs[0] := by simp [List.getD, hx0]
          rw [hx]
          simp only [e1, e2, e3] at this
          exact this
        · rw [if_neg h5']
          exact ((e5.fr g5 fun _ _ h => h).weak (Q' := fun b => Q b ∨ (h.size ≤ b ∧ b ≠ h2.size ∧ b ≠ h1.size)) fun b hb _ => .inl hb).fr (T := fun b => b = h2.size) (Fr.scb _ _ _ _) fun b hb e => by
            rcases hb with hb | hb
            · have := hQ b hb; omega
            · exact hb.2.1 e
      · refine ⟨v.rs, ?_, Fr.refl _ _, ?_⟩
        · rw [if_neg h5', if_neg h1']
          simp only [e1, e2, e3, e4] at C6
          exact C6
        · rw [if_neg h5']
          exact (e5.fr g5 fun _ _ h => h).weak fun b hb _ => .inl hb
  rintro h11 ⟨rs', D6, f11, irs⟩
  have g11 : Grow h h11 := g5.trans' f11 fun i hi e => by omega
  have hz11 : h5.size ≤ h11.size := f11.size
  have D1 : blk h11 h.size (tvs v) := f11.blk C1 (by omega)
  have D2 : blk h11 h1.size z6 := f11.blk C2 (by omega)
  rw [← hxl]
  refine slS_rest (hl.fr g11 (fun _ _ h => h)) hlc (by omega) fun s47 i47 c47 => ?_
  -- the parts, one by one
  generalize hR : (if k = 5 then r else if o = 1 then xs.getD 0 r else r) = R' at D6
  generalize hRS : (if k = 5 then xs.take o else rs) = RS at irs
  have hfl : ∀ j, ((az.take j).flatMap allT).length ≤ (az.flatMap allT).length := fun j => by
    have := congrArg (fun l => (List.flatMap allT l).length) (List.take_append_drop j az)
    simp only [List.flatMap_append, List.length_append] at this
    omega
  have hsucc : ∀ j (hj : j < az.length), ((az.take (j + 1)).flatMap allT).length = ((az.take j).flatMap allT).length + (allT az[j]).length := fun j hj => by
    rw [List.take_add_one, List.getElem?_eq_getElem hj, List.flatMap_append]
    simp
  refine ⟨fun l i h12 => ∃ (j : Nat) (s : Sv) (us : List Tv), i = j ∧ j ≤ az.length ∧ us.length = j ∧ IntsQ Ql h12 l (xs.drop (o + ((az.take j).flatMap allT).length)) ∧ l.n ≤ l.c ∧
      blk h12 h2.size (tvs ⟨k, nm, mu, R', rs', s⟩) ∧ blk h12 h.size (tvs v) ∧ blk h12 h1.size z6 ∧ Own h12 h11.size 6 s (c6 us) ∧ Grow h h12 ∧ h11.size ≤ h12.size ∧
      IntsC (fun b => (Q b ∨ (h.size ≤ b ∧ b ≠ h2.size ∧ b ≠ h1.size)) ∧ b < h11.size) h12 rs' RS ∧
      (∀ i (hi : i < us.length) (hi' : i < az.length), TyAt (fun b => (Q b ∨ h11.size ≤ b) ∧ ¬ s.own b) h12 (withT az[i] ((xs.drop o).drop ((az.take i).flatMap allT).length)) us[i]) ∧ (j = 0 → s = ⟨none, 0, 0⟩), fun _ i _ => az.length - i.toNat,
    ⟨0, ⟨none, 0, 0⟩, [], rfl, Nat.zero_le _, rfl, by simpa using i47, c47, D6, D1, D2, Own.nil _ _ _, g11, Nat.le_refl _, irs.weak fun b hb hlt => ⟨hb, hlt⟩, fun i hi => by simp at hi, fun _ => rfl⟩, ?_⟩
  rintro l1 _ h12 ⟨j, s, us, rfl, hj, hus, il, cl1', E6, E1, E2, oE, g12, sz12, ir12, hel, hz⟩
  have T12 := Tv6.blk E1
  have hnE : s.n = j := by have := oE.len; rw [c6_len] at this; omega
  refine ⟨_, T12.2.2.2.2.2, ?_⟩
  refine ifb_iff (q := j < az.length) (by simp [e6]) (fun hlt => ?_) (fun hge => ?_)
  · refine ⟨_, T12.2.2.2.2.2, args_get (hv.grow g12) hlt fun u hu => ?_⟩
    have hsu := hsucc j hlt
    have hf1 := hfl (j + 1)
    refine cal_of (ih _ (List.getElem_mem hlt) m (by omega) (hall _ (List.getElem_mem hlt)) Q Ql u h12 l1 _ (fun b hb => by have := hQ b hb; have := g12.size; omega) (fun b hb => by have := hQl b hb; have := g12.size; omega) hu il cl1' (by rw [List.length_drop]; omega)) ?_
    rintro _ h13 ⟨f13, v63, l64, rfl, t63, i64, c64, -⟩
    refine ⟨_, rfl, _, rfl, _, _, _, _, _, _, rfl, _, rfl, l64, rfl, ?_⟩
    refine newz fun h14 b14 f14 z14 => ?_
    refine sto6 (v := v63) b14 rfl fun h15 b15 f15 => ?_
    have p15 : Grow h13 h15 := f14.trans' f15 fun i hi e => by omega
    have q15 : Grow h12 h15 := f13.trans p15
    have G6 := q15.blk E6 (fun h => h)
    refine ⟨s, by rw [add_plain, G6.cl]; rfl, ?_⟩
    refine rd6 (Tv6.blk b15) ?_
    have oG := oE.frame q15 (fun _ _ h => h)
    have s15 := q15.size
    refine app1 (vs := tvs v63) rfl oG rfl (one_c6 v63) (by omega) (by omega) (by omega) fun s17 h17 hn17 o17 f17 own17 => ?_
    have hsge : ∀ b, s.own b → h11.size ≤ b ∧ b < h12.size := fun b hb => oE.ge hb
    have no2 : ¬ s.own h2.size := fun e => by have := (hsge _ e).1; omega
    have H6 := f17.blk G6 no2
    rw [add_plain]
    refine sto_i H6 (by simp) ?_
    have hw : blk (sc h17 ⟨h2.size, 0 + 5, none⟩ (.slice s17.a s17.n s17.c)) h2.size (tvs ⟨k, nm, mu, R', rs', s17⟩) := H6.sc 5 (.slice s17.a s17.n s17.c)
    generalize hh : sc h17 ⟨h2.size, 0 + 5, none⟩ (.slice s17.a s17.n s17.c) = h18 at hw
    have f18 : Fr (fun b => b = h2.size) h17 h18 := by rw [← hh]; exact Fr.scb _ _ _ _
    have s17z := f17.size
    have s18z := f18.size
    have own17' : ∀ b, s17.own b → s.own b ∨ h15.size ≤ b := own17
    -- what no step has touched
    have hall18 : Fr (fun b => b = h2.size ∨ s.own b) h15 h18 := (f17.mono fun _ _ e => .inr e).trans (f18.mono fun _ _ e => .inl e)
    have hfr : Fr (fun b => b = h2.size ∨ s.own b) h12 h18 := Fr.trans' (T := fun b => b = h2.size ∨ s.own b) (q15.mono fun _ _ e => e.elim) hall18 fun i hi e => e
    rw [wrap_succ hlt (by omega)]
    refine ⟨⟨j + 1, s17, us ++ [v63], rfl, hlt, by simp [hus], ?_, c64, hw, hfr.blk E1 ?_, hfr.blk E2 ?_, ?_, ?_, by omega, ?_, ?_, fun e => (by omega)⟩, by simp; omega⟩
    · rw [List.drop_drop] at i64
      rw [hsu, ← Nat.add_assoc]
      refine IntsQ.fr i64 (Fr.trans' (T := fun b => b = h2.size ∨ s.own b) (p15.mono fun _ _ e => e.elim) hall18 fun i hi e => e) fun b hb e => ?_
      have hb := hQl b hb
      have := g11.size
      rcases e with e | e
      · omega
      · have := (hsge _ e).1; omega
    · intro e
      rcases e with e | e
      · omega
      · have := (hsge _ e).1; have := g11.size; have := E1.lt; have := D1.lt; omega
    · intro e
      rcases e with e | e
      · omega
      · have := (hsge _ e).1; have := D2.lt; omega
    · rw [c6_app]
      have := o17.frame f18 fun b hb e => by
        rcases own17' b hb with q | q
        · have := (hsge b q).1; omega
        · omega
      simpa [c6] using this
    · exact g12.trans' hfr fun i hi e => by
        rcases e with e | e
        · omega
        · have := (hsge _ e).1; have := g11.size; omega
    · refine ir12.fr hfr fun b hb e => ?_
      rcases e with e | e
      · rcases hb.1 with q | q
        · have := hQ b q; omega
        · exact q.2.1 e
      · have := (hsge _ e).1; omega
    · intro i hi hi'
      rcases Nat.lt_or_ge i us.length with q | q
      · rw [List.getElem_append_left q]
        have x0 := (hel i q hi').weak (Q' := fun b => ((Q b ∨ h11.size ≤ b) ∧ ¬ s17.own b) ∧ ¬ (b = h2.size ∨ s.own b)) fun b hb hlt' => ⟨⟨hb.1, fun e => (own17' b e).elim hb.2 fun e => by omega⟩, fun e => by
          rcases e with e | e
          · rcases hb.1 with q | q
            · have := hQ b q; omega
            · omega
          · exact hb.2 e⟩
        exact (x0.fr hfr fun b hb => hb.2).weak fun b hb _ => hb.1
      · have hij : i = j := by simp at hi; omega
        subst hij
        rw [List.getElem_append_right q]
        simp only [hus, Nat.sub_self, List.getElem_cons_zero]
        rw [List.drop_drop]
        have s13 := f13.size
        have s1315 := p15.size
        have sg11 := g11.size
        have x0 := t63.weak (Q' := fun b => ((Q b ∨ h11.size ≤ b) ∧ ¬ s17.own b) ∧ ¬ (b = h2.size ∨ s.own b)) fun b hb hlt' => by
          have hns : ¬ s.own b := fun e => by
            have := hsge b e
            rcases hb with hb | hb
            · have := hQ b hb; omega
            · omega
          refine ⟨⟨hb.imp id fun e => by omega, fun e => (own17' b e).elim hns fun e => by omega⟩, fun e => e.elim (fun e => ?_) hns⟩
          rcases hb with hb | hb
          · have := hQ b hb; omega
          · omega
        exact (x0.fr (Fr.trans' (T := fun b => b = h2.size ∨ s.own b) (p15.mono fun _ _ e => e.elim) hall18 fun i hi e => e) fun b hb => hb.2).weak fun b hb _ => hb.1
  · have hje : j = az.length := by omega
    subst hje
    rw [List.take_length] at il
    have sg11 := g11.size
    have hd2 := D2.lt
    refine rd6 (t := ⟨k, nm, mu, R', rs', s⟩) (Tv6.blk E6) ?_
    refine sto6 (v := ⟨k, nm, mu, R', rs', s⟩) E2 rfl fun h19 b19 f19 => ?_
    refine rd6 (t := ⟨k, nm, mu, R', rs', s⟩) (Tv6.blk b19) ⟨g12.trans' f19 fun i hi e => by omega, _, l1, rfl, ?_, il.fr f19 fun b hb e => (by have := hQl b hb; omega), cl1', fun e => hz e⟩
    refine tyAt_iff.2 ⟨rfl, rfl, rfl, rfl, ?_, ?_, fun i hi => ?_⟩
    · refine (ir12.fr f19 fun b hb e => ?_).weak fun b hb _ => hb.1.imp id fun q => q.1
      rcases hb.1 with q | q
      · have := hQ b q; omega
      · exact q.2.2 e
    · rw [withA_len]; exact hnE
    · have hi' : i < az.length := by rw [withA_len] at hi; exact hi
      obtain ⟨p, q1, q2, q3⟩ := own6 oE (i := i) (by omega)
      have hpb := (oE.ge q2).1
      refine ⟨p, us[i], q1, .inr (by omega), q3.fr f19 (by rw [add_block]; omega), ?_⟩
      rw [withA_get withT allT az _ i hi' hi]
      refine ((hel i (by omega) hi').fr f19 fun b hb e => ?_).weak fun b hb _ => hb.1.imp id fun q => by omega
      rcases hb.1 with q | q
      · have := hQ b q; omega
      · omega
end
end Go.Proofs.Yteaidgpiolakcaa

/-
  A use of a part by a right.
-/
import Derived.Test.YtggacajnmgligaaH4
namespace Go.Proofs.Ytggacajnmgligaa
open Go Go.Lf
set_option linter.unusedVariables false

/-- one element more, where there is room -/
theorem app1_in {E : TypeId} {z vs : Array Value} {sz bytes : Nat} {h : Heap} {g n c : Nat} {cur : Array Value} {K : Sv → Heap → Prop} (kk : blk h g cur) (hsz : cur.size = c * sz) (hroom : n + 1 ≤ c) (hl : vs.size = sz) (h1 : ∀ u ∈ vs.toList, u.oneCell' = true)
    (k : ∀ h' cur', blk h' g cur' → cur'.size = cur.size → (∀ i, n * sz ≤ i → i < n * sz + sz → cur'[i]? = vs[i - n * sz]?) → (∀ i, i < n * sz ∨ n * sz + sz ≤ i → cur'[i]? = cur[i]?) → Fr (fun b => b = g) h h' → K ⟨some ⟨g, 0, none⟩, n + 1, c⟩ h') :
    newS E vs 1 h fun s1 h1 => appS E z sz bytes h1 ⟨some ⟨g, 0, none⟩, n, c⟩ s1 K := by
  rintro s1 h1' rfl rfl
  have f1 : Grow h (h.push (.cells vs E)) := Fr.push _ _ _
  have k1 := f1.blk kk fun h => h
  have hfit : n * sz + vs.toList.length ≤ cur.size := by
    rw [hsz, Array.length_toList, hl]
    have := Nat.mul_le_mul_right sz hroom
    rw [Nat.add_mul, Nat.one_mul] at this
    exact this
  have H := stoB (o := n * sz) (vs := vs.toList) (K := fun h' => K ⟨some ⟨g, 0, none⟩, n + 1, c⟩ h') k1 hfit h1 (fun h' cur' b1 b2 b3 b4 b5 => k h' cur' b1 b2 (fun i i1 i2 => by
    have := b3 i i1 (by rw [Array.length_toList, hl]; exact i2)
    rwa [Array.getElem?_toList] at this) (fun i hi => b4 i (by rw [Array.length_toList, hl]; exact hi)) ((f1.mono fun _ _ h => h.elim).trans b5))
  refine ⟨vs.toList, by simp [hl], ?_, h1, fun _ => ⟨?_, ?_⟩, fun hg => ?_⟩
  · intro j v hv
    rw [add_plain, (blk.new h vs E).cl]
    simpa using hv
  · have := H.2.1
    show Lf.Free _ ((⟨g, 0, none⟩ : Addr).add (n * sz)) _
    rw [add_plain, Nat.zero_add]
    exact this
  · rintro s' h' rfl rfl
    refine H.2.2 _ ?_
    show scs _ ((⟨g, 0, none⟩ : Addr).add (n * sz)) _ 0 = _
    rw [add_plain, Nat.zero_add]
  · exact absurd hroom (by dsimp only at hg; omega)
abbrev pvs (al : Int) (s : Sv) (tg : Int) : Array Value := #[.int .i64 al, .slice s.a s.n s.c, .int .i64 tg]
theorem one_pv (al : Int) (s : Sv) (tg : Int) : ∀ u ∈ (pvs al s tg).toList, u.oneCell' = true := by
  intro u hu
  simp only [List.mem_cons, List.not_mem_nil, or_false] at hu
  rcases hu with rfl | rfl | rfl <;> rfl
/-- what stays of a right behind the one that is used -/
def keepB (pa : List Int) (w : Bool) (x : Hd) : Bool := !ovB x.pa pa || (!w && !x.uq)
def useAl (a : Al) (pa : List Int) (tg : Int) (w : Bool) : Option Al :=
  match a.st.findIdx? (fun x => x.tg == tg) with
  | none => none
  | some k => match a.st[k]? with
    | none => none
    | some x => if begB x.pa pa = false ∨ (w = true ∧ x.uq = false) then none else some { a with st := a.st.take (k + 1) ++ (a.st.drop (k + 1)).filter (keepB pa w) }
def atS (S : Hs) (i : Int) : Option Al := if 0 ≤ i then (match S.l[i.toNat]? with | some a => if a.live = true then some a else none | none => none) else none
def useS (S : Hs) (al : Int) (pa : List Int) (tg : Int) (w : Bool) : Except Int Hs :=
  match atS S al with
  | none => .error 1
  | some a => if S.watch = false then .ok S else match useAl a pa tg w with
    | none => .error 2
    | some a' => .ok { S with l := S.l.set al.toNat a' }
theorem atS_of {S : Hs} {j : Nat} (h : j < S.l.length) (hl : S.l[j].live = true) : atS S j = some S.l[j] := by
  unfold atS
  rw [if_pos (by omega), Int.toNat_natCast, List.getElem?_eq_getElem h]
  simp [hl]
theorem atS_not {S : Hs} {i : Int} (h : ¬ isAt S i) : atS S i = none := by
  unfold atS
  split
  · rename_i h0
    split
    · rename_i a ha
      split
      · rename_i hl
        exact absurd ⟨h0, a, ha, hl⟩ h
      · rfl
    · rfl
  · rfl
def Mut (l : Lb) : Prop := l ≠ .no ∧ l ≠ .q
section
variable {lab : Nat → Lb} {h : Heap} {hp : Nat} {S : Hs} {s : Sv} {bs : List Nat}
/-- the first right of a tag -/
theorem idx_spec {zs : List (Hr × Hd)} {u : Sv} {b4 : Nat} {al tg : Int} {sp : Sv} (o : Own h 0 3 u (c3 (zs.map (·.1)))) (hz : ∀ z ∈ zs, z.1.tg = z.2.tg) (hb : zs.length ≤ 1000000) (k4 : blk h b4 (pvs al sp tg)) :
    CallsH Try.prog 45 #[.slice u.a u.n u.c, .func (.func 46) #[] #[ptr b4]] h (fun v h' => Grow h h' ∧ v = .int .i64 (match (zs.map (·.2)).findIdx? (fun x => x.tg == tg) with | some k => (k : Int) | none => -1)) := by
  have hn : u.n = zs.length := by have := o.len; rw [c3_len] at this; simp at this; omega
  apply F45
  unfold L45
  refine ⟨fun i h' => ∃ j : Nat, i = j ∧ j ≤ zs.length ∧ Grow h h' ∧ ∀ q (hq : q < zs.length), q < j → zs[q].2.tg ≠ tg, fun i _ => zs.length - i.toNat, ⟨0, rfl, Nat.zero_le _, Fr.refl _ _, fun q _ h => absurd h (Nat.not_lt_zero _)⟩, ?_⟩
  rintro _ h1 ⟨j, rfl, hj, f1, hne⟩
  refine ifb_iff (q := j < zs.length) (by rw [hn]; simp) (fun hlt => ?_) (fun hge => ?_)
  rotate_left
  · refine ⟨f1, ?_⟩
    have : (zs.map (·.2)).findIdx? (fun x => x.tg == tg) = none := by
      rw [List.findIdx?_eq_none_iff]
      intro x hx
      obtain ⟨z, hz, rfl⟩ := List.mem_map.1 hx
      obtain ⟨q, hq, rfl⟩ := List.getElem_of_mem hz
      simpa using hne q hq (by omega)
    rw [this]
  have hr := (o.frame f1 fun _ _ h => h).row
  have ho := o.mem
  rcases ho with ⟨_, e, _⟩ | ⟨g, cur, e, _⟩
  · omega
  rw [e] at hr
  have cell : ∀ q, q < 3 → cl h1 (((⟨g, 0, none⟩ : Addr).add (j * 3)).add q) = (hvs zs[j].1)[q]? := fun q hq => by
    have c := c3_get (zs.map (·.1)) j (by simpa using hlt) q hq
    rw [List.getElem_map] at c
    rw [add_add, hr (j * 3 + q) _ (by rw [c]; exact Array.getElem?_eq_getElem (by simpa using hq)), Array.getElem?_eq_getElem (show q < (hvs zs[j].1).size by simpa using hq)]
  refine ⟨_, e, by omega, by rw [hn]; omega, zs[j].1.tg, zs[j].1.s, zs[j].1.uq, ?_⟩
  rw [Int.toNat_natCast]
  refine ⟨by have := cell 0 (by omega); rw [add_zero] at this; exact this, cell 1 (by omega), cell 2 (by omega), ?_⟩
  refine ⟨46, #[ptr b4], rfl, ⟨Try.f46, Try.func46, by kernel_rfl, by kernel_rfl⟩, ?_⟩
  refine cal_of (f := 46) (J := fun x h' => Grow h1 h' ∧ x = .bool (zs[j].1.tg == tg)) ?_ ?_
  · apply F46
    unfold L46
    rintro p2 h2 rfl rfl
    have f2 : Grow h1 (h1.push (.cells #[Value.int .i64 zs[j].1.tg, Value.slice zs[j].1.s.a zs[j].1.s.n zs[j].1.s.c, Value.bool zs[j].1.uq] 80)) := Fr.push _ _ _
    refine ldI_i (x := zs[j].1.tg) (by rw [(blk.new h1 _ _).cl]; rfl) (ldI_i (x := tg) ?_ ⟨f2, rfl⟩)
    rw [add_plain, (f2.blk (f1.blk k4 fun h => h) fun h => h).cl]; rfl
  · rintro _ h2 ⟨f2, rfl⟩
    have htg := hz _ (List.getElem_mem hlt)
    refine ⟨_, rfl, fun e => ⟨f1.trans f2, ?_⟩, fun e => ?_⟩
    · have e' : zs[j].2.tg = tg := by rw [← htg]; simpa using e
      have : (zs.map (·.2)).findIdx? (fun x => x.tg == tg) = some j := by
        rw [List.findIdx?_eq_some_iff_getElem]
        refine ⟨by simpa using hlt, by simpa using e', fun q hq => ?_⟩
        simpa using hne q (by omega) hq
      rw [this]
    · have e' : zs[j].2.tg ≠ tg := by rw [← htg]; simpa using e
      rw [wrap_succ hlt (by omega)]
      refine ⟨⟨j + 1, rfl, hlt, f1.trans f2, fun q hq hq2 => ?_⟩, by dsimp only; omega⟩
      by_cases hqj : q = j
      · subst hqj; exact e'
      · exact hne q hq (by omega)
end
end Go.Proofs.Ytggacajnmgligaa

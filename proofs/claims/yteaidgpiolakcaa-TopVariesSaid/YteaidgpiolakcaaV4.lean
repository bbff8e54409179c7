/-
  How structs change, if those within them change so.
-/
import Derived.Test.YteaidgpiolakcaaV3
import Derived.Test.YteaidgpiolakcaaLiftY
namespace Go.Proofs.Yteaidgpiolakcaa
open Go Go.Lf
set_option linter.unusedVariables false

def tNil : List Ty → Ty := fun bs => .mk 0 ⟨#[]⟩ false 0 [] bs
structure Df where
  nm : ByteArray
  lf : Int
  tys : List ByteArray
  flds : List Ty
structure Dv where
  nm : ByteArray
  lf : Int
  ts : Sv
  fs : Sv
abbrev dvs (d : Dv) : Array Value := #[.string d.nm, .int .i64 d.lf, .slice d.ts.a d.ts.n d.ts.c, .slice d.fs.a d.fs.n d.fs.c]
def Dv4 (h : Heap) (p : Addr) (d : Dv) : Prop := cl h p = some (.string d.nm) ∧ cl h (p.add 1) = some (.int .i64 d.lf) ∧ cl h (p.add 2) = some (.slice d.ts.a d.ts.n d.ts.c) ∧ cl h (p.add 3) = some (.slice d.fs.a d.fs.n d.fs.c)
theorem Dv4.blk {h : Heap} {b : Nat} {d : Dv} (k : blk h b (dvs d)) : Dv4 h ⟨b, 0, none⟩ d := by
  unfold Dv4
  simp only [add_plain, k.cl]
  exact ⟨rfl, rfl, rfl, rfl⟩
theorem Dv4.fr {h h' : Heap} {p : Addr} {d : Dv} {T : Nat → Prop} (x : Dv4 h p d) (f : Fr T h h') (hT : ¬ T p.block) : Dv4 h' p d := by
  obtain ⟨a, b, c, e⟩ := x
  exact ⟨f.clk a hT, f.clk b (by rw [add_block]; exact hT), f.clk c (by rw [add_block]; exact hT), f.clk e (by rw [add_block]; exact hT)⟩
structure NamesQ (Q : Nat → Prop) (h : Heap) (s : Sv) (l : List ByteArray) : Prop where
  len : s.n = l.length
  at_ : ∀ i (hi : i < l.length), ∃ q, s.a = some q ∧ Q q.block ∧ cl h (q.add (i * 1)) = some (.string l[i])
structure DfAt (Q : Nat → Prop) (h : Heap) (v : Dv) (d : Df) : Prop where
  nm : v.nm = d.nm
  lf : v.lf = d.lf
  tys : NamesQ Q h v.ts d.tys
  flds : TyAt Q h (tNil d.flds) ⟨0, ⟨#[]⟩, false, 0, ⟨none, 0, 0⟩, v.fs⟩
structure DsAt (Q : Nat → Prop) (h : Heap) (s : Sv) (ds : List Df) : Prop where
  len : s.n = ds.length
  at_ : ∀ i (hi : i < ds.length), ∃ q v, s.a = some q ∧ Q q.block ∧ Dv4 h (q.add (i * 4)) v ∧ DfAt Q h v ds[i]
section
variable {Q T : Nat → Prop} {h h' : Heap}
theorem NamesQ.fr {s : Sv} {l : List ByteArray} (x : NamesQ Q h s l) (f : Fr T h h') (hT : ∀ b, Q b → ¬ T b) : NamesQ Q h' s l :=
  ⟨x.len, fun i hi => by obtain ⟨q, e, k, c⟩ := x.at_ i hi; exact ⟨q, e, k, f.clk c (by rw [add_block]; exact hT _ k)⟩⟩
theorem DfAt.fr {v : Dv} {d : Df} (x : DfAt Q h v d) (f : Fr T h h') (hT : ∀ b, Q b → ¬ T b) : DfAt Q h' v d := ⟨x.nm, x.lf, x.tys.fr f hT, x.flds.fr f hT⟩
theorem DsAt.fr {s : Sv} {ds : List Df} (x : DsAt Q h s ds) (f : Fr T h h') (hT : ∀ b, Q b → ¬ T b) : DsAt Q h' s ds :=
  ⟨x.len, fun i hi => by obtain ⟨q, v, e, k, c, d⟩ := x.at_ i hi; exact ⟨q, v, e, k, c.fr f (by rw [add_block]; exact hT _ k), d.fr f hT⟩⟩
end
/-- few, and small -/
def SmD (d : Df) : Prop := 0 ≤ d.lf ∧ d.lf ≤ 100 ∧ d.tys.length ≤ 1000 ∧ d.flds.length ≤ 1000 ∧ ∀ t ∈ d.flds, small 100 t = true
def updL (k : ByteArray) (v : List Int) : List (ByteArray × List Int) → List (ByteArray × List Int)
  | [] => [(k, v)]
  | (q, u) :: r => if k = q then (k, v) :: r else (q, u) :: updL k v r
def updX (k : ByteArray) (s : Sv) (v : List Int) : List (ByteArray × Sv × List Int) → List (ByteArray × Sv × List Int)
  | [] => [(k, s, v)]
  | (q, u) :: r => if k = q then (k, s, v) :: r else (q, u) :: updX k s v r
theorem updX_W (k : ByteArray) (s : Sv) (v : List Int) : ∀ es, (updX k s v es).map (fun e => (e.1, e.2.2)) = updL k v (es.map fun e => (e.1, e.2.2))
  | [] => rfl
  | (q, u) :: r => by
    simp only [updX, List.map_cons, updL]
    by_cases h : k = q
    · rw [if_pos h, if_pos h]; rfl
    · rw [if_neg h, if_neg h, List.map_cons, updX_W k s v r]
theorem updX_V (k : ByteArray) (s : Sv) (v : List Int) : ∀ es, (updX k s v es).map (fun e => (e.1, e.2.1.v)) = updE k s.v (es.map fun e => (e.1, e.2.1.v))
  | [] => rfl
  | (q, u) :: r => by
    simp only [updX, List.map_cons, updE]
    by_cases h : k = q
    · rw [if_pos h, if_pos h]; rfl
    · rw [if_neg h, if_neg h, List.map_cons, updX_V k s v r]
theorem updX_mem {k : ByteArray} {s : Sv} {v : List Int} : ∀ {es : List (ByteArray × Sv × List Int)} {e : ByteArray × Sv × List Int}, e ∈ updX k s v es → e ∈ es ∨ e = (k, s, v)
  | [], e, h => by simp [updX] at h; exact .inr h
  | (q, u) :: r, e, h => by
    simp only [updX] at h
    by_cases hk : k = q
    · rw [if_pos hk] at h
      rcases List.mem_cons.1 h with h | h
      · exact .inr h
      · exact .inl (by simp [h])
    · rw [if_neg hk] at h
      rcases List.mem_cons.1 h with h | h
      · exact .inl (by simp [h])
      · exact (updX_mem h).imp (fun h => by simp [h]) id
noncomputable def onceD (W : List (ByteArray × List Int)) (d : Df) : List Int := argsW (seeW d.lf.toNat d.tys W) (fun _ => 1) 0 d.flds (List.replicate (d.lf.toNat + d.tys.length) 0)
noncomputable def onceW (W : List (ByteArray × List Int)) (ds : List Df) : List (ByteArray × List Int) := ds.foldl (fun acc d => updL d.nm (onceD W d) acc) []
theorem headW_len (L : Nat) (tys : List ByteArray) (W : List (ByteArray × List Int)) (k : Int) (nm : ByteArray) (r : Int) (rs : List Int) (way : Int) (out : List Int) : (headW L tys W k nm r rs way out).length = out.length := by
  have hreg : ∀ (wf : Nat → Int) (rs : List Int) (i : Nat) (out : List Int), (regsW L wf i rs out).length = out.length := by
    intro wf rs
    induction rs with
    | nil => intro i out; rfl
    | cons r rs ih => intro i out; rw [regsW, ih, lifeW_len]
  unfold headW
  split
  · unfold parW
    split
    · exact orAt_len _ _ _
    · rfl
  · split
    · exact lifeW_len _ _ _ _
    · split
      · exact hreg _ _ _ _
      · rfl
theorem argsW_len {S : Ty → Int → List Int → List Int} (wf : Nat → Int) : ∀ (az : List Ty) (i : Nat) (out : List Int), (∀ a ∈ az, ∀ w out, (S a w out).length = out.length) → (argsW S wf i az out).length = out.length
  | [], _, _, _ => rfl
  | a :: az, i, out, H => by
    rw [argsW, argsW_len wf az (i + 1) _ fun b hb => H b (by simp [hb])]
    exact H a (by simp) _ _
theorem seeW_len (L : Nat) (tys : List ByteArray) (W : List (ByteArray × List Int)) (t : Ty) : ∀ (way : Int) (out : List Int), (seeW L tys W t way out).length = out.length := by
  refine Ty.ind (P := fun t => ∀ (way : Int) (out : List Int), (seeW L tys W t way out).length = out.length) ?_ t
  intro k nm mu r rs az ih way out
  rw [seeW_mk, argsW_len _ az 0 _ fun a ha w out => ih a ha w out, headW_len]
theorem onceD_len (W : List (ByteArray × List Int)) (d : Df) : (onceD W d).length = d.lf.toNat + d.tys.length := by
  unfold onceD
  rw [argsW_len _ _ _ _ fun a _ w out => seeW_len _ _ _ a w out]
  simp
theorem mkI {h : Heap} {E : TypeId} {n : Nat} (hn : n ≤ 1000000000) {K : Sv → Heap → Prop} (k : ∀ s h', Own h' h.size 1 s (ints (List.replicate n 0)) → Grow h h' → (∀ b, s.own b → b = h.size) → h'.size = h.size + 1 → s.n = n → K s h') : mkS E (Value.int .i64 0).cells 1 8 (n : Int) (n : Int) h K := by
  refine ⟨by omega, by omega, by omega, by omega, ?_⟩
  rintro s h' rfl rfl
  refine k _ _ ⟨by simp [ints], .inr ⟨h.size, _, rfl, Nat.le_refl _, blk.new _ _ _, by simp, by rw [size_madeCells], ?_⟩⟩ (Fr.push _ _ _) (fun b ⟨a, ea, eb⟩ => by simp only [Option.some.injEq] at ea; subst ea; exact eb.symm) (by simp) (by simp)
  apply List.ext_getElem?
  intro i
  simp only [Int.toNat_natCast, Nat.mul_one, List.getElem?_take, Array.getElem?_toList]
  rw [made_get _ rfl]
  unfold ints
  rw [List.getElem?_map, List.getElem?_replicate]
  split <;> rfl
theorem clamp_id {x : Int} (h0 : 0 ≤ x) (h1 : x ≤ 100) : (if (if 100 < x then 100 else x) > 0 then (if 100 < x then 100 else x) else 0) = x := by
  have e : (if 100 < x then (100 : Int) else x) = x := if_neg (by omega)
  rw [e]
  split <;> omega
/-- a map that lies apart, each entry with its own stamp -/
def WApart (h0 : Nat) (h : Heap) (m : Nat) (W : List (ByteArray × List Int)) : Prop :=
  ∃ (es : List (ByteArray × Sv × List Int)) (L : Array MapEntry) (c : Nat), W = es.map (fun e => (e.1, e.2.2)) ∧ h[m]? = some (.map L c) ∧ h0 ≤ m ∧ mapEs L.toList = strEs (es.map fun e => (e.1, e.2.1.v)) ∧ Stamps L c ∧
    ∀ e ∈ es, IntsQ (fun b => h0 ≤ b ∧ b ≠ m ∧ b < h.size) h e.2.1 e.2.2 ∧ e.2.2.length ≤ 1000000
theorem map_lt {h : Heap} {m : Nat} {o : Obj} (e : h[m]? = some o) : m < h.size := by
  rcases Nat.lt_or_ge m h.size with q | q
  · exact q
  · simp [Array.getElem?_eq_none q] at e
theorem WApart.at_ {h0 m : Nat} {h : Heap} {W : List (ByteArray × List Int)} (x : WApart h0 h m W) : WAt (fun b => h0 ≤ b ∧ b < h.size) h (some m) W := by
  obtain ⟨es, L, c, e1, e2, e3, e4, e5, e6⟩ := x
  exact ⟨es, e1, .inr ⟨m, L, c, rfl, e2, e4⟩, fun r hr => by simp at hr; subst hr; exact ⟨e3, map_lt e2⟩, fun e he => ⟨(e6 e he).1.weak fun b hb _ => ⟨hb.1, hb.2.2⟩, (e6 e he).2⟩⟩
theorem WApart.fr {h0 m : Nat} {h h' : Heap} {W : List (ByteArray × List Int)} {T : Nat → Prop} (x : WApart h0 h m W) (f : Fr T h h') (hT : ∀ b, h0 ≤ b → b < h.size → ¬ T b) : WApart h0 h' m W := by
  obtain ⟨es, L, c, e1, e2, e3, e4, e5, e6⟩ := x
  have hs := f.size
  have hm := map_lt e2
  refine ⟨es, L, c, e1, ?_, e3, e4, e5, fun e he => ⟨?_, (e6 e he).2⟩⟩
  · rw [f.same m hm (hT m e3 hm)]; exact e2
  · exact ((e6 e he).1.fr f fun b hb => hT b hb.1 hb.2.2).weak fun b hb _ => ⟨hb.1, hb.2.1, by omega⟩
end Go.Proofs.Yteaidgpiolakcaa

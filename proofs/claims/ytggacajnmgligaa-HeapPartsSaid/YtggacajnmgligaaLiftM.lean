/-
  Lists of lists that are built; a whole box written.
-/
import Derived.Test.YtggacajnmgligaaLiftS
namespace Go.Lf
open Go

/-- a slice of one's own whose elements are slices of ints of one's own -/
structure LLOwn (h : Heap) (B : Nat) (s : Sv) (ts : List (Sv × List Int)) : Prop where
  own : Own h B 1 s (ts.map fun t => t.1.v)
  els : ∀ t ∈ ts, IntsAt h t.1 t.2 ∧ ∀ b, t.1.own b → B ≤ b ∧ b < h.size ∧ ¬ s.own b
section
variable {h h' : Heap} {B : Nat} {s : Sv} {ts : List (Sv × List Int)}
theorem LLOwn.nil (h : Heap) (B : Nat) : LLOwn h B ⟨none, 0, 0⟩ [] := ⟨Own.nil _ _ _, fun t ht => by cases ht⟩
theorem LLOwn.frame {T : Nat → Prop} (x : LLOwn h B s ts) (f : Fr T h h') (hT : ∀ b, B ≤ b → b < h.size → ¬ T b) : LLOwn h' B s ts := by
  refine ⟨x.own.frame f fun b hb => hT b (x.own.ge hb).1 (x.own.ge hb).2, fun t ht => ?_⟩
  obtain ⟨h1, h2⟩ := x.els t ht
  refine ⟨h1.frame f fun b hb => hT b (h2 b hb).1 (h2 b hb).2.1, fun b hb => ⟨(h2 b hb).1, ?_, (h2 b hb).2.2⟩⟩
  have := (h2 b hb).2.1
  have := f.size
  omega
theorem LLOwn.len (x : LLOwn h B s ts) : s.n = ts.length := by have := x.own.len; simp at this; omega
theorem LLOwn.lists (x : LLOwn h B s ts) : ListsAt h s (ts.map fun t => t.2) := by
  refine ⟨by rw [x.len]; simp, fun i hi => ?_⟩
  have hi' : i < ts.length := by simpa using hi
  have hr := x.own.row
  rcases x.own.mem with ⟨_, e, _⟩ | ⟨g, cur, e, _⟩
  · have := x.len; omega
  · rw [e] at hr
    refine ⟨_, e, ts[i].1, ?_, by simpa using (x.els _ (List.getElem_mem hi')).1⟩
    rw [Nat.mul_one]
    exact hr i _ (by simp [hi'])
/-- one list more -/
theorem LLOwn.app {E : TypeId} {z vs : Array Value} {bytes : Nat} {t : Sv} {xs : List Int} {K : Sv → Heap → Prop} (x : LLOwn h B s ts) (hz : z.size = 1) (hv : vs = #[t.v]) (y : IntsAt h t xs) (hy : ∀ b, t.own b → B ≤ b ∧ b < h.size ∧ ¬ s.own b)
    (hB : B ≤ h.size) (h63 : s.n + 1 ≤ 9223372036854775807) (hb : (s.n + 1) * bytes ≤ 140737488355328)
    (k : ∀ s' h', LLOwn h' B s' (ts ++ [(t, xs)]) → Fr s.own h h' → (∀ b, s'.own b → s.own b ∨ h.size ≤ b) → K s' h') : newS E vs 1 h fun s1 h1 => appS E z 1 bytes h1 s s1 K := by
  subst hv
  refine app1 hz x.own rfl (by simp [Value.oneCell', Sv.v]) hB h63 hb fun s' h' _ o' f' hown => k s' h' ⟨by simpa using o', fun t' ht' => ?_⟩ f' hown
  have key : IntsAt h t'.1 t'.2 ∧ ∀ b, t'.1.own b → B ≤ b ∧ b < h.size ∧ ¬ s.own b := by
    rcases List.mem_append.1 ht' with h1 | h1
    · exact x.els t' h1
    · simp only [List.mem_singleton] at h1
      subst h1
      exact ⟨y, hy⟩
  refine ⟨key.1.frame f' fun b hb => (key.2 b hb).2.2, fun b hb => ?_⟩
  obtain ⟨q1, q2, q3⟩ := key.2 b hb
  have := f'.size
  refine ⟨q1, by omega, fun h2 => ?_⟩
  rcases hown b h2 with h3 | h3
  · exact q3 h3
  · omega
end

/-- a whole box written -/
theorem stoA_i {h : Heap} {b : Nat} {cs : Array Value} {vs : List Value} {K : Heap → Prop} (kk : blk h b cs) (hs : cs.size = vs.length) (h1 : ∀ v ∈ vs, v.oneCell' = true)
    (k : ∀ h', blk h' b vs.toArray → Fr (fun i => i = b) h h' → K h') : stoA h ⟨b, 0, none⟩ vs K := by
  refine ⟨h1, fun j hj => ?_, ?_⟩
  · rw [add_plain, kk.cl, kk.fz, Nat.zero_add]
    have : j < cs.size := by omega
    simp [this]
  · rintro h' rfl
    obtain ⟨q1, q2⟩ := scs_blk b vs h cs 0 0 kk
    refine k _ ?_ q2
    have e := fold_set vs cs (0 + 0) (by omega)
    have e' : ((vs.zipIdx (0 + 0)).foldl (fun c p => c.setIfInBounds p.2 p.1) cs) = vs.toArray := by
      apply Array.ext'
      rw [e]
      simp [hs]
    rw [← e']
    exact q1
end Go.Lf

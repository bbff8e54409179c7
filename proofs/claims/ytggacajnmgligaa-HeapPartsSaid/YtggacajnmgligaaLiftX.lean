/-
  Elements of a slice of one's own, written in place.
-/
import Derived.Test.YtggacajnmgligaaLiftM
namespace Go.Lf
open Go

theorem add_add (p : Addr) (a b : Nat) : (p.add a).add b = p.add (a + b) := by
  obtain ⟨k, o, s⟩ := p
  by_cases hb : b = 0
  · subst hb; simp [Addr.add]
  · by_cases ha : a = 0
    · subst ha; simp [Addr.add]
    · simp [Addr.add, ha, hb, Nat.add_assoc]
theorem own_addr {h : Heap} {B sz : Nat} {s : Sv} {xs : List Value} (o : Own h B sz s xs) (hn : 0 < s.n) : ∃ g, s.a = some ⟨g, 0, none⟩ := by
  rcases o.mem with ⟨_, e, _⟩ | ⟨g, cur, e, _⟩
  · omega
  · exact ⟨g, e⟩
/-- several cells of an element written -/
theorem own_stoA {h : Heap} {B sz : Nat} {s : Sv} {xs : List Value} (o : Own h B sz s xs) {i : Nat} (hi : i < s.n) {vs : List Value} (hl : vs.length = sz) (h1 : ∀ v ∈ vs, v.oneCell' = true) {p : Addr} (hp : s.a = some p) {K : Heap → Prop}
    (k : ∀ h', Own h' B sz s (xs.take (i * sz) ++ vs ++ xs.drop (i * sz + sz)) → Fr s.own h h' → K h') : stoA h (p.add (i * sz)) vs K := by
  rcases o.mem with ⟨e, _, _⟩ | ⟨g, cur, e, hB, kk, hc, hsz, ht⟩
  · rw [e] at hp; cases hp
  rw [e] at hp
  simp only [Option.some.injEq] at hp
  subst hp
  have hlt : i * sz + sz ≤ s.n * sz := by rw [← Nat.succ_mul]; exact Nat.mul_le_mul_right _ hi
  have hcap : s.n * sz ≤ cur.size := by rw [hsz]; exact Nat.mul_le_mul_right _ hc
  have hfit : i * sz + vs.length ≤ cur.size := by omega
  refine ⟨h1, fun j hj => ?_, ?_⟩
  · rw [add_plain, add_plain]
    refine ⟨?_, kk.fz _⟩
    rw [kk.cl]
    have : i * sz + j < cur.size := by omega
    simp [this]
  · rintro h' rfl
    have hs := scs_blk g vs h cur (i * sz) 0 kk
    simp only [Nat.add_zero] at hs
    rw [add_plain, Nat.zero_add]
    have hf := fold_set vs cur (i * sz) hfit
    refine k _ ⟨?_, .inr ⟨g, _, e, hB, hs.1, hc, ?_, ?_⟩⟩ (hs.2.mono fun b _ hb => ⟨_, e, hb.symm⟩)
    · have := o.len
      simp only [List.length_append, List.length_take, List.length_drop]
      omega
    · rw [← hsz, ← Array.length_toList, hf]
      simp
      omega
    · rw [hf]
      have hxl := o.len
      apply List.ext_getElem?
      intro q
      rw [← ht]
      simp only [List.getElem?_take, List.getElem?_append, List.length_take, List.length_append, List.getElem?_drop, Array.length_toList]
      have m1 : min (i * sz) cur.size = i * sz := by omega
      have m2 : min (s.n * sz) cur.size = s.n * sz := by omega
      have m3 : min (i * sz) (s.n * sz) = i * sz := by omega
      simp only [m1, m2, m3, hl]
      by_cases q1 : q < s.n * sz
      · by_cases q2 : q < i * sz
        · have q3 : q < i * sz + sz := by omega
          simp [q1, q2, q3]
        · by_cases q3 : q < i * sz + sz
          · simp [q1, q2, q3]
          · simp [q1, q3]
            intro hh; omega
      · have q3 : ¬ q < i * sz + sz := by omega
        simp [q1, q3]
        intro hh; omega
/-- one cell of an element written -/
theorem own_sto {h : Heap} {B : Nat} {s : Sv} {xs : List Value} (o : Own h B 1 s xs) {i : Nat} (hi : i < s.n) {v : Value} (h1 : v.oneCell' = true) {p : Addr} (hp : s.a = some p) {K : Heap → Prop}
    (k : ∀ h', Own h' B 1 s (xs.take i ++ [v] ++ xs.drop (i + 1)) → Fr s.own h h' → K h') : sto h (p.add (i * 1)) v K := by
  obtain ⟨_, q2, q3⟩ := own_stoA o hi (vs := [v]) rfl (by simpa using h1) hp (K := K) (by rw [Nat.mul_one]; exact k)
  have f0 := q2 0 (by simp)
  rw [show ((p.add (i * 1)).add 0) = p.add (i * 1) from add_zero _] at f0
  refine ⟨f0.1, f0.2, fun h' e => q3 h' ?_⟩
  rw [e]
  simp only [scs]
  rw [show ((p.add (i * 1)).add 0) = p.add (i * 1) from add_zero _]
end Go.Lf

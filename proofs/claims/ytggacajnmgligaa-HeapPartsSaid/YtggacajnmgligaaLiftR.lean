/-
  What an argument that reads as data holds: by its type, cell by cell.
-/
import Derived.Test.YtggacajnmgligaaLiftU
import Derived.ProofKit
import Derived.OpenShut
import Derived.Deep.Slices
import Derived.Carry
namespace Go.Lf
open Go

/-- the cells of a variable of type `t`, and what they lead to -/
def rd (P : Program) (h : Heap) : Nat → TypeId → List Value → Prop
  | 0, _, _ => False
  | fuel + 1, t, cs => match P.underlying t with
    | some .bool => ∃ b, cs = [.bool b]
    | some (.int k) => ∃ n, cs = [.int k n] ∧ (Lit.int k n).wf = true
    | some .string => ∃ s, cs = [.string s] ∧ s.size ≤ maxLen
    | some (.float k) => ∃ b, cs = [.float k b] ∧ (Lit.float k b).wf = true
    | some (.slice e) => cs = [.slice none 0 0] ∨ ∃ a len cap, cs = [.slice (some a) len cap] ∧ len ≤ cap ∧ cap ≤ maxLen ∧
        ∀ i, i < cap → ∃ cs' : List Value, cs'.length = P.cellsOf e ∧ (∀ j, j < P.cellsOf e → cl h ((a.add (i * P.cellsOf e)).add j) = cs'[j]?) ∧ rd P h fuel e cs'
    | some (.struct fs) => cs.length = P.cellsOf t ∧ ∀ (i : Nat) f, fs[i]? = some f → rd P h fuel f.type ((cs.drop f.offset).take (P.cellsOf f.type))
    | some (.array n e) => cs.length = P.cellsOf t ∧ ∀ i, i < n → rd P h fuel e ((cs.drop (i * P.cellsOf e)).take (P.cellsOf e))
    | _ => True

theorem trod_rd {H : Type} {enc : TypeId × Value → H} {P : Program} {w : World} : ∀ (fuel : Nat) (t : TypeId) (cs : List Value) (x : DataW H × List MemPlace), DataW.trod enc P w 0 (fun _ => true) true fuel t cs = some x → rd P w.heap fuel t cs := by
  intro fuel
  induction fuel with
  | zero => intro t cs x h; simp [DataW.trod] at h
  | succ fuel ih =>
    intro t cs x h
    unfold rd
    split
    · rename_i ht; obtain ⟨b, e, _⟩ := DataW.trod_bool ht h; exact ⟨b, e⟩
    · rename_i k ht; obtain ⟨n, e, _, wf⟩ := DataW.trod_int ht h; exact ⟨n, e, wf⟩
    · rename_i ht; obtain ⟨s, e, _, hs⟩ := DataW.trod_string ht h; exact ⟨s, e, hs⟩
    · rename_i k ht
      unfold DataW.trod at h
      rw [ht] at h
      split at h <;> first | contradiction | skip
      all_goals simp_all
      all_goals exact h.1.2
    · rename_i e ht
      rcases DataW.trod_slice ht h with ⟨h0, _⟩ | ⟨a, len, cap, elems, rest, n, hf, rfl, _, _, hl, hm, _, hel, hsp, _⟩
      · exact .inl h0
      · refine .inr ⟨a, len, cap, rfl, hl, hm, fun i hi => ?_⟩
        obtain rfl : n = fuel := by omega
        have hsp := hsp rfl
        have key : ∃ y, (w.cells? 0 (a.add (i * P.cellsOf e)) (P.cellsOf e)).bind (DataW.trod enc P w 0 (fun _ => true) true n e) = some y := by
          by_cases hil : i < len
          · rw [hel i hil]
            exact ⟨_, List.getElem?_eq_getElem (by omega)⟩
          · have := hsp.2 (i - len) (by omega)
            rw [show len + (i - len) = i by omega] at this
            rw [this]
            exact ⟨_, List.getElem?_eq_getElem (by omega)⟩
        obtain ⟨y, hy⟩ := key
        obtain ⟨cs', h1, h2⟩ := Option.bind_eq_some_iff.1 hy
        obtain ⟨_, hlen, hc⟩ := World.cells?_some h1
        exact ⟨cs', hlen, fun j hj => hc j hj, ih e cs' y h2⟩
    · rename_i fs ht
      obtain ⟨xs, n, hf, _, hl, hx, hall⟩ := DataW.trod_struct ht h
      obtain rfl : n = fuel := by omega
      refine ⟨hl, fun i f hi => ?_⟩
      have h1 := hall i f hi
      have hlt : i < xs.length := by rw [hx]; exact (Array.getElem?_eq_some_iff.1 hi).1
      rw [List.getElem?_eq_getElem hlt] at h1
      exact ih _ _ _ h1
    · rename_i n e ht
      obtain ⟨xs, m, hf, _, hl, hx, hall⟩ := DataW.trod_array ht h
      obtain rfl : m = fuel := by omega
      refine ⟨hl, fun i hi => ?_⟩
      have h1 := hall i hi
      rw [List.getElem?_eq_getElem (by omega)] at h1
      exact ih _ _ _ h1
    · trivial
end Go.Lf

/-
  The row of ways rises, and comes to stand; with a field more it stands no lower.
-/
import Derived.Test.YteaidgpiolakcaaW1
namespace Go.Proofs.Yteaidgpiolakcaa
open Go Go.Lf
set_option linter.unusedVariables false

inductive DLE : List Df → List Df → Prop
  | nil : DLE [] []
  | cons {nm lf tys fl e ds ds'} : DLE ds ds' → DLE (⟨nm, lf, tys, fl⟩ :: ds) (⟨nm, lf, tys, fl ++ e⟩ :: ds')
theorem DLE.refl : ∀ ds : List Df, DLE ds ds
  | [] => .nil
  | ⟨nm, lf, tys, fl⟩ :: ds => by
    have := DLE.cons (nm := nm) (lf := lf) (tys := tys) (fl := fl) (e := []) (DLE.refl ds)
    rwa [List.append_nil] at this
theorem LE.zeros : ∀ n, LE (List.replicate n 0) (List.replicate n 0)
  | 0 => .nil
  | n + 1 => .cons (le4_refl (by decide)) (LE.zeros n)
theorem argsW_app (S : Ty → Int → List Int → List Int) (w : Int) : ∀ (az bz : List Ty) (i j : Nat) (out : List Int), argsW S (fun _ => w) i (az ++ bz) out = argsW S (fun _ => w) j bz (argsW S (fun _ => w) i az out)
  | [], [], _, _, _ => rfl
  | [], b :: bz, i, j, out => by
    show argsW S (fun _ => w) (i + 1) bz (S b w out) = argsW S (fun _ => w) (j + 1) bz (S b w out)
    exact argsW_app S w [] bz (i + 1) (j + 1) (S b w out)
  | a :: az, bz, i, j, out => argsW_app S w az bz (i + 1) j (S a w out)
theorem one_ok : (0 : Int) ≤ 1 ∧ (1 : Int) ≤ 3 := by decide
theorem onceD_mono {V W : List (ByteArray × List Int)} (hW : LEW V W) (nm : ByteArray) (lf : Int) (tys : List ByteArray) (fl e : List Ty) : LE (onceD V ⟨nm, lf, tys, fl⟩) (onceD W ⟨nm, lf, tys, fl ++ e⟩) := by
  unfold onceD
  dsimp only
  rw [argsW_app _ _ fl e 0 0]
  have h1 : LE (argsW (seeW lf.toNat tys V) (fun _ => 1) 0 fl (List.replicate (lf.toNat + tys.length) 0)) (argsW (seeW lf.toNat tys W) (fun _ => 1) 0 fl (List.replicate (lf.toNat + tys.length) 0)) :=
    args_mono (fun _ => le4_refl one_ok) fl 0 (fun a _ => see_mono hW a) (LE.zeros _)
  have hWW : LEW W W := by
    clear h1
    induction hW with
    | nil => exact .nil
    | cons a _ ih => exact .cons a.self.2 ih
  exact h1.trans (args_ext (fun _ => one_ok) e 0 (fun a _ => see_ext hWW a) h1.self.2)
theorem LEW.right {V W : List (ByteArray × List Int)} (h : LEW V W) : LEW W W := by
  induction h with
  | nil => exact .nil
  | cons a _ ih => exact .cons a.self.2 ih
theorem onceD_zero {W : List (ByteArray × List Int)} (hW : LEW W W) (d : Df) : LE (List.replicate (d.lf.toNat + d.tys.length) 0) (onceD W d) :=
  args_ext (fun _ => one_ok) d.flds 0 (fun a _ => see_ext hW a) (LE.zeros _)
theorem fold_mono {f g : Df → List Int} {ds ds' : List Df} (hd : DLE ds ds') (H : ∀ nm lf tys fl e, LE (f ⟨nm, lf, tys, fl⟩) (g ⟨nm, lf, tys, fl ++ e⟩)) : ∀ {A B : List (ByteArray × List Int)}, LEW A B → LEW (ds.foldl (fun acc d => updL d.nm (f d) acc) A) (ds'.foldl (fun acc d => updL d.nm (g d) acc) B) := by
  induction hd with
  | nil => intro A B h; exact h
  | cons _ ih => intro A B h; exact ih (h.upd _ (H _ _ _ _ _))
theorem once_mono {V W : List (ByteArray × List Int)} (hW : LEW V W) {ds ds' : List Df} (hd : DLE ds ds') : LEW (onceW V ds) (onceW W ds') := fold_mono hd (fun _ _ _ _ _ => onceD_mono hW _ _ _ _ _) .nil
theorem zero_once {W : List (ByteArray × List Int)} (hW : LEW W W) {ds ds' : List Df} (hd : DLE ds ds') : LEW (zeroW ds) (onceW W ds') := fold_mono hd (fun nm lf tys fl e => onceD_zero hW ⟨nm, lf, tys, fl ++ e⟩) .nil
theorem zero_zero (ds : List Df) : LEW (zeroW ds) (zeroW ds) := fold_mono (DLE.refl ds) (fun _ _ _ _ _ => LE.zeros _) .nil
theorem it_rise (ds : List Df) : ∀ k, LEW (itW ds k) (itW ds (k + 1))
  | 0 => zero_once (zero_zero ds) (DLE.refl ds)
  | k + 1 => once_mono (it_rise ds k) (DLE.refl ds)

/-! ### it comes to stand -/
def sumL (xs : List Int) : Nat := (xs.map Int.toNat).sum
def sumW : List (ByteArray × List Int) → Nat
  | [] => 0
  | (_, l) :: r => sumL l + sumW r
def plW : List (ByteArray × List Int) → Nat
  | [] => 0
  | (_, l) :: r => l.length + plW r
theorem LE.sum {xs ys : List Int} (h : LE xs ys) : sumL xs ≤ sumL ys ∧ sumL ys ≤ 3 * ys.length ∧ (sumL xs = sumL ys → xs = ys) := by
  induction h with
  | nil => exact ⟨Nat.le_refl _, Nat.le_refl _, fun _ => rfl⟩
  | cons a _ ih =>
    rename_i x y xs ys _
    have h1 := le4_int a
    have h2 := a.1
    have h3 := a.2.1
    have e1 : sumL (x :: xs) = x.toNat + sumL xs := by simp [sumL]
    have e2 : sumL (y :: ys) = y.toNat + sumL ys := by simp [sumL]
    rw [e1, e2, List.length_cons]
    refine ⟨by omega, by omega, fun e => ?_⟩
    have : x = y := by omega
    rw [this, ih.2.2 (by omega)]
theorem LEW.sum {V W : List (ByteArray × List Int)} (h : LEW V W) : sumW V ≤ sumW W ∧ sumW W ≤ 3 * plW W ∧ plW V = plW W ∧ (sumW V = sumW W → V = W) := by
  induction h with
  | nil => exact ⟨Nat.le_refl _, Nat.le_refl _, rfl, fun _ => rfl⟩
  | cons a _ ih =>
    rename_i k xs ys V W hVW
    have h1 := a.sum
    have h2 := a.len
    simp only [sumW, plW]
    refine ⟨by omega, by omega, by omega, fun e => ?_⟩
    rw [h1.2.2 (by omega), ih.2.2.2 (by omega)]
theorem it_pl (ds : List Df) : ∀ k, plW (itW ds k) = plW (itW ds 0)
  | 0 => rfl
  | k + 1 => by rw [← (it_rise ds k).sum.2.2.1, it_pl ds k]
theorem it_stand (ds : List Df) : ∃ k, itW ds (k + 1) = itW ds k := by
  have key : ∀ n, (∃ k, itW ds (k + 1) = itW ds k) ∨ n ≤ sumW (itW ds n) := by
    intro n
    induction n with
    | zero => exact .inr (Nat.zero_le _)
    | succ n ih =>
      rcases ih with h | h
      · exact .inl h
      · have hs := (it_rise ds n).sum
        by_cases he : sumW (itW ds n) = sumW (itW ds (n + 1))
        · exact .inl ⟨n, (hs.2.2.2 he).symm⟩
        · exact .inr (by omega)
  rcases key (3 * plW (itW ds 0) + 1) with h | h
  · exact h
  · have := (it_rise ds (3 * plW (itW ds 0))).sum.2.1
    rw [it_pl ds (3 * plW (itW ds 0) + 1)] at this
    omega
def keysW (V : List (ByteArray × List Int)) : List ByteArray := V.map (·.1)
theorem keys_upd (k : ByteArray) (xs : List Int) : ∀ V, keysW (updL k xs V) = keysW V ∨ (k ∉ keysW V ∧ keysW (updL k xs V) = keysW V ++ [k])
  | [] => .inr ⟨by simp [keysW], rfl⟩
  | (q, u) :: r => by
    have ih := keys_upd k xs r
    have e2 : keysW ((q, u) :: r) = q :: keysW r := rfl
    unfold updL
    by_cases h : k = q
    · rw [if_pos h]
      subst h
      exact .inl rfl
    · rw [if_neg h]
      have e1 : keysW ((q, u) :: updL k xs r) = q :: keysW (updL k xs r) := rfl
      rw [e1, e2]
      rcases ih with ih | ⟨h1, h2⟩
      · exact .inl (by rw [ih])
      · exact .inr ⟨by simp [h, h1], by rw [h2]; rfl⟩
theorem keys_fold (f : Df → List Int) : ∀ (ds : List Df) (A : List (ByteArray × List Int)), (keysW A).Nodup → (keysW (ds.foldl (fun acc d => updL d.nm (f d) acc) A)).Nodup
  | [], _, h => h
  | d :: ds, A, h => by
    refine keys_fold f ds _ ?_
    rcases keys_upd d.nm (f d) A with e | ⟨hm, e⟩
    · rw [e]; exact h
    · rw [e]
      refine List.nodup_append.2 ⟨h, by simp, ?_⟩
      intro a ha b hb e
      simp at hb
      subst e hb
      exact hm ha
theorem keys_it (ds : List Df) (k : Nat) : (keysW (itW ds k)).Nodup := by
  cases k with
  | zero => exact keys_fold _ ds [] (by simp [keysW])
  | succ k => exact keys_fold _ ds [] (by simp [keysW])
theorem lkO_mem : ∀ {V : List (ByteArray × List Int)} {k : ByteArray} {l : List Int}, (keysW V).Nodup → (k, l) ∈ V → lkO' k V = some l
  | [], _, _, _, h => by cases h
  | (q, u) :: r, k, l, hn, h => by
    have e2 : keysW ((q, u) :: r) = q :: keysW r := rfl
    rw [e2, List.nodup_cons] at hn
    unfold lkO'
    rcases List.mem_cons.1 h with h' | h'
    · cases h'
      rw [if_pos rfl]
    · have hne : ¬ k = q := fun e => hn.1 (e ▸ List.mem_map.2 ⟨(k, l), h', rfl⟩)
      rw [if_neg hne, lkO_mem hn.2 h']
theorem eqW_self {V : List (ByteArray × List Int)} (hn : (keysW V).Nodup) : eqW V V = true := by
  unfold eqW
  simp only [decide_true, Bool.true_and, List.all_eq_true]
  intro e he
  unfold sameE
  rw [lkO_mem hn he]
  simp
theorem LEW.keys {V W : List (ByteArray × List Int)} (h : LEW V W) : keysW V = keysW W := by
  induction h with
  | nil => rfl
  | cons _ _ ih => simp only [keysW, List.map_cons] at ih ⊢; rw [ih]
theorem eqW_eq {V W : List (ByteArray × List Int)} (h : LEW W V) (hn : (keysW W).Nodup) (he : eqW V W = true) : V = W := by
  unfold eqW at he
  rw [Bool.and_eq_true, List.all_eq_true] at he
  have hk := h.keys
  have hlen : W.length = V.length := by have := congrArg List.length hk; simpa [keysW] using this
  apply List.ext_getElem hlen.symm
  intro i h1 h2
  have hs := he.2 V[i] (List.getElem_mem h1)
  have hki : W[i].1 = V[i].1 := by
    have := congrArg (·[i]?) hk
    simpa [keysW, h1, h2] using this
  unfold sameE at hs
  have hm : (W[i].1, W[i].2) ∈ W := List.getElem_mem h2
  have := lkO_mem hn hm
  rw [hki] at this
  rw [this] at hs
  have e2 : V[i].2 = W[i].2 := by simpa using hs
  exact Prod.ext hki.symm e2
/-- the first at which it stands -/
theorem first_stand (ds : List Df) : ∃ K, eqW (itW ds (K + 1)) (itW ds K) = true ∧ ∀ k, k < K → eqW (itW ds (k + 1)) (itW ds k) = false := by
  obtain ⟨n, hn⟩ := it_stand ds
  obtain ⟨K, hK, hmin⟩ := least_of (P := fun k => eqW (itW ds (k + 1)) (itW ds k) = true) n (by rw [hn]; exact eqW_self (keys_it ds n))
  refine ⟨K, hK, fun k hk => ?_⟩
  cases h : eqW (itW ds (k + 1)) (itW ds k) with
  | false => rfl
  | true => have := hmin k h; omega
theorem more_law {ds ds' : List Df} (hd : DLE ds ds') {K K' : Nat} (hK' : eqW (itW ds' (K' + 1)) (itW ds' K') = true) : LEW (itW ds K) (itW ds' K') := by
  have hr := it_rise ds' K'
  have hfix : onceW (itW ds' K') ds' = itW ds' K' := eqW_eq hr (keys_it ds' K') hK'
  have hB : LEW (itW ds' K') (itW ds' K') := by
    have := hr.right
    rw [show itW ds' (K' + 1) = itW ds' K' from hfix] at this
    exact this
  have key : ∀ k, LEW (itW ds k) (itW ds' K') := by
    intro k
    induction k with
    | zero =>
      have := zero_once hB hd
      rw [hfix] at this
      exact this
    | succ k ih =>
      have := once_mono ih hd
      rw [hfix] at this
      exact this
  exact key K
end Go.Proofs.Yteaidgpiolakcaa

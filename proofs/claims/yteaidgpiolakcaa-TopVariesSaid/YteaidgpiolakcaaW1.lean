/-
  The law of ways: with more known no way is less; the row of ways comes to stand.
-/
import Derived.Test.YteaidgpiolakcaaV7
namespace Go.Proofs.Yteaidgpiolakcaa
open Go Go.Lf
set_option linter.unusedVariables false

/-- a way, and one that is no less -/
def le4 (x y : Int) : Prop := (0 ≤ x ∧ x ≤ 3) ∧ (0 ≤ y ∧ y ≤ 3) ∧ bitsI .or .i64 x y = y
theorem four {x : Int} (h : 0 ≤ x ∧ x ≤ 3) : ∃ i : Nat, i < 4 ∧ x = i := ⟨x.toNat, by omega, by omega⟩
theorem le4_refl {x : Int} (h : 0 ≤ x ∧ x ≤ 3) : le4 x x := by
  obtain ⟨i, hi, rfl⟩ := four h
  refine ⟨h, h, ?_⟩
  have : ∀ i, i < 4 → bitsI .or .i64 ((i : Nat) : Int) i = i := by decide
  exact this i hi
theorem le4_trans {x y z : Int} (h : le4 x y) (k : le4 y z) : le4 x z := by
  obtain ⟨i, hi, rfl⟩ := four h.1
  obtain ⟨j, hj, rfl⟩ := four h.2.1
  obtain ⟨l, hl, rfl⟩ := four k.2.1
  refine ⟨h.1, k.2.1, ?_⟩
  have : ∀ i, i < 4 → ∀ j, j < 4 → ∀ l, l < 4 → bitsI .or .i64 ((i : Nat) : Int) ((j : Nat) : Int) = j → bitsI .or .i64 ((j : Nat) : Int) ((l : Nat) : Int) = l → bitsI .or .i64 ((i : Nat) : Int) ((l : Nat) : Int) = l := by decide
  exact this i hi j hj l hl h.2.2 k.2.2
def le4b (x y : Int) : Bool := decide (0 ≤ x) && decide (x ≤ 3) && decide (0 ≤ y) && decide (y ≤ 3) && decide (bitsI .or .i64 x y = y)
theorem le4_iff {x y : Int} : le4b x y = true ↔ le4 x y := by
  unfold le4b le4
  simp only [Bool.and_eq_true, decide_eq_true_eq]
  constructor
  · rintro ⟨⟨⟨⟨a, b⟩, c⟩, d⟩, e⟩; exact ⟨⟨a, b⟩, ⟨c, d⟩, e⟩
  · rintro ⟨⟨a, b⟩, ⟨c, d⟩, e⟩; exact ⟨⟨⟨⟨a, b⟩, c⟩, d⟩, e⟩
def orB (i j l m : Nat) : Bool := !(le4b i j) || !(le4b l m) || le4b (bitsI .or .i64 i l) (bitsI .or .i64 j m)
def thrB (i j l m : Nat) : Bool := !(le4b i j) || !(le4b l m) || le4b (throughF i l) (throughF j m)
theorem orB_all : ∀ i, i < 4 → ∀ j, j < 4 → ∀ l, l < 4 → ∀ m, m < 4 → orB i j l m = true := by decide
theorem thrB_all : ∀ i, i < 4 → ∀ j, j < 4 → ∀ l, l < 4 → ∀ m, m < 4 → thrB i j l m = true := by decide
theorem le4_or {x y v w : Int} (h : le4 x y) (k : le4 v w) : le4 (bitsI .or .i64 x v) (bitsI .or .i64 y w) := by
  have h' := le4_iff.2 h
  have k' := le4_iff.2 k
  obtain ⟨i, hi, rfl⟩ := four h.1
  obtain ⟨j, hj, rfl⟩ := four h.2.1
  obtain ⟨l, hl, rfl⟩ := four k.1
  obtain ⟨m, hm, rfl⟩ := four k.2.1
  have := orB_all i hi j hj l hl m hm
  unfold orB at this
  rw [h', k'] at this
  exact le4_iff.1 (by simpa using this)
theorem le4_ext {x v : Int} (h : 0 ≤ x ∧ x ≤ 3) (k : 0 ≤ v ∧ v ≤ 3) : le4 x (bitsI .or .i64 x v) := by
  obtain ⟨i, hi, rfl⟩ := four h
  obtain ⟨j, hj, rfl⟩ := four k
  have : ∀ i, i < 4 → ∀ j, j < 4 → (0 ≤ bitsI .or .i64 ((i : Nat) : Int) ((j : Nat) : Int) ∧ bitsI .or .i64 ((i : Nat) : Int) ((j : Nat) : Int) ≤ 3) ∧ bitsI .or .i64 ((i : Nat) : Int) (bitsI .or .i64 ((i : Nat) : Int) ((j : Nat) : Int)) = bitsI .or .i64 ((i : Nat) : Int) ((j : Nat) : Int) := by decide
  exact ⟨h, (this i hi j hj).1, (this i hi j hj).2⟩
theorem le4_thr {a a' b b' : Int} (h : le4 a a') (k : le4 b b') : le4 (throughF a b) (throughF a' b') := by
  have h' := le4_iff.2 h
  have k' := le4_iff.2 k
  obtain ⟨i, hi, rfl⟩ := four h.1
  obtain ⟨j, hj, rfl⟩ := four h.2.1
  obtain ⟨l, hl, rfl⟩ := four k.1
  obtain ⟨m, hm, rfl⟩ := four k.2.1
  have := thrB_all i hi j hj l hl m hm
  unfold thrB at this
  rw [h', k'] at this
  exact le4_iff.1 (by simpa using this)
theorem le4_int {x y : Int} (h : le4 x y) : x ≤ y := by
  obtain ⟨i, hi, rfl⟩ := four h.1
  obtain ⟨j, hj, rfl⟩ := four h.2.1
  have : ∀ i, i < 4 → ∀ j, j < 4 → bitsI .or .i64 ((i : Nat) : Int) ((j : Nat) : Int) = j → ((i : Nat) : Int) ≤ j := by decide
  exact this i hi j hj h.2.2
theorem le4_zero {x : Int} (h : 0 ≤ x ∧ x ≤ 3) : le4 0 x := by
  obtain ⟨i, hi, rfl⟩ := four h
  have : ∀ i, i < 4 → bitsI .or .i64 0 ((i : Nat) : Int) = i := by decide
  exact ⟨by decide, h, this i hi⟩

/-! ### rows of ways -/
inductive LE : List Int → List Int → Prop
  | nil : LE [] []
  | cons {x y xs ys} : le4 x y → LE xs ys → LE (x :: xs) (y :: ys)
theorem LE.len {xs ys : List Int} (h : LE xs ys) : xs.length = ys.length := by
  induction h with
  | nil => rfl
  | cons _ _ ih => simp [ih]
theorem LE.get {xs ys : List Int} (h : LE xs ys) : ∀ (i : Nat) (h1 : i < xs.length) (h2 : i < ys.length), le4 xs[i] ys[i] := by
  induction h with
  | nil => intro i h1; simp at h1
  | cons a _ ih =>
    intro i h1 h2
    cases i with
    | zero => exact a
    | succ i => exact ih i (by simpa using h1) (by simpa using h2)
theorem LE.trans {xs ys zs : List Int} (h : LE xs ys) : LE ys zs → LE xs zs := by
  induction h generalizing zs with
  | nil => intro k; exact k
  | cons a _ ih => intro k; cases k with | cons b k => exact .cons (le4_trans a b) (ih k)
theorem LE.self {xs ys : List Int} (h : LE xs ys) : LE xs xs ∧ LE ys ys := by
  induction h with
  | nil => exact ⟨.nil, .nil⟩
  | cons a _ ih => exact ⟨.cons (le4_refl a.1) ih.1, .cons (le4_refl a.2.1) ih.2⟩
theorem LE.set {xs ys : List Int} (h : LE xs ys) : ∀ (i : Nat) {v w : Int}, le4 v w → LE (xs.set i v) (ys.set i w) := by
  induction h with
  | nil => intro i v w _; exact .nil
  | cons a k ih =>
    intro i v w hv
    cases i with
    | zero => exact .cons hv k
    | succ i => exact .cons a (ih i hv)
theorem LE.orAt {xs ys : List Int} (h : LE xs ys) (i : Nat) {v w : Int} (hv : le4 v w) : LE (orAt xs i v) (orAt ys i w) := by
  have hl := h.len
  unfold Go.Proofs.Yteaidgpiolakcaa.orAt
  by_cases hi : i < xs.length
  · rw [dif_pos hi, dif_pos (by omega)]
    exact h.set i (le4_or (h.get i hi (by omega)) hv)
  · rw [dif_neg hi, dif_neg (by omega)]
    exact h
theorem LE.ext {xs : List Int} (h : LE xs xs) (i : Nat) {v : Int} (hv : 0 ≤ v ∧ v ≤ 3) : LE xs (Go.Proofs.Yteaidgpiolakcaa.orAt xs i v) := by
  unfold Go.Proofs.Yteaidgpiolakcaa.orAt
  by_cases hi : i < xs.length
  · rw [dif_pos hi]
    have h2 := h.set i (v := xs[i]) (w := bitsI .or .i64 xs[i] v) (le4_ext (h.get i hi hi).1 hv)
    rwa [List.set_getElem_self] at h2
  · rw [dif_neg hi]
    exact h
inductive LEW : List (ByteArray × List Int) → List (ByteArray × List Int) → Prop
  | nil : LEW [] []
  | cons {k xs ys V W} : LE xs ys → LEW V W → LEW ((k, xs) :: V) ((k, ys) :: W)
theorem LEW.trans {V W X : List (ByteArray × List Int)} (h : LEW V W) : LEW W X → LEW V X := by
  induction h generalizing X with
  | nil => intro k; exact k
  | cons a _ ih => intro k; cases k with | cons b k => exact .cons (a.trans b) (ih k)
theorem LEW.lk {V W : List (ByteArray × List Int)} (h : LEW V W) (k : ByteArray) : LE (lkW k V) (lkW k W) := by
  induction h with
  | nil => exact .nil
  | cons a _ ih =>
    unfold lkW
    split
    · exact a
    · exact ih
theorem LEW.upd {V W : List (ByteArray × List Int)} (h : LEW V W) (k : ByteArray) {xs ys : List Int} (hx : LE xs ys) : LEW (updL k xs V) (updL k ys W) := by
  induction h with
  | nil => exact .cons hx .nil
  | cons a b ih =>
    unfold updL
    split
    · exact .cons hx b
    · exact .cons a ih
theorem le4_of {V W : List (ByteArray × List Int)} (h : LEW V W) (k : ByteArray) (i : Int) : le4 (ofW V k i) (ofW W k i) := by
  have hl := h.lk k
  have hn := hl.len
  unfold ofW
  rw [hn]
  by_cases hc : i < 0 ∨ ((lkW k W).length : Int) ≤ i
  · rw [if_pos hc, if_pos hc]
    exact le4_refl (by decide)
  · rw [if_neg hc, if_neg hc, List.getD_eq_getElem?_getD, List.getD_eq_getElem?_getD, List.getElem?_eq_getElem (by omega), List.getElem?_eq_getElem (by omega)]
    exact hl.get _ _ _
section
variable {L : Nat} {tys : List ByteArray} {V W : List (ByteArray × List Int)}
theorem LE.life {xs ys : List Int} (h : LE xs ys) (r : Int) {v w : Int} (hv : le4 v w) : LE (lifeW L xs r v) (lifeW L ys r w) := by
  unfold lifeW
  by_cases hc : 1 ≤ r ∧ r ≤ (L : Int)
  · rw [if_pos hc, if_pos hc]; exact h.orAt _ hv
  · rw [if_neg hc, if_neg hc]; exact h
theorem LE.lifeX {xs : List Int} (h : LE xs xs) (r : Int) {v : Int} (hv : 0 ≤ v ∧ v ≤ 3) : LE xs (lifeW L xs r v) := by
  unfold lifeW
  by_cases hc : 1 ≤ r ∧ r ≤ (L : Int)
  · rw [if_pos hc]; exact h.ext _ hv
  · rw [if_neg hc]; exact h
theorem LE.regs {wf wf' : Nat → Int} (hw : ∀ i, le4 (wf i) (wf' i)) : ∀ (rs : List Int) (i : Nat) {xs ys : List Int}, LE xs ys → LE (regsW L wf i rs xs) (regsW L wf' i rs ys)
  | [], _, _, _, h => h
  | r :: rs, i, _, _, h => LE.regs hw rs (i + 1) (h.life r (hw i))
theorem LE.regsX {wf : Nat → Int} (hw : ∀ i, 0 ≤ wf i ∧ wf i ≤ 3) : ∀ (rs : List Int) (i : Nat) {xs : List Int}, LE xs xs → LE xs (regsW L wf i rs xs)
  | [], _, _, h => h
  | r :: rs, i, _, h => by
    have h1 := h.lifeX (L := L) r (hw i)
    exact h1.trans (LE.regsX hw rs (i + 1) h1.self.2)
theorem LE.head {xs ys : List Int} (h : LE xs ys) (hW : LEW V W) (k : Int) (nm : ByteArray) (r : Int) (rs : List Int) {v w : Int} (hv : le4 v w) : LE (headW L tys V k nm r rs v xs) (headW L tys W k nm r rs w ys) := by
  unfold headW
  split
  · unfold parW
    split
    · exact h.orAt _ hv
    · exact h
  · split
    · exact h.life r hv
    · split
      · exact LE.regs (fun i => le4_thr hv (le4_of hW nm i)) rs 0 h
      · exact h
theorem LE.headX {xs : List Int} (h : LE xs xs) (hW : LEW W W) (k : Int) (nm : ByteArray) (r : Int) (rs : List Int) {v : Int} (hv : 0 ≤ v ∧ v ≤ 3) : LE xs (headW L tys W k nm r rs v xs) := by
  unfold headW
  split
  · unfold parW
    split
    · exact h.ext _ hv
    · exact h
  · split
    · exact h.lifeX r hv
    · split
      · exact LE.regsX (fun i => (le4_thr (le4_refl hv) (le4_of hW nm i)).1) rs 0 h
      · exact h
theorem le4_inner (hW : LEW V W) (k : Int) (nm : ByteArray) (mu : Bool) (n : Nat) {v w : Int} (hv : le4 v w) (i : Nat) : le4 (innerW V k nm mu n v i) (innerW W k nm mu n w i) := by
  unfold innerW
  split
  · exact le4_thr hv (le4_refl (by decide))
  · split
    · exact le4_thr hv (le4_of hW nm _)
    · exact hv
theorem args_mono {S S' : Ty → Int → List Int → List Int} {wf wf' : Nat → Int} (hw : ∀ i, le4 (wf i) (wf' i)) : ∀ (az : List Ty) (i : Nat) {xs ys : List Int}, (∀ a ∈ az, ∀ v w xs ys, le4 v w → LE xs ys → LE (S a v xs) (S' a w ys)) → LE xs ys → LE (argsW S wf i az xs) (argsW S' wf' i az ys)
  | [], _, _, _, _, h => h
  | a :: az, i, _, _, H, h => args_mono hw az (i + 1) (fun b hb => H b (by simp [hb])) (H a (by simp) _ _ _ _ (hw i) h)
theorem args_ext {S : Ty → Int → List Int → List Int} {wf : Nat → Int} (hw : ∀ i, 0 ≤ wf i ∧ wf i ≤ 3) : ∀ (az : List Ty) (i : Nat) {xs : List Int}, (∀ a ∈ az, ∀ v xs, 0 ≤ v ∧ v ≤ 3 → LE xs xs → LE xs (S a v xs)) → LE xs xs → LE xs (argsW S wf i az xs)
  | [], _, _, _, h => h
  | a :: az, i, _, H, h => by
    have h1 := H a (by simp) _ _ (hw i) h
    exact h1.trans (args_ext hw az (i + 1) (fun b hb => H b (by simp [hb])) h1.self.2)
theorem see_mono (hW : LEW V W) (t : Ty) : ∀ v w xs ys, le4 v w → LE xs ys → LE (seeW L tys V t v xs) (seeW L tys W t w ys) := by
  refine Ty.ind (P := fun t => ∀ v w xs ys, le4 v w → LE xs ys → LE (seeW L tys V t v xs) (seeW L tys W t w ys)) ?_ t
  intro k nm mu r rs az ih v w xs ys hv h
  rw [seeW_mk, seeW_mk]
  exact args_mono (fun i => le4_inner hW k nm mu rs.length hv i) az 0 (fun a ha => ih a ha) (h.head hW k nm r rs hv)
theorem see_ext (hW : LEW W W) (t : Ty) : ∀ v xs, 0 ≤ v ∧ v ≤ 3 → LE xs xs → LE xs (seeW L tys W t v xs) := by
  refine Ty.ind (P := fun t => ∀ v xs, 0 ≤ v ∧ v ≤ 3 → LE xs xs → LE xs (seeW L tys W t v xs)) ?_ t
  intro k nm mu r rs az ih v xs hv h
  rw [seeW_mk]
  have h1 := h.headX (L := L) (tys := tys) hW k nm r rs hv
  exact h1.trans (args_ext (fun i => (le4_inner hW k nm mu rs.length (le4_refl hv) i).1) az 0 (fun a ha => ih a ha) h1.self.2)
end
end Go.Proofs.Yteaidgpiolakcaa

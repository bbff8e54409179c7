/-
  Read; a use and what is there, whole.
-/
import Derived.Test.YtggacajnmgligaaH7
namespace Go.Proofs.Ytggacajnmgligaa
open Go Go.Lf
set_option linter.unusedVariables false

noncomputable def getW (S : Hs) (al : Int) (pa : List Int) : Except Int Vl :=
  match atS S al with
  | none => .error 1
  | some a => match getV a.v pa with
    | .error f => .error f
    | .ok y => if wholeV y = true then .ok y else .error 3
noncomputable def useGet (S : Hs) (al : Int) (pa : List Int) (tg : Int) (w : Bool) : Hs × Except Int Vl :=
  match useS S al pa tg w with
  | .error f => (S, .error f)
  | .ok S' => (S', getW S' al pa)
theorem getV_err : ∀ (xs : List Int) (t : Vl) (f : Int), getV t xs = .error f → f ≠ 0
  | [], t, f, h => by unfold getV at h; cases h
  | i :: xs, .mk k n nm ts al pa tg, f, h => by
    unfold getV at h
    split at h
    · cases h; decide
    split at h
    · cases h; decide
    split at h
    · exact getV_err xs _ f h
    · cases h; decide
theorem atS_some {S : Hs} {i : Int} {a : Al} (h : atS S i = some a) : ∃ j : Nat, i = j ∧ ∃ h2 : j < S.l.length, S.l[j] = a ∧ a.live = true := by
  unfold atS at h
  split at h
  · rename_i h0
    split at h
    · rename_i b hb
      split at h
      · rename_i hl
        simp only [Option.some.injEq] at h
        subst h
        obtain ⟨h2, rfl⟩ := List.getElem?_eq_some_iff.1 hb
        exact ⟨i.toNat, by omega, h2, rfl, hl⟩
      · cases h
    · cases h
  · cases h
theorem useS_at {S S' : Hs} {al tg : Int} {pa : List Int} {w : Bool} (h : useS S al pa tg w = .ok S') : ∃ a, atS S' al = some a ∧ S'.l.length = S.l.length ∧ S'.tags = S.tags ∧ S'.live = S.live ∧ S'.most = S.most ∧ S'.watch = S.watch := by
  unfold useS at h
  split at h
  · cases h
  · rename_i a ha
    split at h
    · simp only [Except.ok.injEq] at h
      subst h
      exact ⟨a, ha, rfl, rfl, rfl, rfl, rfl⟩
    · split at h
      · cases h
      · rename_i a' ha'
        simp only [Except.ok.injEq] at h
        subst h
        obtain ⟨j, rfl, h2, rfl, hl⟩ := atS_some ha
        refine ⟨a', ?_, by simp, rfl, rfl, rfl, rfl⟩
        have hl' : a'.live = true := by
          unfold useAl at ha'
          split at ha'
          · cases ha'
          · split at ha'
            · cases ha'
            · split at ha'
              · cases ha'
              · simp only [Option.some.injEq] at ha'
                subst ha'
                exact hl
        have := atS_of (S := { S with l := S.l.set j a' }) (j := j) (by simpa using h2) (by simpa using hl')
        simpa using this
def Ext (lab lab' : Nat → Lb) (h : Heap) : Prop := ∀ b, b < h.size → ¬ Mut (lab b) → lab' b = lab b
/-- a value that is told -/
def Till (lab : Nat → Lb) (lo b : Nat) : Prop := lab b = .q ∨ (lo ≤ b ∧ lab b = .no)
def Told (lab : Nat → Lb) (lo : Nat) (h : Heap) (y : Vl) (u : Vv) : Prop := VAt false (Till lab lo) h y (anyA (Till lab lo)) u
theorem Fresh.fr {T : Nat → Prop} {h0 h1 h2 : Heap} {y : Vl} {u : Vv} (x : Fresh h0 h1 y u) (f : Fr T h1 h2) (hT : ∀ b, T b → b < h0.size) : Fresh h0 h2 y u := by
  obtain ⟨lb, e1, e2⟩ := x
  refine ⟨lb, fun b hb => e1 b (hb.imp id (Nat.le_trans f.size)), e2.fr f (fun b hb ht => ?_) fun σ b hb ht => ?_⟩
  · have := hT b ht
    omega
  · rw [e1 b (.inl (hT b ht))] at hb; cases hb
section
variable {lab : Nat → Lb} {h : Heap} {hp : Nat} {S : Hs} {s : Sv} {bs : List Nat}
theorem toM {a b : Heap} (g : Grow a b) : Fr (fun b => Mut (lab b)) a b := g.mono fun _ _ h => h.elim
theorem useGet_walk (x : HpAt lab h hp S s bs) {al tg : Int} {sp : Sv} {pa : List Int} (hps : IntsC (fun b => ¬ Mut (lab b)) h sp pa) (hpl : pa.length ≤ 1000000) (hst : ∀ a ∈ S.l, a.st.length ≤ 1000000) {w : Bool} {b4 : Nat} (k4 : blk h b4 (pvs al sp tg)) (l4 : lab b4 = .no)
    {K1 K2 : Int → Heap → Prop} {K3 : Option Addr → Option Addr → Heap → Prop}
    (ke : ∀ f h', Fr (fun b => Mut (lab b)) h h' → HpAt lab h' hp (useGet S al pa tg w).1 s bs → (useGet S al pa tg w).2 = .error f → f ≠ 0 → K1 f h' ∧ K2 f h')
    (kk : ∀ S' j y p h', Fr (fun b => Mut (lab b)) h h' → HpAt lab h' hp S' s bs → useGet S al pa tg w = (S', .ok y) → S'.tags = S.tags → S'.watch = S.watch → ∀ (h1 : j < bs.length) (h2 : j < S'.l.length), al = j → S'.l[j].live = true → getV S'.l[j].v pa = .ok y → Pl h' ⟨bs[j], 1, none⟩ (natsOf pa) p → K3 (some ⟨bs[j], 0, none⟩) (some p) h') :
    cal Try.prog 28 #[ptr hp, .agg (pvs al sp tg), .bool w] h fun u h3 => asTup u fun r13 => elt r13 0 fun u_1 => asP u_1 fun x14 => elt r13 1 fun u_2 => asI .i64 u_2 fun x15 => ifb (x15 != 0) (K1 x15 h3)
      (ldS h3 ((⟨b4, 0, none⟩ : Addr).add 1) fun x23 => cal Try.prog 29 #[.pointer x14, .slice x23.a x23.n x23.c] h3 fun u_3 h5 => asTup u_3 fun r24 => elt r24 0 fun u_4 => asP u_4 fun x25 => elt r24 1 fun u_5 => asI .i64 u_5 fun x26 => ifb (x26 != 0) (K2 x26 h5) (K3 x14 x25 h5)) := by
  refine cal_of (use_spec x hps hpl hst w) ?_
  rintro v h3 ⟨f3, hm⟩
  cases hu : useS S al pa tg w with
  | error f =>
    rw [hu] at hm
    obtain ⟨x3, rfl, hf⟩ := hm
    have hug : useGet S al pa tg w = (S, .error f) := by unfold useGet; rw [hu]
    rw [hug] at ke
    exact ⟨_, rfl, _, rfl, _, rfl, _, rfl, _, rfl, fun _ => (ke f h3 f3 x3 rfl hf).1, fun e => absurd (by simpa using e) hf⟩
  | ok S' =>
    rw [hu] at hm
    obtain ⟨x3, j, hj, rfl, rfl⟩ := hm
    refine ⟨_, rfl, _, rfl, _, rfl, _, rfl, _, rfl, fun e => (by simp at e), fun _ => ?_⟩
    have hug : useGet S (j : Int) pa tg w = (S', getW S' j pa) := by unfold useGet; rw [hu]
    rw [hug] at ke kk
    obtain ⟨a, ha, -, ht, -, -, hw⟩ := useS_at hu
    obtain ⟨j', e, hj2, rfl, hl⟩ := atS_some ha
    obtain rfl : j = j' := by omega
    have hget : getW S' j pa = match getV S'.l[j].v pa with
        | .error f => .error f
        | .ok y => if wholeV y = true then .ok y else .error 3 := by
      unfold getW; rw [ha]
    obtain ⟨lb, hfew, v, u, kb, hva, -⟩ := x3.bx j hj hj2
    have k43 := f3.blk k4 (by rw [l4]; exact fun h => h.1 rfl)
    have hps3 := hps.fr f3 fun b hb h => hb h
    refine ldS_i (s := sp) (by rw [add_plain, k43.cl]; rfl) ?_
    refine cal_of (get_spec (p0 := ⟨bs[j], 0, none⟩) hva (by rw [add_plain]; exact bx7 kb) hps3.ints hpl hfew) ?_
    rintro w5 h5 ⟨f5, hm⟩
    have F5 : Fr (fun b => Mut (lab b)) h h5 := f3.trans (toM f5)
    have x5 := x3.grow f5
    cases hg : getV S'.l[j].v pa with
    | error f =>
      rw [hg] at hm hget
      have hm : w5 = .tuple #[.pointer none, .int .i64 f] := hm
      subst hm
      refine ⟨_, rfl, _, rfl, _, rfl, _, rfl, _, rfl, fun _ => (ke f h5 F5 x5 hget (getV_err _ _ _ hg)).2, fun e => absurd (by simpa using e) (getV_err _ _ _ hg)⟩
    | ok y =>
      rw [hg] at hm hget
      dsimp only at hm hget
      by_cases hwh : wholeV y = true
      · rw [if_pos hwh] at hm hget
        obtain ⟨p, rfl, hpl'⟩ := hm
        refine ⟨_, rfl, _, rfl, _, rfl, _, rfl, _, rfl, fun e => (by simp at e), fun _ => ?_⟩
        refine kk S' j y p h5 F5 x5 (by rw [hget]) ht hw hj hj2 rfl hl hg ?_
        -- the place at the later heap
        have hpl3 : Pl h5 ((⟨bs[j], 0, none⟩ : Addr).add 1) (natsOf pa) p := by
          clear hget
          have : ∀ (π : List Nat) (p0 : Addr), Pl h3 p0 π p → Pl h5 p0 π p := by
            intro π
            induction π with
            | nil => exact fun _ h => h
            | cons i π ih =>
              rintro p0 ⟨s, q, c, e, r⟩
              exact ⟨s, q, f5.clk c fun h => h, e, ih _ r⟩
          exact this _ _ hpl'
        rwa [add_plain] at hpl3
      · rw [if_neg hwh] at hm hget
        subst hm
        refine ⟨_, rfl, _, rfl, _, rfl, _, rfl, _, rfl, fun _ => (ke 3 h5 F5 x5 hget (by decide)).2, fun e => (by simp at e)⟩
theorem told_of_fresh {h0 : Heap} {y : Vl} {u : Vv} (hlab : ∀ b, h.size ≤ b → lab b = .no) (hs : h.size ≤ h0.size) {h' : Heap} (x : Fresh h0 h' y u) : Told lab h.size h' y u := by
  obtain ⟨lb, h1, h2⟩ := x
  refine h2.weak (fun b hb _ => .inr ⟨by omega, hlab b (by omega)⟩) (fun h => (by cases h)) fun σ b hb _ => ?_
  have : ¬ b < h0.size := fun hl => by rw [h1 b (.inl hl)] at hb; cases hb
  exact .inr ⟨by omega, hlab b (by omega)⟩
theorem read_spec (x : HpAt lab h hp S s bs) {al tg : Int} {sp : Sv} {pa : List Int} (hps : IntsC (fun b => ¬ Mut (lab b)) h sp pa) (hpl : pa.length ≤ 1000000) (hst : ∀ a ∈ S.l, a.st.length ≤ 1000000) :
    CallsH Try.prog 15 #[ptr hp, .agg (pvs al sp tg)] h (fun v h' => Fr (fun b => Mut (lab b)) h h' ∧ HpAt lab h' hp (useGet S al pa tg false).1 s bs ∧ match (useGet S al pa tg false).2 with
      | .error f => v = .tuple #[.agg (vvs zVv), .int .i64 f]
      | .ok y => ∃ u, v = .tuple #[.agg (vvs u), .int .i64 0] ∧ Told lab h.size h' y u) := by
  apply F15
  unfold L15
  refine newPt fun h1 k1 f1 z1 => newV (v := zVv) fun h2 k2 f2 z2 => ?_
  have K1 := f2.blk k1 fun h => h
  have g2 := f1.trans f2
  have x2 := x.grow g2
  refine rdPt K1 ?_
  have l1 : lab h.size = .no := x.out _ (Nat.le_refl _)
  have l2 : lab h1.size = .no := x.out _ (by omega)
  refine useGet_walk x2 (hps.fr g2 fun _ _ h => h) hpl hst K1 l1 (fun f h' f' x' e hf => ?_) (fun S' j y p h' f' x' e ht hw hj hj2 e2 hl hg hplc => ?_)
  · have K2 := f'.blk k2 (by rw [l2]; exact fun h => h.1 rfl)
    have fin : ∀ h4, blk h4 h1.size (vvs zVv) → Fr (fun i => i = h1.size) h' h4 → Fr (fun b => Mut (lab b)) h h4 ∧ HpAt lab h4 hp (useGet S al pa tg false).1 s bs := fun h4 b4 f4 =>
      ⟨((toM g2).trans f').trans' f4 (fun i hi e => (by have := f1.size; omega)), x'.fr f4 fun b hb => by rw [hb]; exact l2⟩
    rw [e]
    constructor
    · refine stoV (v := zVv) K2 rfl fun h4 b4 f4 => rd7 (Vv7.blk b4) ⟨(fin h4 b4 f4).1, (fin h4 b4 f4).2, rfl⟩
    · refine stoV (v := zVv) K2 rfl fun h4 b4 f4 => rd7 (Vv7.blk b4) ⟨(fin h4 b4 f4).1, (fin h4 b4 f4).2, rfl⟩
  · subst e2
    rw [e]
    obtain ⟨lb, hfew, v, u0, kb, hva, -⟩ := x'.bx j hj hj2
    obtain ⟨u, hu, hyu, -⟩ := hplc.at_ (bx7 kb) hva (getV_getN pa _ _ hg)
    refine ⟨p, rfl, rd7 hu ?_⟩
    refine cal_of (clone_spec y true _ _ u h' (getV_few pa _ _ hg hfew) hyu) ?_
    rintro _ h7 ⟨f7, u', rfl, hfr⟩
    refine ⟨_, _, _, u'.ps, _, u'.pa, _, rfl, ?_⟩
    have K2 := f7.blk (f'.blk k2 (by rw [l2]; exact fun h => h.1 rfl)) fun h => h
    refine stoV (v := u') K2 rfl fun h8 b8 f8 => rd7 (Vv7.blk b8) ?_
    have hs : h.size ≤ h'.size := by have := g2.size; have := f'.size; omega
    have h1s : h1.size < h'.size := by have := f'.size; omega
    have hf8 := hfr.fr f8 fun b hb => by omega
    refine ⟨((toM g2).trans f').trans' ((f7.mono fun _ _ h => h.elim).trans f8 : Fr (fun i => i = h1.size) h' h8) (fun i hi e => ?_), (x'.grow f7).fr f8 fun b hb => by rw [hb]; exact l2, u', rfl, told_of_fresh x.out hs hf8⟩
    have := f1.size
    omega
end
end Go.Proofs.Ytggacajnmgligaa

/-
  Memory of one's own; the guard.
-/
import Derived.Test.YtggacajnmgligaaH10
namespace Go.Proofs.Ytggacajnmgligaa
open Go Go.Lf
set_option linter.unusedVariables false

/-- memory that was made behind 'h0' -/
def Ses (h0 : Heap) (lab : Nat → Lb) (h : Heap) (hp : Nat) (S : Hs) : Prop := ∃ s bs, HpAt lab h hp S s bs ∧ Grow h0 h ∧ ∀ b, b < h0.size → lab b = .no
def Stp (lab : Nat → Lb) (h : Heap) (lab' : Nat → Lb) (h' : Heap) : Prop := Fr (fun b => Mut (lab b)) h h' ∧ ∀ b, b < h.size → ¬ Mut (lab b) → lab' b = lab b
/-- few rights, small numbers -/
def Few (S : Hs) : Prop := S.l.length ≤ 1000000 ∧ 0 ≤ S.tags ∧ S.tags ≤ 1000000 ∧ -1000000 ≤ S.live ∧ S.live ≤ 1000000 ∧ ∀ a ∈ S.l, a.st.length ≤ 1000000
/-- a pointer in a place of one's own -/
def PtAt (lab : Nat → Lb) (h : Heap) (b : Nat) (al : Int) (sp : Sv) (tg : Int) (pa : List Int) : Prop := blk h b (pvs al sp tg) ∧ lab b = .no ∧ IntsC (fun c => ¬ Mut (lab c)) h sp pa ∧ pa.length ≤ 1000000
section
variable {h0 h h' : Heap} {lab lab' : Nat → Lb} {hp : Nat} {S : Hs}
theorem Ses.grow (x : Ses h0 lab h hp S) (g : Grow h h') : Ses h0 lab h' hp S := by
  obtain ⟨s, bs, x, g0, l0⟩ := x
  exact ⟨s, bs, x.grow g, g0.trans g, l0⟩
theorem nomut {l : Lb} (h : l = .no) : ¬ Mut l := by rw [h]; exact fun h => h.1 rfl
theorem PtAt.grow {b : Nat} {al tg : Int} {sp : Sv} {pa : List Int} (x : PtAt lab h b al sp tg pa) (g : Grow h h') : PtAt lab h' b al sp tg pa := ⟨g.blk x.1 fun h => h, x.2.1, x.2.2.1.fr g fun _ _ h => h, x.2.2.2⟩
theorem PtAt.op {b : Nat} {al tg : Int} {sp : Sv} {pa : List Int} (x : PtAt lab h b al sp tg pa) (t : Stp lab h lab' h') : PtAt lab' h' b al sp tg pa := by
  obtain ⟨x1, x2, x3, x4⟩ := x
  have x3' : IntsC (fun c => ¬ Mut (lab c) ∧ c < h.size) h sp pa := x3.weak fun b hb hs => ⟨hb, hs⟩
  refine ⟨t.1.blk x1 (nomut x2), by rw [t.2 b x1.lt (nomut x2)]; exact x2, (x3'.fr t.1 fun b hb h => hb.1 h).weak fun b hb _ => ?_, x4⟩
  rw [t.2 b hb.2 hb.1]; exact hb.1
theorem Ses.no (x : Ses h0 lab h hp S) {b : Nat} (hb : h.size ≤ b) : lab b = .no := by
  obtain ⟨s, bs, x, _⟩ := x
  exact x.out b hb
theorem ses_of {s : Sv} {bs : List Nat} {S' : Hs} (x : Ses h0 lab h hp S) (f : Fr (fun b => Mut (lab b)) h h') (hl : ∀ b, b < h.size → lab b = .no → lab' b = .no) (x' : HpAt lab' h' hp S' s bs) : Ses h0 lab' h' hp S' := by
  obtain ⟨_, _, _, g0, l0⟩ := x
  refine ⟨s, bs, x', g0.trans' f fun i hi e => e.1 (l0 i hi), fun b hb => hl b ?_ (l0 b hb)⟩
  have := g0.size
  omega
theorem minePt {al tg : Int} {sp : Sv} {K : Addr → Heap → Prop} (k : ∀ h', blk h' h.size (pvs al sp tg) → Grow h h' → K ⟨h.size, 0, none⟩ h') : new 28 (pvs 0 ⟨none, 0, 0⟩ 0) h fun p h1 => stoA h1 p (pvs al sp tg).toList fun h2 => K p h2 :=
  newPt (al := 0) (sp := ⟨none, 0, 0⟩) (tg := 0) fun h1 b1 f1 z1 => stoPt b1 rfl fun h2 b2 f2 => k h2 b2 (f1.trans' f2 fun i hi e => by omega)
theorem num_spec (n : Int) : CallsH Try.prog 11 #[.int .u64 n] h (fun v h' => Grow h h' ∧ v = .agg (vvs ⟨2, n, ⟨#[]⟩, ⟨none, 0, 0⟩, 0, ⟨none, 0, 0⟩, 0⟩)) := by
  apply F11
  unfold L11
  exact mineV (v := ⟨2, n, ⟨#[]⟩, ⟨none, 0, 0⟩, 0, ⟨none, 0, 0⟩, 0⟩) fun h2 b2 f2 => rd7 (Vv7.blk b2) ⟨f2, rfl⟩
theorem num_at (o : Bool) (Q : Nat → Prop) (A : List Nat → Nat → Prop) (n : Int) : VAt o Q h (.mk 2 n ⟨#[]⟩ [] 0 [] 0) A ⟨2, n, ⟨#[]⟩, ⟨none, 0, 0⟩, 0, ⟨none, 0, 0⟩, 0⟩ :=
  vAt_iff.2 ⟨rfl, rfl, rfl, rfl, rfl, IntsC.nil _ _, rfl, fun j hj => absurd hj (Nat.not_lt_zero _)⟩
theorem new_ses (most : Int) (w : Bool) : CallsH Try.prog 8 #[.int .i64 most, .bool w] h (fun x h' => ∃ lab, x = ptr h.size ∧ Ses h lab h' h.size ⟨[], 0, 0, most, w⟩) := by
  refine CallsH.mono (new_spec (h := h) most w) ?_
  rintro v h1 ⟨g, rfl, x⟩
  refine ⟨_, rfl, _, _, x, g, fun b hb => ?_⟩
  show (if b = h.size then Lb.hp else .no) = .no
  rw [if_neg (by omega)]
theorem alloc_ses (x : Ses h0 lab h hp S) (hS : Few S) {t : Vl} {v : Vv} (hv : VAt false (fun b => ¬ Mut (lab b)) h t (anyA fun b => ¬ Mut (lab b)) v) (hf : few t) :
    CallsH Try.prog 10 #[ptr hp, .agg (vvs v)] h (fun r h' => ∃ lab', Stp lab h lab' h' ∧
      if S.live ≥ S.most then Ses h0 lab' h' hp S ∧ r = .tuple #[.agg (pvs 0 ⟨none, 0, 0⟩ 0), .bool false]
      else Ses h0 lab' h' hp (allocS S t) ∧ r = .tuple #[.agg (pvs S.l.length ⟨none, 0, 0⟩ (S.tags + 1)), .bool true]) := by
  obtain ⟨f1, f2, f3, f4, f5, f6⟩ := hS
  have x0 := x
  obtain ⟨s, bs, x, -⟩ := x
  refine CallsH.mono (alloc_spec x hv hf f1 f2 f3 f4 f5) ?_
  rintro r h' ⟨lab', s', bs', F, L, hm⟩
  refine ⟨lab', ⟨F, fun b hb _ => L b hb⟩, ?_⟩
  split at hm
  · rename_i hc
    rw [if_pos hc]
    exact ⟨ses_of x0 F (fun b hb e => by rw [L b hb]; exact e) hm.1, hm.2⟩
  · rename_i hc
    rw [if_neg hc]
    exact ⟨ses_of x0 F (fun b hb e => by rw [L b hb]; exact e) hm.1, hm.2⟩
theorem borrow_ses (x : Ses h0 lab h hp S) (hS : Few S) {al tg : Int} {sp : Sv} {pa : List Int} (hpt : IntsC (fun b => ¬ Mut (lab b)) h sp pa) (hpl : pa.length ≤ 1000000) (uq : Bool) :
    CallsH Try.prog 12 #[ptr hp, .agg (pvs al sp tg), .bool uq] h (fun v h' => ∃ lab', Stp lab h lab' h' ∧ Ses h0 lab' h' hp (borrowS S al pa tg uq).1 ∧ match (borrowS S al pa tg uq).2 with
      | .error f => v = .tuple #[.agg (pvs 0 ⟨none, 0, 0⟩ 0), .int .i64 f]
      | .ok tg' => ∃ so, v = .tuple #[.agg (pvs al so tg'), .int .i64 0] ∧ IntsC (Till lab' h.size) h' so pa) := by
  obtain ⟨f1, f2, f3, f4, f5, f6⟩ := hS
  have x0 := x
  obtain ⟨s, bs, x, -⟩ := x
  refine CallsH.mono (borrow_spec x hpt hpl f6 f2 f3 uq) ?_
  rintro r h' ⟨lab', F, L, x', hm⟩
  exact ⟨lab', ⟨F, fun b hb _ => L b hb⟩, ses_of x0 F (fun b hb e => by rw [L b hb]; exact e) x', hm⟩
theorem read_ses (x : Ses h0 lab h hp S) (hS : Few S) {al tg : Int} {sp : Sv} {pa : List Int} (hpt : IntsC (fun b => ¬ Mut (lab b)) h sp pa) (hpl : pa.length ≤ 1000000) :
    CallsH Try.prog 15 #[ptr hp, .agg (pvs al sp tg)] h (fun v h' => Stp lab h lab h' ∧ Ses h0 lab h' hp (useGet S al pa tg false).1 ∧ match (useGet S al pa tg false).2 with
      | .error f => v = .tuple #[.agg (vvs zVv), .int .i64 f]
      | .ok y => ∃ u, v = .tuple #[.agg (vvs u), .int .i64 0] ∧ Told lab h.size h' y u) := by
  obtain ⟨f1, f2, f3, f4, f5, f6⟩ := hS
  have x0 := x
  obtain ⟨s, bs, x, -⟩ := x
  refine CallsH.mono (read_spec x hpt hpl f6) ?_
  rintro r h' ⟨F, x', hm⟩
  exact ⟨⟨F, fun b hb _ => rfl⟩, ses_of x0 F (fun b hb e => e) x', hm⟩
theorem live_ses (x : Ses h0 lab h hp S) : CallsH Try.prog 13 #[ptr hp] h (fun v h' => h = h' ∧ v = .int .i64 S.live) := by
  obtain ⟨s, bs, x, -⟩ := x
  exact live_spec x
theorem till_nomut {n b : Nat} (h : Till lab n b) : ¬ Mut (lab b) := by
  rcases h with h | h
  · rw [h]; exact fun h => h.2 rfl
  · exact nomut h.2
end
end Go.Proofs.Ytggacajnmgligaa

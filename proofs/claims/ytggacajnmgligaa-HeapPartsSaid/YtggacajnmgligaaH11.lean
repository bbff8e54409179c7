/-
  What is let go.
-/
import Derived.Test.YtggacajnmgligaaW1
namespace Go.Proofs.Ytggacajnmgligaa
open Go Go.Lf
set_option linter.unusedVariables false

noncomputable def dropF (F : Hs → Int → Hs × Int) : Vl → Hs → Hs × Int := Vl.rec (motive_1 := fun _ => Hs → Hs × Int) (motive_2 := fun _ => Hs → Hs × Int)
  (fun k _ _ _ al _ _ ih S => if k = 6 then F S al else if k ≠ 5 then (S, 0) else ih S) (fun S => (S, 0)) (fun _ _ a b S => if (a S).2 ≠ 0 then a S else b (a S).1)
noncomputable def dropL (F : Hs → Int → Hs × Int) : List Vl → Hs → Hs × Int
  | [], S => (S, 0)
  | t :: ts, S => if (dropF F t S).2 ≠ 0 then dropF F t S else dropL F ts (dropF F t S).1
theorem drop_mk {F : Hs → Int → Hs × Int} {k n : Int} {nm : ByteArray} {ts : List Vl} {al : Int} {pa : List Int} {tg : Int} {S : Hs} : dropF F (.mk k n nm ts al pa tg) S = if k = 6 then F S al else if k ≠ 5 then (S, 0) else dropL F ts S := by
  have e : ∀ (ts : List Vl) (S : Hs), (Vl.rec_1 (motive_1 := fun _ => Hs → Hs × Int) (motive_2 := fun _ => Hs → Hs × Int)
      (fun k _ _ _ al _ _ ih S => if k = 6 then F S al else if k ≠ 5 then (S, 0) else ih S) (fun S => (S, 0)) (fun _ _ a b S => if (a S).2 ≠ 0 then a S else b (a S).1) ts : Hs → Hs × Int) S = dropL F ts S := by
    intro ts
    induction ts with
    | nil => intro S; rfl
    | cons a ts ih =>
      intro S
      rw [dropL, ← ih]
      rfl
  rw [← e]
  rfl
noncomputable def freeS : Nat → Hs → Int → Hs × Int
  | 0, S, _ => (S, 1)
  | n + 1, S, i => match atS S i with
    | none => (S, 1)
    | some a => dropF (freeS n) a.v { S with live := S.live - 1, l := S.l.set i.toNat ⟨false, zVl, []⟩ }
def liveN (S : Hs) : Nat := S.l.countP (fun a => a.live)
def OkL (S : Hs) : Prop := (liveN S : Int) ≤ S.live + 1000000 ∧ S.live ≤ 1000000
section
variable {lab lab' lab2 : Nat → Lb} {h0 h h' h2 : Heap} {T : Nat → Prop} {hp : Nat} {S : Hs} {s : Sv} {bs : List Nat}
theorem Stp.refl (lab : Nat → Lb) (h : Heap) : Stp lab h lab h := ⟨Fr.refl _ _, fun _ _ _ => rfl⟩
theorem Stp.ofGrow (g : Grow h h') : Stp lab h lab h' := ⟨toM g, fun _ _ _ => rfl⟩
theorem Stp.trans (t : Stp lab h lab' h') (t2 : Stp lab' h' lab2 h2) : Stp lab h lab2 h2 := by
  refine ⟨t.1.trans' t2.1 fun i hi e => Classical.byContradiction fun hn => ?_, fun b hb hn => ?_⟩
  · rw [t.2 i hi hn] at e; exact hn e
  · have := t.2 b hb hn
    rw [t2.2 b (Nat.lt_of_lt_of_le hb t.1.size) (by rw [this]; exact hn), this]
/-- a value in blocks that nobody writes -/
def Calm (lab : Nat → Lb) (h : Heap) (t : Vl) (u : Vv) : Prop := VAt false (fun b => ¬ Mut (lab b)) h t (anyA fun b => ¬ Mut (lab b)) u
theorem Calm.op {t : Vl} {u : Vv} (x : Calm lab h t u) (st : Stp lab h lab' h') : Calm lab' h' t u := by
  have x' : VAt false (fun b => ¬ Mut (lab b) ∧ b < h.size) h t (anyA fun b => ¬ Mut (lab b) ∧ b < h.size) u := x.weak (fun b hb hs => ⟨hb, hs⟩) (fun h => h) fun σ b hb hs => ⟨hb, hs⟩
  refine (x'.fr st.1 (fun b hb h => hb.1 h) fun σ b hb h => hb.1 h).weak (fun b hb _ => ?_) (fun h => h) fun σ b hb _ => ?_
  · rw [st.2 b hb.2 hb.1]; exact hb.1
  · show ¬ Mut (lab' b)
    rw [st.2 b hb.2 hb.1]; exact hb.1
theorem Calm.grow {t : Vl} {u : Vv} (x : Calm lab h t u) (g : Grow h h') : Calm lab h' t u := VAt.grow x g
/-- one allocation and the head -/
theorem HpAt.set2 (x : HpAt lab h hp S s bs) {i : Nat} {a' : Al} {tags live : Int} (f : Fr T h h') (hT : ∀ b, T b → b < h.size → b = hp ∨ Fam i (lab b) ∨ lab b = .no) (hl : ∀ b, b < h.size → ¬ Fam i (lab b) → lab' b = lab b)
    (k : blk h' hp (hps s tags live S.most S.watch)) (hi : i < bs.length) (nb : BxAt lab' h' i bs[i] a') (hn : ∀ b, h'.size ≤ b → lab' b = .no) : HpAt lab' h' hp { S with tags := tags, live := live, l := S.l.set i a' } s bs := by
  have hnT : ∀ b, b < h.size → lab b ≠ .hp → ¬ Fam i (lab b) → lab b ≠ .no → ¬ T b := fun b hb h0 h1 h2 ht => (hT b ht hb).elim (fun e => h0 (by rw [e]; exact x.lhp)) fun h => h.elim h1 h2
  have n1 : ¬ Fam i (lab hp) := by rw [x.lhp]; rintro (h | h | ⟨σ, h⟩) <;> cases h
  have n2 : ∀ b, s.own b → ¬ Fam i (lab b) := fun b hb => by rw [x.lal b hb]; rintro (h | h | ⟨σ, h⟩) <;> cases h
  refine ⟨k, by rw [hl _ x.hd.lt n1]; exact x.lhp, by simpa using x.len, x.al.frame f fun b hb => hnT b (x.al.ge hb).2 (by rw [x.lal b hb]; exact Lb.noConfusion) (n2 b hb) (by rw [x.lal b hb]; exact Lb.noConfusion),
    fun b hb => by rw [hl b (x.al.ge hb).2 (n2 b hb)]; exact x.lal b hb, fun j h1 h2 => ?_, hn⟩
  by_cases hj : i = j
  · subst hj
    simp only [List.getElem_set_self]
    exact nb
  · simp only [List.getElem_set_ne hj]
    have h2' : j < S.l.length := by simpa using h2
    have hfam : ∀ c, Fam j (lab c) ∨ lab c = .q → lab c ≠ .hp ∧ ¬ Fam i (lab c) ∧ lab c ≠ .no := by
      intro c hc
      rcases hc with (hc | hc | ⟨σ, hc⟩) | hc <;> rw [hc] <;> refine ⟨Lb.noConfusion, ?_, Lb.noConfusion⟩ <;> rintro (h | h | ⟨σ', h⟩) <;> cases h <;> exact hj rfl
    have hb := x.bx j h1 h2'
    have hsz : ∀ c, Fam j (lab c) ∨ lab c = .q → c < h.size := fun c hc => by
      rcases Nat.lt_or_ge c h.size with h | h
      · exact h
      · have := x.out c h
        rw [this] at hc
        rcases hc with (hc | hc | ⟨σ, hc⟩) | hc <;> cases hc
    exact hb.to f (fun c hc => hnT c (hsz c hc) (hfam c hc).1 (hfam c hc).2.1 (hfam c hc).2.2) fun c h1 hc => hl c h1 (hfam c hc).2.1
theorem fold9 (x1 x2 x3 x4 x5 x6 x7 y0 y1 y2 y3 y4 y5 y6 y7 y8 : Value) : ([x1, x2, x3, x4, x5, x6, x7].zipIdx 1).foldl (fun (c : Array Value) p => c.setIfInBounds p.2 p.1) #[y0, y1, y2, y3, y4, y5, y6, y7, y8] = #[y0, x1, x2, x3, x4, x5, x6, x7, y8] := by
  simp [List.zipIdx, Array.setIfInBounds]
/-- the value of a box written -/
theorem stoBx {b : Nat} {l : Bool} {v v' : Vv} {u : Sv} {K : Heap → Prop} (kk : blk h b (bxs l v u)) (k : ∀ h', blk h' b (bxs l v' u) → Fr (fun i => i = b) h h' → K h') : stoA h ⟨b, 1, none⟩ (vvs v').toList K := by
  refine ⟨one_vv v', fun j hj => ?_, ?_⟩
  · clear k
    rw [add_plain, kk.cl, kk.fz]
    have hj' : j < 7 := hj
    have : 1 + j < (bxs l v u).size := by show 1 + j < 9; omega
    rw [Array.getElem?_eq_getElem this]
    exact ⟨rfl, rfl⟩
  · intro h' hh
    have hs := scs_blk b (vvs v').toList h (bxs l v u) 1 0 kk
    have e := fold9 (.int .i64 v'.k) (.int .u64 v'.n) (.string v'.nm) (.slice v'.ps.a v'.ps.n v'.ps.c) (.int .i64 v'.al) (.slice v'.pa.a v'.pa.n v'.pa.c) (.int .i64 v'.tg) (.bool l) (.int .i64 v.k) (.int .u64 v.n) (.string v.nm) (.slice v.ps.a v.ps.n v.ps.c) (.int .i64 v.al) (.slice v.pa.a v.pa.n v.pa.c) (.int .i64 v.tg) (.slice u.a u.n u.c)
    have e' : ((vvs v').toList.zipIdx 1).foldl (fun (c : Array Value) p => c.setIfInBounds p.2 p.1) (bxs l v u) = bxs l v' u := e
    rw [Nat.add_zero, e', ← hh] at hs
    exact k h' hs.1 hs.2
def FreeOk (n : Nat) : Prop := ∀ h0 lab h hp S i, Ses h0 lab h hp S → liveN S ≤ n → OkL S → CallsH Try.prog 14 #[ptr hp, .int .i64 i] h (fun v h' => ∃ lab', Stp lab h lab' h' ∧ Ses h0 lab' h' hp (freeS n S i).1 ∧ v = .int .i64 (freeS n S i).2 ∧ liveN (freeS n S i).1 ≤ liveN S ∧ OkL (freeS n S i).1)
theorem drop_spec {n : Nat} (hF : FreeOk n) (t : Vl) : ∀ (h0 : Heap) (lab : Nat → Lb) (h : Heap) (hp : Nat) (S : Hs) (u : Vv), Ses h0 lab h hp S → liveN S ≤ n → OkL S → few t → Calm lab h t u →
    CallsH Try.prog 25 #[ptr hp, .agg (vvs u)] h (fun v h' => ∃ lab', Stp lab h lab' h' ∧ Ses h0 lab' h' hp (dropF (freeS n) t S).1 ∧ v = .int .i64 (dropF (freeS n) t S).2 ∧ liveN (dropF (freeS n) t S).1 ≤ liveN S ∧ OkL (dropF (freeS n) t S).1) := by
  refine Vl.ind (P := fun t => ∀ (h0 : Heap) (lab : Nat → Lb) (h : Heap) (hp : Nat) (S : Hs) (u : Vv), Ses h0 lab h hp S → liveN S ≤ n → OkL S → few t → Calm lab h t u →
    CallsH Try.prog 25 #[ptr hp, .agg (vvs u)] h (fun v h' => ∃ lab', Stp lab h lab' h' ∧ Ses h0 lab' h' hp (dropF (freeS n) t S).1 ∧ v = .int .i64 (dropF (freeS n) t S).2 ∧ liveN (dropF (freeS n) t S).1 ≤ liveN S ∧ OkL (dropF (freeS n) t S).1)) ?_ t
  intro k nn nm ts al pa tg ih h0 lab h hp S u x hn hO hfew hu
  obtain ⟨hf1, hf2, hf3⟩ := few_mk.1 hfew
  obtain ⟨e1, e2, e3, e4, e5, e6, e7, e8⟩ := vAt_iff.1 hu
  rw [drop_mk]
  apply F25
  unfold L25
  refine newV (v := u) fun h1 k1 f1 z1 => ?_
  have x1 := x.grow f1
  have st1 : Stp lab h lab h1 := Stp.ofGrow f1
  refine ldI_i (x := u.k) (by rw [k1.cl]; rfl) ?_
  rw [e1]
  refine ifb_iff (q := k = 6) (by simp) (fun hk => ?_) (fun hk => ?_)
  · rw [if_pos hk]
    refine ldI_i (x := al) (by rw [add_plain, k1.cl, ← e4]; rfl) ?_
    refine cal_of (hF h0 lab h1 hp S al x1 hn hO) ?_
    rintro _ h2 ⟨lab', st, x', rfl, hl, hO'⟩
    exact ⟨_, rfl, lab', st1.trans st, x', rfl, hl, hO'⟩
  rw [if_neg hk]
  refine ldI_i (x := u.k) (by rw [k1.cl]; rfl) ?_
  rw [e1]
  refine ifb_iff (q := k ≠ 5) (by simp) (fun hk5 => ?_) (fun hk5 => ?_)
  · rw [if_pos hk5]
    exact ⟨lab, st1, x1, rfl, Nat.le_refl _, hO⟩
  rw [if_neg hk5]
  refine ldS_i (s := u.ps) (by rw [add_plain, k1.cl]; rfl) ?_
  refine ⟨fun i h' => ∃ (j : Nat) (lab' : Nat → Lb) (Sj : Hs), i = j ∧ j ≤ ts.length ∧ Stp lab h lab' h' ∧ Ses h0 lab' h' hp Sj ∧ dropL (freeS n) ts S = dropL (freeS n) (ts.drop j) Sj ∧ liveN Sj ≤ liveN S ∧ OkL Sj, fun i _ => ts.length - i.toNat, ⟨0, lab, S, rfl, Nat.zero_le _, st1, x1, rfl, Nat.le_refl _, hO⟩, ?_⟩
  rintro _ h3 ⟨j, lab3, Sj, rfl, hj, st3, x3, hd, hl3, hO3⟩
  refine ifb_iff (q := j < ts.length) (by rw [e7]; simp) (fun hlt => ?_) (fun hge => ?_)
  rotate_left
  · obtain rfl : j = ts.length := by omega
    rw [List.drop_length] at hd
    rw [hd]
    exact ⟨lab3, st3, x3, rfl, hl3, hO3⟩
  have hu3 := Calm.op hu st3
  obtain ⟨-, -, -, -, -, -, -, e8'⟩ := vAt_iff.1 hu3
  obtain ⟨p, w, q1, q2, q3, q4, q5⟩ := e8' j hlt
  refine ⟨p, q1, by omega, by rw [e7]; omega, ?_⟩
  rw [Int.toNat_natCast]
  refine rd7 q4 ?_
  refine mineV (v := w) fun h5 k5 g5 => ?_
  refine rd7 (Vv7.blk k5) ?_
  have q5' : Calm lab3 h5 ts[j] w := VAt.grow q5 g5
  refine cal_of (ih ts[j] (List.getElem_mem hlt) h0 lab3 h5 hp Sj w (x3.grow g5) (by omega) hO3 (hf3 _ (List.getElem_mem hlt)) q5') ?_
  rintro _ h6 ⟨lab6, st6, x6, rfl, hl6, hO6⟩
  have st : Stp lab h lab6 h6 := (st3.trans (Stp.ofGrow g5)).trans st6
  rw [List.drop_eq_getElem_cons hlt, dropL] at hd
  refine ⟨_, rfl, fun e => ?_, fun e => ?_⟩
  · have e' : (dropF (freeS n) ts[j] Sj).2 ≠ 0 := by simpa using e
    rw [if_pos e'] at hd
    rw [hd]
    exact ⟨lab6, st, x6, rfl, by omega, hO6⟩
  · have e' : ¬ (dropF (freeS n) ts[j] Sj).2 ≠ 0 := by simpa using e
    rw [if_neg e'] at hd
    rw [wrap_succ hlt (by omega)]
    exact ⟨⟨j + 1, lab6, _, rfl, hlt, st, x6, hd, by omega, hO6⟩, by dsimp only; omega⟩
end
end Go.Proofs.Ytggacajnmgligaa

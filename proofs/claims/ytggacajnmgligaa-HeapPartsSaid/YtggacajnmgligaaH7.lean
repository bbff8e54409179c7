/-
  A use, joined.
-/
import Derived.Test.YtggacajnmgligaaH6
namespace Go.Proofs.Ytggacajnmgligaa
open Go Go.Lf
set_option linter.unusedVariables false

section
variable {lab : Nat → Lb} {h : Heap} {hp : Nat} {S : Hs} {s : Sv} {bs : List Nat}
theorem newPt {al tg : Int} {sp : Sv} {K : Addr → Heap → Prop} (k : ∀ h', blk h' h.size (pvs al sp tg) → Grow h h' → h'.size = h.size + 1 → K ⟨h.size, 0, none⟩ h') : new 28 (pvs al sp tg) h K := by
  rintro p h' rfl rfl
  exact k _ (blk.new _ _ _) (Fr.push _ _ _) (by simp)
theorem stoPt {b : Nat} {cs : Array Value} {al tg : Int} {sp : Sv} {K : Heap → Prop} (kk : blk h b cs) (hs : cs.size = 3) (k : ∀ h', blk h' b (pvs al sp tg) → Fr (fun i => i = b) h h' → K h') : stoA h ⟨b, 0, none⟩ (pvs al sp tg).toList K :=
  stoA_i kk (by rw [hs]; rfl) (one_pv al sp tg) k
theorem rdPt {b : Nat} {al tg : Int} {sp : Sv} {K : Int → Sv → Int → Prop} (k : blk h b (pvs al sp tg)) (kk : K al sp tg) :
    ∃ (y : Int) (y1 : Sv) (y2 : Int), cl h ⟨b, 0, none⟩ = some (.int .i64 y) ∧ cl h ((⟨b, 0, none⟩ : Addr).add 1) = some (.slice y1.a y1.n y1.c) ∧ cl h ((⟨b, 0, none⟩ : Addr).add 2) = some (.int .i64 y2) ∧ K y y1 y2 :=
  ⟨al, sp, tg, by rw [k.cl]; rfl, by rw [add_plain, k.cl]; rfl, by rw [add_plain, k.cl]; rfl, kk⟩
theorem sc_out {T : Nat → Prop} {h h' : Heap} (f : Fr T h h') {p : Addr} (ht : T p.block) (v : Value) : Fr T h (sc h' p v) := f.trans (Fr.sc _ ht v)
theorem use_spec (x : HpAt lab h hp S s bs) {al tg : Int} {sp : Sv} {pa : List Int} (hps : IntsC (fun b => ¬ Mut (lab b)) h sp pa) (hpl : pa.length ≤ 1000000) (hst : ∀ a ∈ S.l, a.st.length ≤ 1000000) (w : Bool) :
    CallsH Try.prog 28 #[ptr hp, .agg (pvs al sp tg), .bool w] h (fun v h' => Fr (fun b => Mut (lab b)) h h' ∧ match useS S al pa tg w with
      | .error f => HpAt lab h' hp S s bs ∧ v = .tuple #[.pointer none, .int .i64 f] ∧ f ≠ 0
      | .ok S' => HpAt lab h' hp S' s bs ∧ ∃ (j : Nat) (h1 : j < bs.length), al = j ∧ v = .tuple #[ptr bs[j], .int .i64 0]) := by
  apply F28
  unfold L28
  refine newPt fun h1 k1 f1 z1 => ?_
  refine ldI_i (x := al) (by rw [k1.cl]; rfl) ?_
  have x1 := x.grow f1
  refine cal_of (at_spec x1 al) ?_
  rintro v _ ⟨rfl, hv⟩
  have toM : ∀ {a b : Heap}, Grow a b → Fr (fun b => Mut (lab b)) a b := fun g => g.mono fun _ _ h => h.elim
  rcases hv with ⟨hno, rfl⟩ | ⟨j, hj, hj2, rfl, hlive, rfl⟩
  · refine ⟨_, rfl, fun _ => ?_, fun e => (by cases e)⟩
    unfold useS
    rw [atS_not hno]
    exact ⟨toM f1, x1, rfl, by decide⟩
  refine ⟨_, rfl, fun e => (by cases e), fun _ => ⟨_, rfl, S.watch, by rw [add_plain, x1.hd.cl]; rfl, fun e => ?_, fun e => ?_⟩⟩
  · have hw : S.watch = false := by simpa using e
    unfold useS
    rw [atS_of hj2 hlive]
    dsimp only
    rw [if_pos hw]
    exact ⟨toM f1, x1, j, hj, rfl, rfl⟩
  have hw : ¬ S.watch = false := by simpa using e
  have hus : useS S (j : Int) pa tg w = match useAl S.l[j] pa tg w with | none => .error 2 | some a' => .ok { S with l := S.l.set j a' } := by
    unfold useS
    rw [atS_of hj2 hlive]
    dsimp only
    rw [if_neg hw, Int.toNat_natCast]
    rfl
  rw [hus]
  obtain ⟨lb, hfew, v, u, kb, hva, zs, ezs, o, lo, hz⟩ := x1.bx j hj hj2
  have hzl : zs.length = S.l[j].st.length := by rw [← ezs, List.length_map]
  have hzb : zs.length ≤ 1000000 := by rw [hzl]; exact hst _ (List.getElem_mem hj2)
  have hun : u.n = zs.length := by have := o.len; rw [c3_len] at this; simp at this; omega
  refine ⟨_, rfl, ldS_i (s := u) (by rw [add_plain, kb.cl]; rfl) ?_⟩
  refine cal_of (idx_spec (b4 := h.size) (al := j) (tg := tg) (sp := sp) o (fun z hz' => (hz z hz').1) hzb k1) ?_
  rintro _ h3 ⟨f3, rfl⟩
  refine ⟨_, rfl, ?_⟩
  have x3 := x1.grow f3
  have k3 := f3.blk k1 fun h => h
  have kb3 := f3.blk kb fun h => h
  have o3 := o.frame f3 fun _ _ h => h
  rw [ezs]
  have hual : useAl S.l[j] pa tg w = match S.l[j].st.findIdx? (fun x => x.tg == tg) with
      | none => none
      | some k => match S.l[j].st[k]? with
        | none => none
        | some x => if begB x.pa pa = false ∨ (w = true ∧ x.uq = false) then none else some { S.l[j] with st := S.l[j].st.take (k + 1) ++ (S.l[j].st.drop (k + 1)).filter (keepB pa w) } := rfl
  rw [hual]
  cases hf : S.l[j].st.findIdx? (fun x => x.tg == tg) with
  | none =>
    dsimp only
    refine ⟨fun b h' => b = true ∧ h' = h3, ⟨fun _ => ⟨fun _ => ⟨rfl, rfl⟩, fun e => (by cases e)⟩, fun e => (by simp at e)⟩, ?_⟩
    rintro _ _ ⟨rfl, rfl⟩
    exact ⟨fun _ => ⟨toM (f1.trans f3), x3, rfl, by decide⟩, fun e => (by cases e)⟩
  | some k =>
    have hk : k < zs.length := by
      have := (List.findIdx?_eq_some_iff_getElem.1 hf).1
      omega
    have hk2 : k < S.l[j].st.length := by omega
    dsimp only
    rw [List.getElem?_eq_getElem hk2]
    dsimp only
    have hzk : zs[k].2 = S.l[j].st[k] := by
      have : (zs.map (·.2))[k]'(by simpa using hk) = S.l[j].st[k] := by simp only [ezs]
      simpa using this
    obtain ⟨r0, r1, r2, r3⟩ := hz _ (List.getElem_mem hk)
    rw [hzk] at r1 r2 r3
    -- its cells
    obtain ⟨g, cur, hu, k0, hnc, hcs, ht⟩ : ∃ g cur, u.a = some ⟨g, 0, none⟩ ∧ blk h3 g cur ∧ u.n ≤ u.c ∧ cur.size = u.c * 3 ∧ cur.toList.take (u.n * 3) = c3 (zs.map (·.1)) := by
      rcases o3.mem with ⟨_, e, _⟩ | ⟨g, cur, e, _, r⟩
      · omega
      · exact ⟨g, cur, e, r⟩
    have hlg : lab g = .st j := lo g ⟨_, hu, rfl⟩
    have hcell : ∀ q, q < 3 → cl h3 (((⟨g, 0, none⟩ : Addr).add (k * 3)).add q) = (hvs zs[k].1)[q]? := fun q hq => by
      have c := c3_get (zs.map (·.1)) k (by simpa using hk) q hq
      rw [List.getElem_map] at c
      rw [add_plain, add_plain, k0.cl, ← c, ← ht, List.getElem?_take, if_pos (by omega), Array.getElem?_toList, Nat.zero_add]
    have hsl : ∀ b : Nat, cl h3 ((⟨bs[j], 0, none⟩ : Addr).add 8) = some (.slice u.a u.n u.c) := fun _ => by rw [add_plain, kb3.cl]; rfl
    have hps3 : IntsC (fun b => ¬ Mut (lab b)) h3 sp pa := (hps.fr f1 fun _ _ h => h).fr f3 fun _ _ h => h
    have r23 := r2.fr f3 fun _ _ h => h
    refine ⟨fun b h' => b = decide (begB S.l[j].st[k].pa pa = false ∨ (w = true ∧ S.l[j].st[k].uq = false)) ∧ h' = h3, ⟨fun e => ?_, fun _ => ?_⟩, ?_⟩
    · simp at e
      omega
    · refine ⟨_, rfl, ldS_i (s := u) (hsl 0) ⟨_, hu, by omega, by omega, ?_⟩⟩
      rw [Int.toNat_natCast]
      refine ldS_i (s := zs[k].1.s) (hcell 1 (by omega)) (ldS_i (s := sp) (by rw [add_plain, k3.cl]; rfl) ?_)
      refine cal_of (begins_spec (PAt.ofC r23 r3) (PAt.ofC hps3 hpl)) ?_
      rintro _ _ ⟨rfl, rfl⟩
      refine ⟨_, rfl, fun e => ?_, fun e => ⟨fun ew => ?_, fun ew => ?_⟩⟩
      · have e' : begB S.l[j].st[k].pa pa = false := by simpa using e
        exact ⟨(decide_eq_true (p := begB S.l[j].st[k].pa pa = false ∨ (w = true ∧ S.l[j].st[k].uq = false)) (.inl e')).symm, rfl⟩
      · have e' : begB S.l[j].st[k].pa pa = true := by simpa using e
        refine ⟨_, rfl, ldS_i (s := u) (hsl 0) ⟨_, hu, by omega, by omega, zs[k].1.uq, ?_, ?_, rfl⟩⟩
        · exact hcell 2 (by omega)
        · rw [r1]
          cases S.l[j].st[k].uq <;> simp [e', ew]
      · have e' : begB S.l[j].st[k].pa pa = true := by simpa using e
        exact ⟨by simp [e', ew], rfl⟩
    rintro b h5 ⟨hb, hh5⟩
    replace hh5 := hh5.symm
    subst hh5
    refine ifb_iff (q := begB S.l[j].st[k].pa pa = false ∨ (w = true ∧ S.l[j].st[k].uq = false)) (by rw [hb]; exact decide_eq_true_iff) (fun hbad => ?_) (fun hok => ?_)
    · rw [if_pos hbad]
      exact ⟨toM (f1.trans f3), x3, rfl, by decide⟩
    rw [if_neg hok]
    have hkw : IntKind.i64.wrap ((k : Int) + 1) = ((k + 1 : Nat) : Int) := wrap_succ hk (by omega)
    rw [hkw]
    refine ⟨_, rfl, ldS_i (s := u) (hsl 0) (slS_head (by omega) ⟨_, rfl, ldS_i (s := u) (hsl 0) ⟨by omega, by omega, by omega, ?_⟩⟩)⟩
    intro s74 e1 e2 e3
    simp only [Int.toNat_natCast] at e1 e2 e3
    have hsz3 : h.size ≠ g := by
      intro e
      have := x.out g (by omega)
      rw [hlg] at this; cases this
    refine filt_spec (lab := lab) (tg := tg) (al := j) hu k0 hcs hun hnc ht (by omega) hzb k3 hsz3 (fun z hzm => ?_) (by rw [hlg]; exact Lb.noConfusion) ⟨⟨hps3.len, fun i hi => ?_⟩, hps3.cap⟩ hpl e1 e2 ?_
    · obtain ⟨q0, q1, q2, q3⟩ := hz z hzm
      exact ⟨q1, q2.fr f3 fun _ _ h => h, q3⟩
    · obtain ⟨p, a1, a2, a3⟩ := hps3.at_ i hi
      refine ⟨p, a1, fun e => a2 ?_, a3⟩
      rw [e, hlg]
      exact ⟨Lb.noConfusion, Lb.noConfusion⟩
    intro h6 s6 f6 ea o6
    have hgb : bs[j] ≠ g := by
      intro e
      rw [e, hlg] at lb; cases lb
    have kb6 := f6.blk kb3 hgb
    refine ⟨_, rfl, ?_⟩
    dsimp only
    rw [add_plain]
    refine sto_i kb6 (by simp) ?_
    have kb7 := kb6.sc (0 + 8) (.slice s6.a s6.n s6.c)
    have f7 : Fr (fun b => b = g ∨ b = bs[j]) h3 (sc h6 ⟨bs[j], 0 + 8, none⟩ (.slice s6.a s6.n s6.c)) := (f6.mono fun _ _ e => .inl e).trans (Fr.sc _ (.inr rfl) _)
    have f7' : Fr (fun b => b = bs[j]) h6 (sc h6 ⟨bs[j], 0 + 8, none⟩ (.slice s6.a s6.n s6.c)) := Fr.scb _ _ _ _
    generalize sc h6 ⟨bs[j], 0 + 8, none⟩ (.slice s6.a s6.n s6.c) = h7 at *
    have hmut : ∀ b, (b = g ∨ b = bs[j]) → Mut (lab b) := by
      rintro b (rfl | rfl)
      · rw [hlg]; exact ⟨Lb.noConfusion, Lb.noConfusion⟩
      · rw [lb]; exact ⟨Lb.noConfusion, Lb.noConfusion⟩
    refine ⟨((toM f1).trans (toM f3)).trans (f7.mono fun b _ hb => hmut b hb), ?_, j, hj, rfl, rfl⟩
    refine x3.set (lab' := lab) f7 (fun b hb _ => .inl ?_) (fun _ _ _ => rfl) hj ⟨lb, hfew, v, s6, kb7, ?_, zs.take (k + 1) ++ (zs.drop (k + 1)).filter (fun z => keepB pa w z.2), ?_, o6.frame f7' (fun b hb e => ?_), fun b hb => ?_, fun z hzm => ?_⟩ (fun b hb => x.out b ?_)
    · rcases hb with rfl | rfl
      · exact .inr (.inl hlg)
      · exact .inl lb
    · refine vTo (hva.grow f3) f7 (fun b hb e => ?_) fun _ _ _ => rfl
      rcases e with rfl | rfl
      · rw [hlg] at hb
        rcases hb with ⟨σ, hb⟩ | hb <;> cases hb
      · rw [lb] at hb
        rcases hb with ⟨σ, hb⟩ | hb <;> cases hb
    · rw [List.map_append, List.map_take, ezs]
      congr 1
      rw [← ezs, ← List.map_drop, List.filter_map]
      rfl
    · obtain ⟨a, a1, a2⟩ := hb
      rw [ea, hu] at a1
      simp only [Option.some.injEq] at a1
      subst a1
      exact hgb (e.symm.trans a2.symm)
    · obtain ⟨a, a1, a2⟩ := hb
      exact lo b ⟨a, by rw [← ea]; exact a1, a2⟩
    · have hzm' : z ∈ zs := by
        rcases List.mem_append.1 hzm with hm | hm
        · exact List.mem_of_mem_take hm
        · exact List.mem_of_mem_drop (List.mem_filter.1 hm).1
      obtain ⟨q0, q1, q2, q3⟩ := hz z hzm'
      refine ⟨q0, q1, (q2.fr f3 fun _ _ h => h).fr f7 fun b hb e => ?_, q3⟩
      have := (hmut b e).2
      exact this hb
    · have := f1.size
      have := f3.size
      have := f7.size
      omega
end
end Go.Proofs.Ytggacajnmgligaa

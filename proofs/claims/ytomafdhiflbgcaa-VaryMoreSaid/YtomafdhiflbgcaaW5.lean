/-
  VaryMore walked.
-/
import Derived.Test.YtomafdhiflbgcaaW4
namespace Go.Proofs.Ytomafdhiflbgcaa
open Go Go.Lf
set_option linter.unusedVariables false

def moreDs (ds : List Df) (k : Nat) (t : Ty) : List Df := match ds[k]? with
  | some d => ds.set k { d with flds := d.flds ++ [t] }
  | none => ds
theorem more_dle (t : Ty) : ∀ (ds : List Df) (k : Nat), DLE ds (moreDs ds k t)
  | [], k => by simp [moreDs]; exact .nil
  | ⟨nm, lf, tys, fl⟩ :: ds, 0 => .cons (DLE.refl ds)
  | ⟨nm, lf, tys, fl⟩ :: ds, k + 1 => by
    have ih := more_dle t ds k
    have e : moreDs (⟨nm, lf, tys, fl⟩ :: ds) (k + 1) t = ⟨nm, lf, tys, fl⟩ :: moreDs ds k t := by
      unfold moreDs
      simp only [List.getElem?_cons_succ]
      cases ds[k]? <;> rfl
    rw [e]
    have := DLE.cons (nm := nm) (lf := lf) (tys := tys) (fl := fl) (e := []) ih
    rwa [List.append_nil] at this
theorem more_sm {t : Ty} (ht : small 100 t = true) {ds : List Df} {k : Nat} (hd : ∀ d ∈ ds, SmD d) (hf : ∀ d ∈ ds, d.flds.length ≤ 999) : ∀ d ∈ moreDs ds k t, SmD d := by
  unfold moreDs
  cases hk : ds[k]? with
  | none => exact hd
  | some d0 =>
    intro d hm
    have hm0 : d0 ∈ ds := List.mem_of_getElem? hk
    rcases List.mem_or_eq_of_mem_set hm with h | rfl
    · exact hd d h
    · obtain ⟨a, b, c, e, f⟩ := hd d0 hm0
      refine ⟨a, b, c, ?_, fun u hu => ?_⟩
      · have := hf d0 hm0
        simp; omega
      · rcases List.mem_append.1 hu with h | h
        · exact f u h
        · obtain rfl : u = t := by simpa using h
          exact ht
/-- the copy reads as the structs with a field more -/
theorem more_at {Q Q' : Nat → Prop} {h : Heap} {B : Nat} {s41 s53 : Sv} {vs : List Dv} {ds : List Df} {k B9 : Nat} {us : List Tv} {v : Tv} {t : Ty} (hl : vs.length = ds.length) (hk : k < ds.length) (hkv : k < vs.length)
    (o41 : Own h B 4 s41 (c4 (vs.set k { vs[k] with fs := s53 }))) (hd : ∀ i (h1 : i < vs.length) (h2 : i < ds.length), DfAt Q h vs[i] ds[i]) (o53 : Own h B9 6 s53 (c6 (us ++ [v]))) (hus : us.length = ds[k].flds.length)
    (hu : ∀ i (h1 : i < us.length) (h2 : i < ds[k].flds.length), TyAt Q h ds[k].flds[i] us[i]) (ht : TyAt Q h t v) (hq : ∀ b, Q b → b < h.size → Q' b) (hq2 : ∀ b, b < h.size → Q' b) : DsAt Q' h s41 (moreDs ds k t) := by
  have hn : s41.n = ds.length := by have := o41.len; rw [c4_len] at this; simp at this; omega
  have em : moreDs ds k t = ds.set k { ds[k] with flds := ds[k].flds ++ [t] } := by unfold moreDs; rw [List.getElem?_eq_getElem hk]
  rw [em]
  refine ⟨by simp [hn], fun i hi => ?_⟩
  have hi' : i < ds.length := by simpa using hi
  obtain ⟨p, ea, hown, D⟩ := own4 o41 (i := i) (by simp; omega)
  have hpb := (o41.ge hown).2
  refine ⟨p, _, ea, hq2 _ hpb, D, ?_⟩
  have dweak : ∀ i (h1 : i < vs.length) (h2 : i < ds.length), DfAt Q' h vs[i] ds[i] := fun i h1 h2 => by
    obtain ⟨a, b, c, d⟩ := hd i h1 h2
    refine ⟨a, b, ⟨c.len, fun j hj => ?_⟩, d.weak hq⟩
    obtain ⟨q, e, qq, cc⟩ := c.at_ j hj
    exact ⟨q, e, hq _ qq (by rw [← add_block q (j * 1)]; exact cl_lt cc), cc⟩
  by_cases hik : i = k
  · subst hik
    obtain ⟨a, b, c, d⟩ := dweak i hkv hk
    simp only [List.getElem_set_self]
    refine ⟨a, b, c, ?_⟩
    have hn53 : s53.n = us.length + 1 := by have := o53.len; rw [c6_len] at this; simp at this; omega
    refine tyAt_iff.2 ⟨rfl, rfl, rfl, rfl, IntsC.nil _ _, by simp [hn53, hus], fun j hj => ?_⟩
    obtain ⟨p2, ea2, hown2, T2⟩ := own6 o53 (i := j) (by simp at hj ⊢; omega)
    refine ⟨p2, _, ea2, hq2 _ (o53.ge hown2).2, T2, ?_⟩
    rcases Nat.lt_or_ge j us.length with hj1 | hj1
    · rw [List.getElem_append_left hj1, List.getElem_append_left (by omega)]
      exact (hu j hj1 (by omega)).weak hq
    · have : j = us.length := by simp at hj; omega
      subst this
      rw [List.getElem_append_right (Nat.le_refl _), List.getElem_append_right (by omega)]
      simp only [Nat.sub_self, hus, List.getElem_cons_zero]
      exact ht.weak hq
  · rw [List.getElem_set_ne (fun e => hik e.symm), List.getElem_set_ne (fun e => hik e.symm)]
    exact dweak i (by omega) hi'
theorem more_walk (l : Sv) (ds : List Df) (v : Tv) (t : Ty) (at_ : Int) (h : Heap) (hd : DsAt (fun b => b < h.size) h l ds) (hv : TyAt (fun b => b < h.size) h t v) :
    CallsH Try.prog 5 #[.slice l.a l.n l.c, .agg (tvs v), .int .i64 at_] h (fun x h' => x = .bool true ∧ Grow h h') := by
  apply F5
  unfold L5
  refine new6 (v := v) fun h1 b1 f1 z1 => ?_
  refine cal_of (varied_spec h1) ?_
  rintro _ h2 ⟨f2, rfl⟩
  refine ⟨_, rfl, fun x h' => Grow h2 h' ∧ (x = false → ds.length ≤ 6 ∧ ∀ d ∈ ds, SmD d ∧ d.flds.length ≤ 5), ⟨fun e => (by cases e), fun _ => ?_⟩, ?_⟩
  · refine cal_of (smalls_spec (hd.fr (f1.trans f2) fun _ _ h => h)) ?_
    rintro _ h4 ⟨f4, b, rfl, hb⟩
    exact ⟨b, rfl, f4, fun e => hb (by simpa using e)⟩
  rintro x20 h3 ⟨f3, hx20⟩
  have g3 := f1.trans (f2.trans f3)
  refine ⟨fun x h' => Grow h3 h' ∧ (x = false → (ds.length ≤ 6 ∧ ∀ d ∈ ds, SmD d ∧ d.flds.length ≤ 5) ∧ small 6 t = true), ⟨fun _ => ⟨Fr.refl _ _, fun e => (by cases e)⟩, fun e20 => ?_⟩, ?_⟩
  · refine rd6 (Tv6.blk ((f2.trans f3).blk b1 fun h => h)) ?_
    refine cal_of (small_spec 6 (by omega) t v h3 (hv.grow g3)) ?_
    rintro _ h6 ⟨f6, rfl⟩
    exact ⟨_, rfl, f6, fun e => ⟨hx20 e20, by simpa using e⟩⟩
  rintro x25 h5 ⟨f5, hx25⟩
  have g5 := g3.trans f5
  refine ⟨fun _ => ?_, fun e => ?_⟩
  · refine cal_of (varied_spec h5) ?_
    rintro _ h7 ⟨f7, rfl⟩
    exact ⟨_, rfl, rfl, g5.trans f7⟩
  rw [Bool.or_eq_false_iff] at e
  obtain ⟨⟨hlen, hsm5⟩, hst⟩ := hx25 e.1
  have hsm : ∀ d ∈ ds, SmD d := fun d hd => (hsm5 d hd).1
  have hln := hd.len
  have hpos : 0 < ds.length := by
    have := e.2
    rw [beq_eq_false_iff_ne] at this
    omega
  rw [hln]
  obtain ⟨k, hk, ek, hne⟩ := modn at_ (n := ds.length) hpos (by omega)
  rw [ek]
  refine ⟨hne, ?_⟩
  have hd5 := hd.fr g5 fun _ _ h => h
  obtain ⟨vs, hvl, hrow, hdf, hcl⟩ := ds_row hd5
  rintro s39 h8 rfl rfl
  have f8 : Grow h5 (h5.push (.cells #[] 39)) := Fr.push _ _ _
  have hrow8 : RowO (h5.push (.cells #[] 39)) l.a (c4 vs) := by
    cases ha : l.a with
    | none => rw [ha] at hrow; exact hrow
    | some p =>
      rw [ha] at hrow
      exact fun j w hw => f8.clk (hrow j w hw) fun h => h
  refine appS_own rfl (own_empty' 4 h5 h5.size 39 (Nat.le_refl _)) (news := c4 vs) (by rw [c4_len, hvl, hln]) hrow8 (one_c4 vs) (by simp) (by dsimp only; omega) (by dsimp only; omega) fun s41 h9 hn41 o41 f9 own41 => ?_
  rw [List.nil_append] at o41
  have g9 : Grow h5 h9 := f8.trans' f9 fun i hi ⟨a, ea, eb⟩ => (by simp only [Option.some.injEq] at ea; subst ea; simp only at eb; omega)
  have hkv : k < vs.length := by omega
  obtain ⟨p0, ea0, D0⟩ := hcl k hkv
  have da := hdf k hkv hk
  obtain ⟨us, hul, hrowF, hus⟩ := args_row da.flds
  dsimp only at hrowF
  have hfn : vs[k].fs.n = ds[k].flds.length := (tyAt_iff.1 da.flds).2.2.2.2.2.1
  have hfl := (hsm _ (List.getElem_mem hk)).2.2.2.1
  have B5 := (f2.trans (f3.trans f5)).blk b1 fun h => h
  have B9 := g9.blk B5 fun h => h
  have hul2 : us.length ≤ 100 := by have := (hsm5 _ (List.getElem_mem hk)).2; omega
  have fin : ∀ s53 h', Fr s41.own h9 h' → Own h' h9.size 6 s53 (c6 (us ++ [v])) → Own h' h5.size 4 s41 (c4 (vs.set k { vs[k] with fs := s53 })) → Grow h5 h' ∧ DsAt (fun b => b < h'.size) h' s41 (moreDs ds k t) := by
    intro s53 h' f' o53 o4
    have g' : Grow h5 h' := g9.trans' f' fun i hi e => by have := (o41.ge e).1; omega
    have s' := g'.size
    have s5 := g5.size
    exact ⟨g', more_at (Q := fun b => b < h.size) hvl hk hkv o4 (fun i q1 q2 => (hdf i q1 q2).fr g' fun _ _ h => h) o53 hul (fun i q1 q2 => (hus i q1 q2).fr g' fun _ _ h => h) (hv.grow (g5.trans g')) (fun b hb _ => by omega) fun b hb => hb⟩
  have rowF : ∀ {hx : Heap}, Grow h9 hx → RowO hx vs[k].fs.a (c6 us) := fun {hx} gx => by
    cases ha : vs[k].fs.a with
    | none => rw [ha] at hrowF; exact hrowF
    | some p =>
      rw [ha] at hrowF
      exact fun j w hw => (g9.trans gx).clk (hrowF j w hw) fun h => h
  have cpy : ∀ {hx : Heap} (gx : Grow h9 hx) (bx : Nat) (hbx : h9.size ≤ bx) (kx : blk hx bx #[]) {E : TypeId} {K : Sv → Heap → Prop}, (∀ s50 h', Grow h9 h' → Fr (fun b => b = bx) hx h' → Own h' h9.size 6 s50 (c6 us) → K s50 h') →
      appS E z6 6 88 hx ⟨some ⟨bx, 0, none⟩, 0, 0⟩ vs[k].fs K := by
    intro hx gx bx hbx kx E K hK
    have o44 : Own hx h9.size 6 ⟨some ⟨bx, 0, none⟩, 0, 0⟩ [] := ⟨by simp, .inr ⟨bx, #[], rfl, hbx, kx, Nat.le_refl _, by simp, by simp⟩⟩
    refine appS_own rfl o44 (news := c6 us) (by rw [c6_len, hul, hfn]) (rowF gx) (one_c6l us) gx.size (by dsimp only; omega) (by dsimp only; omega) fun s50 h' _ o50 f50 _ => ?_
    have f50' : Fr (fun b => b = bx) hx h' := f50.mono fun i hi ⟨a, e1, e2⟩ => by simp only [Option.some.injEq] at e1; subst e1; exact e2.symm
    exact hK s50 h' (gx.trans' f50' fun i hi e => by omega) f50' (by simpa using o50)
  refine ⟨fun h' => Grow h5 h' ∧ DsAt (fun b => b < h'.size) h' s41 (moreDs ds k t), ⟨fun h' => Grow h9 h', Fr.refl _ _, p0, ea0, by omega, by omega, vs[k].fs, by rw [Int.toNat_natCast]; exact (D0.fr g9 fun h => h).2.2.2, hd6 (fun h' hs => Tv6.blk (hs.blk B9 fun h => h)) ⟨?_, ?_⟩⟩, ?_⟩
  · rintro s44 h10 rfl rfl
    have g10 : Grow h9 (h9.push (.cells #[] 34)) := Fr.push _ _ _
    have k10 := blk.new h9 #[] 34
    have z10 : (h9.push (.cells #[] 34)).size = h9.size + 1 := by simp
    generalize h9.push (.cells #[] 34) = h10 at *
    refine ⟨g10, ?_, ?_⟩
    · refine cpy g10 h9.size (Nat.le_refl _) k10 fun s50 h11 g11 f11 o50 => ⟨g11, ?_⟩
      rintro s52 h12 rfl rfl
      have f12 : Grow h11 (h11.push (.cells (tvs v) 34)) := Fr.push _ _ _
      exact more_end rfl (g11.trans f12) (o50.frame f12 fun _ _ h => h) g11.size (blk.new _ _ _) o41 hul2 hkv (by omega) fin
    · rintro s52 h15 rfl rfl
      have f15 : Grow h10 (h10.push (.cells (tvs v) 34)) := Fr.push _ _ _
      have k15 := blk.new h10 (tvs v) 34
      generalize h10.push (.cells (tvs v) 34) = h15 at *
      refine cpy (g10.trans f15) h9.size (Nat.le_refl _) (f15.blk k10 fun h => h) fun s50 h16 g16 f16 o50 => ?_
      exact more_end rfl g16 o50 (by omega) (f16.blk k15 (by omega)) o41 hul2 hkv (by omega) fin
  · rintro s52 h19 rfl rfl
    have f19 : Grow h9 (h9.push (.cells (tvs v) 34)) := Fr.push _ _ _
    have k19 := blk.new h9 (tvs v) 34
    have z19 : (h9.push (.cells (tvs v) 34)).size = h9.size + 1 := by simp
    generalize h9.push (.cells (tvs v) 34) = h19 at *
    rintro s44 h20 rfl rfl
    have f20 : Grow h19 (h19.push (.cells #[] 34)) := Fr.push _ _ _
    have k20 := blk.new h19 #[] 34
    generalize h19.push (.cells #[] 34) = h20 at *
    refine cpy (f19.trans f20) h19.size (by omega) k20 fun s50 h21 g21 f21 o50 => ?_
    exact more_end rfl g21 o50 (Nat.le_refl _) (f21.blk (f20.blk k19 fun h => h) (by omega)) o41 hul2 hkv (by omega) fin
  rintro h24 ⟨g24, d24⟩
  rw [← hln]
  obtain ⟨K, hK, hmin⟩ := first_stand ds
  obtain ⟨K', hK', hmin'⟩ := first_stand (moreDs ds k t)
  have G24 := g5.trans g24
  have s24 := G24.size
  refine cal_of (find_spec (Q := fun b => b < h.size) (fun b hb => by omega) (hd.fr G24 fun _ _ h => h) hsm (by omega) hK hmin) ?_
  rintro _ h25 ⟨f25, mA, rfl, xA⟩
  refine ⟨some mA, rfl, ?_⟩
  have hml : (moreDs ds k t).length = ds.length := by unfold moreDs; split <;> simp
  have hfl9 : ∀ d ∈ ds, d.flds.length ≤ 999 := fun d hd => by have := (hsm5 d hd).2; omega
  refine cal_of (find_spec (Q := fun b => b < h24.size) (fun b hb => by have := f25.size; omega) (d24.fr f25 fun _ _ h => h) (more_sm (small_ups 6 94 t hst) hsm hfl9) (by omega) hK' hmin') ?_
  rintro _ h26 ⟨f26, mB, rfl, xB⟩
  refine ⟨some mB, rfl, ?_⟩
  have hlaw := more_law (K := K) (more_dle t ds k) hK'
  have xA' := (xA.fr f26 fun _ _ _ h => h).at_
  have xB' := xB.at_
  have G26 := G24.trans (f25.trans f26)
  generalize itW ds K = WA at *
  generalize itW (moreDs ds k t) K' = WB at *
  refine ⟨fun i => ∃ j : Nat, i = j ∧ j ≤ ds.length, fun i => ds.length - i.toNat, ⟨0, rfl, Nat.zero_le _⟩, ?_⟩
  rintro _ ⟨j, rfl, hj⟩
  refine ifb_iff (q := j < ds.length) (by simp [hln]) (fun hl => ?_) (fun hl => ⟨rfl, G26⟩)
  obtain ⟨p, w, ea, -, c4', -⟩ := hd.at_ j hl
  refine ⟨p, ea, by omega, by omega, w.nm, by rw [Int.toNat_natCast]; exact (c4'.fr G26 fun h => h).1, ?_⟩
  have hle := hlaw.lk w.nm
  have hlen' := hle.len
  refine ways_lk xA' w.nm fun s73 i73 b73 => ways_lk xB' w.nm fun s77 i77 b77 => ?_
  have n73 := i73.len
  have n77 := i77.len
  refine ⟨fun e => by simp at e; omega, fun _ => ?_⟩
  refine ⟨fun i => ∃ q : Nat, i = q ∧ q ≤ (lkW w.nm WA).length, fun i => (lkW w.nm WA).length - i.toNat, ⟨0, rfl, Nat.zero_le _⟩, ?_⟩
  rintro _ ⟨q, rfl, hq⟩
  refine ways_lk xA' w.nm fun s83 i83 _ => ?_
  have n83 := i83.len
  refine ifb_iff (q := q < (lkW w.nm WA).length) (by simp [n83]) (fun hql => ?_) (fun hql => ?_)
  rotate_left
  · rw [wrap_succ hl (by omega)]
    exact ⟨⟨j + 1, rfl, hl⟩, by simp; omega⟩
  have hqb : q < (lkW w.nm WB).length := by omega
  have hor := (hle.get q hql hqb).2.2
  refine ⟨fun x => x = false, ⟨fun h' => h' = h26, rfl, ?_⟩, ?_⟩
  rotate_left
  · rintro _ rfl
    refine ⟨fun e => (by cases e), fun _ => ?_⟩
    rw [wrap_succ hql (by omega)]
    exact ⟨⟨q + 1, rfl, hql⟩, by simp; omega⟩
  have HL : ∀ {Qx : Nat → Prop} {s : Sv} {xs : List Int} (ix : IntsQ Qx h26 s xs) (hx : q < xs.length) {K : Int → Prop}, K xs[q] → ixS s (q : Int) fun p => hlI .i64 (fun h' => h' = h26) (p.add ((q : Int).toNat * 1)) fun x => K x := by
    intro Qx s xs ix hx K hK
    obtain ⟨p, e, _, c⟩ := ix.at_ q hx
    have := ix.len
    refine ⟨p, e, by omega, by omega, xs[q], fun h' e' => ?_, hK⟩
    rw [e', Int.toNat_natCast]; exact c
  have LD : ∀ {Qx : Nat → Prop} {s : Sv} {xs : List Int} (ix : IntsQ Qx h26 s xs) (hx : q < xs.length) {K : Int → Prop}, K xs[q] → ixS s (q : Int) fun p => ldI .i64 h26 (p.add ((q : Int).toNat * 1)) fun x => K x := by
    intro Qx s xs ix hx K hK
    obtain ⟨p, e, _, c⟩ := ix.at_ q hx
    have := ix.len
    refine ⟨p, e, by omega, by omega, xs[q], ?_, hK⟩
    rw [Int.toNat_natCast]; exact c
  have hfin : (bitsI .or .i64 (lkW w.nm WA)[q] (lkW w.nm WB)[q] != (lkW w.nm WB)[q]) = false := by rw [hor]; simp
  refine ⟨ways_lk xA' w.nm fun sa ia _ => ⟨rfl, HL ia hql ⟨?_, ?_⟩⟩, ways_lk xB' w.nm fun sb ib _ => ⟨rfl, HL ib hqb ⟨?_, ?_⟩⟩, ways_lk xB' w.nm fun sb ib _ => ⟨rfl, HL ib hqb ⟨?_, ?_⟩⟩⟩
  · exact ways_lk xB' w.nm fun sb ib _ => ⟨rfl, HL ib hqb (ways_lk xB' w.nm fun sc ic _ => ⟨rfl, LD ic hqb hfin⟩)⟩
  · exact ways_lk xB' w.nm fun sb ib _ => ⟨rfl, HL ib hqb (ways_lk xB' w.nm fun sc ic _ => ⟨rfl, LD ic hqb hfin⟩)⟩
  · exact ways_lk xA' w.nm fun sb ib _ => ⟨rfl, HL ib hql (ways_lk xB' w.nm fun sc ic _ => ⟨rfl, LD ic hqb hfin⟩)⟩
  · exact ways_lk xB' w.nm fun sb ib _ => ⟨rfl, HL ib hqb (ways_lk xA' w.nm fun sc ic _ => ⟨rfl, LD ic hql hfin⟩)⟩
  · exact ways_lk xA' w.nm fun sb ib _ => ⟨rfl, HL ib hql (ways_lk xB' w.nm fun sc ic _ => ⟨rfl, LD ic hqb hfin⟩)⟩
  · exact ways_lk xB' w.nm fun sb ib _ => ⟨rfl, HL ib hqb (ways_lk xA' w.nm fun sc ic _ => ⟨rfl, LD ic hql hfin⟩)⟩
end Go.Proofs.Ytomafdhiflbgcaa

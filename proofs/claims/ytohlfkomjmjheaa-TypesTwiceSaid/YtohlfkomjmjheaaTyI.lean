/-
  Which regions must outlive which, as the document tells it; lists of pairs compared.
-/
import Derived.Test.YtohlfkomjmjheaaTyH
namespace Go.Proofs.Ytohlfkomjmjheaa
open Go Go.Lf
set_option linter.unusedVariables false

section
variable {Q : Nat → Prop} {h : Heap}
theorem wfR_spec {w : Option Nat} {ns : List (ByteArray × List (Int × Int))} (ho : ∀ nm, (lkN nm ns).length ≤ 10) : ∀ (t : Ty) (n : Nat) (_ : n ≤ 6) (_ : small n t = true) (v : Tv) (h : Heap), TyAt (fun b => b < h.size) h t v → NeedsAt (fun b => b < h.size) h w ns →
    CallsH Try.prog 12 #[.agg (tvs v), .map w] h (fun x h' => Grow h h' ∧ ∃ s : Sv, x = .slice s.a s.n s.c ∧ Own h' h.size 2 s (prs (wfL (fun nm => lkN nm ns) t))) := by
  intro t
  refine Ty.ind (P := fun t => ∀ (n : Nat) (_ : n ≤ 6) (_ : small n t = true) (v : Tv) (h : Heap), TyAt (fun b => b < h.size) h t v → NeedsAt (fun b => b < h.size) h w ns →
    CallsH Try.prog 12 #[.agg (tvs v), .map w] h (fun x h' => Grow h h' ∧ ∃ s : Sv, x = .slice s.a s.n s.c ∧ Own h' h.size 2 s (prs (wfL (fun nm => lkN nm ns) t)))) ?_ t
  intro k nm mu r rs az ih n hn hsm v h hv hw
  have hsm0 := hsm
  have hwl := wfL_len (of := fun nm => lkN nm ns) ho n _ hsm
  have hwb := wb6 hn
  obtain ⟨m, rfl, ha4, hr6, hall⟩ := small_mk hsm
  obtain ⟨e1, e2, e3, e4, e5, e6, e7⟩ := tyAt_iff.1 hv
  have hbm := bnd8 (n := m) (by omega)
  have hsl : ∀ i, (slotL (.mk k nm mu r rs az) i).length ≤ bnd m + 1 := fun i => slotL_len hsm0 i
  have hrl := fun j => refL_len (az := az.take j) (m := m) (fun a ha => hall a (List.mem_of_mem_take ha)) (by simp; omega) r
  have hnl := fun (l : List (Int × Int)) (hl : l.length ≤ 10) => needL_len hsm0 hl
  have hbq : (bnd m + 1) * (bnd m + 1) ≤ 1000000000 := by
    have : wb (m + 1) = 4 * bnd m + 10 * ((bnd m + 1) * (bnd m + 1)) + 4 * wb m := rfl
    omega
  apply F12
  unfold L12
  refine new6 (v := v) fun h1 b1 f1 z1 => ?_
  have f1s := f1.size
  refine ⟨fun s h' => Grow h1 h' ∧ Own h' h1.size 2 s (prs (if k = 7 then refL az r else [])), ?_, ?_⟩
  · refine ⟨_, (Tv6.blk b1).1, ?_⟩
    rw [e1]
    refine ifb_iff (q := k = 7) (by simp) (fun h7 => ?_) (fun h7 => ?_)
    rotate_left
    · rw [if_neg h7]
      exact ⟨Fr.refl _ _, Own.nil _ _ _⟩
    rw [if_pos h7]
    refine ⟨fun s i h' => ∃ j : Nat, i = j ∧ j ≤ az.length ∧ Grow h1 h' ∧ Own h' h1.size 2 s (prs (refL (az.take j) r)), fun _ i _ => az.length - i.toNat, ⟨0, rfl, Nat.zero_le _, Fr.refl _ _, Own.nil _ _ _⟩, ?_⟩
    rintro s1 _ h2 ⟨j, rfl, hj, g2, o2⟩
    have B2 := g2.blk b1 fun h => h
    refine ⟨_, (Tv6.blk B2).2.2.2.2.2, ?_⟩
    refine ifb_iff (q := j < az.length) (by simp [e6]) (fun hl => ?_) (fun hl => ?_)
    rotate_left
    · have : j = az.length := by omega
      subst this
      rw [List.take_length] at o2
      exact ⟨g2, o2⟩
    refine ⟨_, (Tv6.blk B2).2.2.2.2.2, args_get (hv.grow (f1.trans g2)) hl fun u hu => ?_⟩
    have hal := allT_len m az[j] (hall _ (List.getElem_mem hl))
    refine ⟨fun a b => Grow a b, Pre.grow, _, fun h' hs => (Tv6.blk (hs.blk B2 fun h => h)).2.2.2.1, ?_⟩
    rw [e4]
    refine ⟨fun s lo hi h' => IntsAt h' s (allT az[j]), fun _ _ _ _ _ f x => x.keep f fun _ _ h => h, fun s lo hi h' => IntsAt h' s [r], fun _ _ _ _ _ f x => x.keep f fun _ _ h => h, ?_, ?_, ?_⟩
    · intro h5 f5
      refine cal_of (all_spec az[j] m (by omega) (hall _ (List.getElem_mem hl)) u h5 (hu.grow f5)) ?_
      rintro _ h6 ⟨f6, s6, rfl, o6⟩
      exact ⟨s6, rfl, f6, own_ints o6⟩
    · intro h5 f5
      rintro s6 h6 rfl rfl
      exact ⟨Fr.push _ _ _, one_int r h5 _⟩
    intro s5 lo5 hi5 s6 lo6 hi6 h7 f7 _ i5 i6
    have hrj := hrl j
    refine cal_of (crossR_spec i5 i6 (by omega) (by simp) (by simp only [List.length_cons, List.length_nil]; omega)) ?_
    rintro _ h8 ⟨s8, rfl, o8, f8⟩
    refine ⟨s8, rfl, ?_⟩
    have hn8 : s8.n = (crossL (allT az[j]) [r]).length := by have := o8.len; rw [prs_len] at this; omega
    have hc8 := crossL_len (allT az[j]) [r]
    simp only [List.length_cons, List.length_nil] at hc8
    have hn2 : s1.n = (refL (az.take j) r).length := by have := o2.len; rw [prs_len] at this; omega
    have F := f7.trans f8
    refine appS_own rfl (o2.frame F fun _ _ h => h) (news := prs (crossL (allT az[j]) [r])) (by rw [prs_len, hn8]) o8.row (one_prs _) (by have := g2.size; have := F.size; omega) (by omega) (by omega) ?_
    intro s9 h9 _ o9 f9 own9
    rw [wrap_succ hl (by omega)]
    refine ⟨⟨j + 1, rfl, hl, (g2.trans F).trans' f9 fun i hi e => by have := (o2.ge e).1; omega, ?_⟩, by simp; omega⟩
    rw [List.take_succ_eq_append_getElem hl, refL_snoc, prs_app]
    exact o9
  rintro o15 h15 ⟨g15, O15⟩
  refine ⟨fun s h' => Grow h1 h' ∧ Own h' h1.size 2 s (prs (headW (fun nm => lkN nm ns) (.mk k nm mu r rs az))), ?_, ?_⟩
  · have B15 := g15.blk b1 fun h => h
    refine ⟨_, (Tv6.blk B15).1, ?_⟩
    rw [e1, headW_mk]
    refine ifb_iff (q := k = 5) (by simp) (fun h5 => ?_) (fun h5 => ?_)
    rotate_left
    · rw [if_neg h5, List.append_nil]
      exact ⟨g15, O15⟩
    rw [if_neg (by omega : ¬ k = 7), if_pos h5, List.nil_append]
    rw [if_neg (by omega : ¬ k = 7)] at O15
    refine ⟨_, (Tv6.blk B15).2.1, ?_⟩
    rw [e2]
    refine needs_lk ((hw.fr f1 fun _ _ h => h).fr g15 fun _ _ h => h) nm fun sn hsn hin hlen => ?_
    rw [hsn.len]
    generalize lkN nm ns = l at *
    refine ⟨fun s i h' => ∃ j : Nat, i = j ∧ j ≤ l.length ∧ Fr (fun b => h1.size ≤ b) h15 h' ∧ Own h' h1.size 2 s (prs (needL (.mk k nm mu r rs az) (l.take j))), fun _ i _ => l.length - i.toNat, ⟨0, rfl, Nat.zero_le _, Fr.refl _ _, O15⟩, ?_⟩
    rintro s1 _ h2 ⟨j, rfl, hj, g2', o2⟩
    have g2 : Grow h1 h2 := g15.trans' g2' fun i hi e => by omega
    refine ifb_iff (q := j < l.length) (by simp) (fun hl => ?_) (fun hl => ?_)
    rotate_left
    · have : j = l.length := by omega
      subst this
      rw [List.take_length] at o2
      exact ⟨g2, o2⟩
    have B4 := g2.blk b1 fun h => h
    have g4 := f1.trans g2
    have hsn2 := hsn.fr g2' fun b hb e => by omega
    obtain ⟨p, ea, _, c1, c2⟩ := hsn2.at_ j hl
    have hp1 := hin l[j] (List.getElem_mem hl)
    refine ⟨fun h' => Grow h2 h', Fr.refl _ _, rd6 (Tv6.blk B4) ⟨p, ea, by omega, by rw [hsn.len]; omega, _, by rw [Int.toNat_natCast]; exact c1, p, ea, by omega, by rw [hsn.len]; omega, hd6 (fun h' hs => Tv6.blk (hs.blk B4 fun h => h)) ⟨_, fun h' hs => by rw [Int.toNat_natCast]; exact hs.clk c2 fun h => h, ?_⟩⟩⟩
    refine cal_of (slotR_spec (n := m + 1) (by omega) hsm0 (hv.grow g4) hp1.1) ?_
    rintro _ h5 ⟨f5, sa, rfl, ia⟩
    refine ⟨sa, rfl, f5, ?_⟩
    refine cal_of (slotR_spec (n := m + 1) (by omega) hsm0 (hv.grow (g4.trans f5)) hp1.2) ?_
    rintro _ h6 ⟨f6, sb, rfl, ib⟩
    refine ⟨sb, rfl, ?_⟩
    have hl1 := hsl l[j].1
    have hl2 := hsl l[j].2
    have hl12 := Nat.mul_le_mul hl1 hl2
    have hnlj := hnl (l.take j) (by simp; omega)
    refine cal_of (crossR_spec (ia.fr f6 fun _ _ h => h).ints ib.ints (by omega) (by omega) (by omega)) ?_
    rintro _ h8 ⟨s8, rfl, o8, f8⟩
    refine ⟨s8, rfl, ?_⟩
    have hn8 : s8.n = (crossL (slotL (.mk k nm mu r rs az) l[j].1) (slotL (.mk k nm mu r rs az) l[j].2)).length := by have := o8.len; rw [prs_len] at this; omega
    have hc8 := crossL_len (slotL (.mk k nm mu r rs az) l[j].1) (slotL (.mk k nm mu r rs az) l[j].2)
    have hn2 : s1.n = (needL (.mk k nm mu r rs az) (l.take j)).length := by have := o2.len; rw [prs_len] at this; omega
    have F := f5.trans (f6.trans f8)
    refine appS_own rfl (o2.frame F fun _ _ h => h) (news := prs (crossL (slotL (.mk k nm mu r rs az) l[j].1) (slotL (.mk k nm mu r rs az) l[j].2))) (by rw [prs_len, hn8]) o8.row (one_prs _) (by have := (g2.trans F).size; omega) (by omega) (by omega) ?_
    intro s9 h9 _ o9 f9 own9
    rw [wrap_succ hl (by omega)]
    refine ⟨⟨j + 1, rfl, hl, (g2'.trans (F.mono fun _ _ e => e.elim)).trans' f9 fun i hi e => (o2.ge e).1, ?_⟩, by simp; omega⟩
    rw [List.take_succ_eq_append_getElem hl, needL_snoc, prs_app]
    exact o9
  rintro l7 h7 ⟨g7, o7⟩
  refine ⟨fun out i h' => ∃ j : Nat, i = j ∧ j ≤ az.length ∧ Grow h1 h' ∧ Own h' h1.size 2 out (prs (headW (fun nm => lkN nm ns) (.mk k nm mu r rs az) ++ (az.take j).flatMap (wfL fun nm => lkN nm ns))), fun _ i _ => az.length - i.toNat, ⟨0, rfl, Nat.zero_le _, g7, by simpa using o7⟩, ?_⟩
  rintro out _ h8 ⟨j, rfl, hj, g8, o8⟩
  have T8 := Tv6.blk (g8.blk b1 fun h => h)
  refine ⟨_, T8.2.2.2.2.2, ?_⟩
  refine ifb_iff (q := j < az.length) (by simp [e6]) (fun hl => ?_) (fun hl => ?_)
  · refine ⟨_, T8.2.2.2.2.2, args_get (hv.grow (f1.trans g8)) hl fun u hu => ?_⟩
    have g10 := f1.trans g8
    refine cal_of (ih _ (List.getElem_mem hl) m (by omega) (hall _ (List.getElem_mem hl)) u h8 (hu.weak fun b hb _ => by have := g10.size; omega) ((hw.weak fun b hb _ => by have := g10.size; omega).fr g10 fun _ _ h => h)) ?_
    rintro _ h11 ⟨F, s6, rfl, o6⟩
    refine ⟨s6, rfl, ?_⟩
    have hl6 := wfL_len (of := fun nm => lkN nm ns) ho m az[j] (hall _ (List.getElem_mem hl))
    have hn6 : s6.n = (wfL (fun nm => lkN nm ns) az[j]).length := by have := o6.len; rw [prs_len] at this; omega
    have hfl := flat_lenP (f := wfL fun nm => lkN nm ns) (m := wb m) (az.take j) fun a ha => wfL_len (of := fun nm => lkN nm ns) ho m a (hall a (List.mem_of_mem_take ha))
    have hfl2 : (az.take j).length * wb m ≤ 4 * wb m := Nat.mul_le_mul_right _ (by simp; omega)
    have hhl := headW_len (of := fun nm => lkN nm ns) ho hsm0
    have hno : out.n = (headW (fun nm => lkN nm ns) (.mk k nm mu r rs az) ++ (az.take j).flatMap (wfL fun nm => lkN nm ns)).length := by have := o8.len; rw [prs_len] at this; omega
    rw [List.length_append] at hno
    have hwm := wb6 (n := m) (by omega)
    have g8s := g8.size
    have h1le : h1.size ≤ h11.size := by have := F.size; omega
    refine appS_own rfl (o8.frame F fun _ _ h => h) (news := prs (wfL (fun nm => lkN nm ns) az[j])) (by rw [prs_len, hn6]) o6.row (one_prs _) h1le (by omega) (by omega) ?_
    intro s7 h12 _ o12 f12 own12
    rw [wrap_succ hl (by omega)]
    refine ⟨⟨j + 1, rfl, hl, (g8.trans F).trans' f12 fun i hi e => by have := (o8.ge e).1; omega, ?_⟩, by simp; omega⟩
    rw [List.take_succ_eq_append_getElem hl, List.flatMap_append, ← List.append_assoc, prs_app]
    simpa using o12
  · have hje : j = az.length := by omega
    subst hje
    rw [List.take_length, ← wfL_mk] at o8
    exact ⟨f1.trans g8, _, rfl, own_low o8 f1s⟩
theorem pairsEq_spec {Q Q' : Nat → Prop} {h : Heap} {a b : Sv} {l m : List (Int × Int)} (hx : PrQ Q h a l) (hy : PrQ Q' h b m) (hb : l.length ≤ 4611686018427387904) : CallsH Try.prog 10 #[.slice a.a a.n a.c, .slice b.a b.n b.c] h (fun v h' => h = h' ∧ v = .bool (l == m)) := by
  apply F10
  unfold L10
  rw [hx.len, hy.len]
  refine ifb_iff (q := l.length ≠ m.length) (by simp; omega) (fun hne => ⟨rfl, ?_⟩) (fun heq => ?_)
  · have : (l == m) = false := by
      rw [beq_eq_false_iff_ne]
      exact fun e => hne (by rw [e])
    rw [this]
  have heq : l.length = m.length := by omega
  refine ⟨fun i => ∃ j : Nat, i = j ∧ j ≤ l.length ∧ l.take j = m.take j, fun i => l.length - i.toNat, ⟨0, rfl, Nat.zero_le _, rfl⟩, ?_⟩
  rintro _ ⟨j, rfl, hj, hh⟩
  refine ifb_iff (q := j < l.length) (by simp) (fun hlt => ?_) (fun hge => ?_)
  · have hlt' : j < m.length := by omega
    obtain ⟨p, e1, _, c1, d1⟩ := hx.at_ j hlt
    obtain ⟨q, e2, _, c2, d2⟩ := hy.at_ j hlt'
    refine ⟨p, e1, by omega, by rw [hx.len]; omega, _, _, by rw [Int.toNat_natCast]; exact c1, by rw [Int.toNat_natCast]; exact d1, q, e2, by omega, by rw [hy.len]; omega, _, _, by rw [Int.toNat_natCast]; exact c2, by rw [Int.toNat_natCast]; exact d2, fun e => ⟨rfl, ?_⟩, fun e => ?_⟩
    · have : (l == m) = false := by
        rw [beq_eq_false_iff_ne]
        intro he
        subst he
        simp at e
      rw [this]
    · have e' : l[j] = m[j] := by
        simp at e
        exact Prod.ext e.1 e.2
      rw [wrap_succ hlt hb]
      refine ⟨⟨j + 1, rfl, hlt, ?_⟩, by simp; omega⟩
      rw [List.take_succ_eq_append_getElem hlt, List.take_succ_eq_append_getElem hlt', hh, e']
  · have : j = l.length := by omega
    subst this
    rw [List.take_length, heq, List.take_length] at hh
    exact ⟨rfl, by rw [hh]; simp⟩
end
end Go.Proofs.Ytohlfkomjmjheaa

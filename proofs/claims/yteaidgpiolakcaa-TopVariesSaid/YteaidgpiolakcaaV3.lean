/-
  A type gone through: the specs.
-/
import Derived.Test.YteaidgpiolakcaaV2
namespace Go.Proofs.Yteaidgpiolakcaa
open Go Go.Lf
set_option linter.unusedVariables false

section
variable {Q : Nat → Prop} {p : Nat} {dn : ByteArray} {L : Nat} {tn df : Sv} {w : Option Nat} {so : Sv} {B : Nat} {tys : List ByteArray} {W : List (ByteArray × List Int)}
theorem FAt.cells {h : Heap} {out : List Int} (x : FAt Q h p dn L tn df w so B tys W out) : cl h ((⟨p, 0, none⟩ : Addr).add 1) = some (.int .i64 L) ∧ cl h ((⟨p, 0, none⟩ : Addr).add 2) = some (.slice tn.a tn.n tn.c) ∧ cl h ((⟨p, 0, none⟩ : Addr).add 4) = some (.map w) ∧ cl h ((⟨p, 0, none⟩ : Addr).add 5) = some (.slice so.a so.n so.c) := by
  simp only [add_plain, x.blk_.cl]
  exact ⟨rfl, rfl, rfl, rfl⟩
theorem slots_spec {nm : ByteArray} {mu : Bool} {r : Int} {rs : List Int} {az : List Ty} (ih : ∀ a ∈ az, SeeOk Q p dn L tn df w so B tys W a) {m : Nat} (hm : m ≤ 100) (hr6 : rs.length ≤ 6) (ha4 : az.length ≤ 4) (hall : ∀ a ∈ az, small m a = true)
    (Qt : Nat → Prop) (v : Tv) (way : Int) (h : Heap) (out : List Int) (hQ : ∀ b, Qt b → ¬ so.own b) (hv : TyAt Qt h (.mk 5 nm mu r rs az) v) (x : FAt Q h p dn L tn df w so B tys W out) :
    CallsH Try.prog 29 #[.pointer (some ⟨p, 0, none⟩), .agg (tvs v), .int .i64 way] h (fun _ h' => Fr so.own h h' ∧ FAt Q h' p dn L tn df w so B tys W (seeW L tys W (.mk 5 nm mu r rs az) way out)) := by
  obtain ⟨e1, e2, e3, e4, e5, e6, -⟩ := tyAt_iff.1 hv
  have hv0 := hv
  apply F29
  unfold L29
  refine new6 (v := v) fun h1 b1 f1 z1 => ?_
  have x1 := x.fr f1
  have hp4 : ¬ so.own h.size := fun e => by have := (x.own_.ge e).2; omega
  refine ldS_i (s := v.rs) (Tv6.blk b1).2.2.2.2.1 ?_
  have i1 := e5.fr f1 fun _ _ h => h
  have hrl := i1.len
  refine ⟨fun i h' => ∃ j : Nat, i = j ∧ j ≤ rs.length ∧ Fr so.own h1 h' ∧ FAt Q h' p dn L tn df w so B tys W (regsW L (fun i => throughF way (ofW W nm i)) 0 (rs.take j) out), fun i _ => rs.length - i.toNat, ⟨0, rfl, Nat.zero_le _, Fr.refl _ _, x1⟩, ?_⟩
  rintro _ h2 ⟨j, rfl, hj, f2, x2⟩
  have B2 := f2.blk b1 hp4
  refine ifb_iff (q := j < rs.length) (by simp [hrl]) (fun hl => ?_) (fun hl => ?_)
  · obtain ⟨q, e, qq, c⟩ := i1.at_ j hl
    refine ⟨q, e, by omega, by omega, _, by rw [Int.toNat_natCast]; exact f2.clk c (by rw [add_block]; exact hQ _ qq), ?_⟩
    refine ⟨_, rfl, _, x2.cells.2.2.1, _, (Tv6.blk B2).2.1, ?_⟩
    refine cal_of (of_spec x2.ways v.nm j) ?_
    rintro _ _ ⟨rfl, rfl⟩
    refine ⟨_, rfl, cal_of (through_spec _ _ _) ?_⟩
    rintro _ _ ⟨rfl, rfl⟩
    refine ⟨_, rfl, cal_of (life_spec x2 rs[j] _) ?_⟩
    rintro _ h5 ⟨f5, x5⟩
    rw [wrap_succ hl (by omega)]
    refine ⟨⟨j + 1, rfl, hl, f2.trans f5, ?_⟩, by simp; omega⟩
    rw [List.take_succ_eq_append_getElem hl, regsW_snoc]
    have hjl : (rs.take j).length = j := by rw [List.length_take]; omega
    rw [hjl, Nat.zero_add]
    rw [e2] at x5
    exact x5
  have hje : j = rs.length := by omega
  subst hje
  rw [List.take_length] at x2
  refine ldS_i (s := v.az) (Tv6.blk B2).2.2.2.2.2 ?_
  have hv2 := (hv.grow f1).fr f2 hQ
  have hhead : headW L tys W 5 nm r rs way out = regsW L (fun i => throughF way (ofW W nm i)) 0 rs out := by
    unfold headW
    rw [if_neg (by decide), if_neg (by decide), if_pos rfl]
  refine ⟨fun i h' => ∃ j : Nat, i = j ∧ j ≤ az.length ∧ Fr so.own h2 h' ∧ FAt Q h' p dn L tn df w so B tys W (argsW (seeW L tys W) (innerW W 5 nm mu rs.length way) 0 (az.take j) (headW L tys W 5 nm r rs way out)), fun i _ => az.length - i.toNat, ⟨0, rfl, Nat.zero_le _, Fr.refl _ _, by rw [hhead]; exact x2⟩, ?_⟩
  rintro _ h6 ⟨j, rfl, hj, f6, x6⟩
  have f16 : Fr so.own h1 h6 := f2.trans f6
  have B6 := f6.blk B2 hp4
  refine ifb_iff (q := j < az.length) (by simp [e6]) (fun hl => ?_) (fun hl => ?_)
  · refine args_get (hv2.fr f6 hQ) hl fun u hu => ?_
    refine newz fun h7 b7 f7 z7 => sto6 (v := u) b7 rfl fun h8 b8 f8 => ?_
    have g68 : Grow h6 h8 := f7.trans' f8 fun i hi e => by omega
    have x8 := x6.fr g68
    have B8 := g68.blk B6 fun h => h
    refine ⟨fun h' => Grow h8 h', Fr.refl _ _, _, rfl, ?_⟩
    refine ldS_i (s := v.rs) (Tv6.blk B8).2.2.2.2.1 ?_
    refine ⟨_, x8.cells.2.2.1, _, (Tv6.blk B8).2.1, ?_⟩
    refine hd6 (fun h' hs => Tv6.blk (hs.blk b8 fun h => h)) ?_
    refine cal_of (of_spec x8.ways v.nm _) ?_
    rintro _ _ ⟨rfl, rfl⟩
    refine ⟨_, rfl, Fr.refl _ _, cal_of (through_spec _ _ _) ?_⟩
    rintro _ _ ⟨rfl, rfl⟩
    refine ⟨_, rfl, Fr.refl _ _, ?_⟩
    refine cal_of (ih _ (List.getElem_mem hl) m hm (hall _ (List.getElem_mem hl)) Qt u _ h8 _ hQ (hu.grow g68) x8) ?_
    rintro _ h11 ⟨f11, x11⟩
    rw [wrap_succ hl (by omega)]
    refine ⟨⟨j + 1, rfl, hl, f6.trans ((g68.mono fun _ _ e => e.elim).trans f11), ?_⟩, by simp; omega⟩
    rw [List.take_succ_eq_append_getElem hl, argsW_snoc]
    have hjl : (az.take j).length = j := by rw [List.length_take]; omega
    have hw : IntKind.i64.wrap (((v.rs.n : Nat) : Int) + (j : Int)) = ((rs.length + j : Nat) : Int) := by rw [hrl, wrap64_id (by omega) (by omega)]; omega
    have hin : innerW W 5 nm mu rs.length way (0 + (az.take j).length) = throughF way (ofW W v.nm (IntKind.i64.wrap (((v.rs.n : Nat) : Int) + (j : Int)))) := by
      unfold innerW
      rw [if_neg (by simp), if_pos rfl, hw, hjl, Nat.zero_add, e2]
    rw [hin]
    exact x11
  · have hje : j = az.length := by omega
    subst hje
    rw [List.take_length] at x6
    rw [seeW_mk]
    exact ⟨(f1.mono fun _ _ e => e.elim).trans f16, x6⟩
theorem see_spec (t : Ty) : SeeOk Q p dn L tn df w so B tys W t := by
  refine Ty.ind (P := fun t => SeeOk Q p dn L tn df w so B tys W t) ?_ t
  intro k nm mu r rs az ih n hn hsm Qt v way h out hQ hv x
  obtain ⟨m, rfl, ha4, hr6, hall⟩ := small_mk hsm
  obtain ⟨e1, e2, e3, e4, e5, e6, -⟩ := tyAt_iff.1 hv
  apply F23
  unfold L23
  refine new6 (v := v) fun h1 b1 f1 z1 => ?_
  have x1 := x.fr f1
  have hp4 : ¬ so.own h.size := fun e => by have := (x.own_.ge e).2; omega
  have T1 := Tv6.blk b1
  rw [seeW_mk]
  refine ⟨fun inner h' => k ≠ 5 ∧ (∀ i, innerW W k nm mu rs.length way i = inner) ∧ Fr so.own h1 h' ∧ FAt Q h' p dn L tn df w so B tys W (headW L tys W k nm r rs way out), ?_, ?_⟩
  · refine ⟨_, T1.1, ?_⟩
    rw [e1]
    refine ifb_iff (q := k = 9) (by simp) (fun h9 => ?_) (fun h9 => ?_)
    · refine ⟨_, rfl, ldS_i (s := tn) x1.cells.2.1 ⟨_, T1.2.1, ?_⟩⟩
      refine cal_of (idx_spec x1.nlen (fun i hi => by obtain ⟨q, e, _, c⟩ := x1.nat i hi; exact ⟨q, e, c⟩) x1.sm.2 v.nm) ?_
      rintro _ _ ⟨rfl, rfl⟩
      refine ⟨_, rfl, ?_⟩
      have hin : ∀ i, innerW W k nm mu rs.length way i = way := fun i => by
        unfold innerW
        rw [if_neg (by omega), if_neg (by omega)]
      have hhd : headW L tys W k nm r rs way out = parW L tys out nm way := by unfold headW; rw [if_pos h9]
      rw [e2]
      cases hid : nmIdx tys nm with
      | none =>
        refine ⟨fun e => by simp at e, fun _ => ⟨by omega, hin, Fr.refl _ _, ?_⟩⟩
        rw [hhd]; unfold parW; rw [hid]; exact x1
      | some i =>
        have hi := nmIdx_lt hid
        have hsm' := x1.sm
        refine ⟨fun _ => ?_, fun e => by simp at e⟩
        refine ⟨_, rfl, ldS_i (s := so) x1.cells.2.2.2 ⟨_, rfl, _, x1.cells.1, ?_⟩⟩
        have hw : IntKind.i64.wrap ((L : Int) + (i : Int)) = ((L + i : Nat) : Int) := by rw [wrap64_id (by omega) (by omega)]; omega
        dsimp only
        rw [hw]
        refine or_step x1 (by rw [x1.olen]; omega) way fun h' f' x' => ⟨by omega, hin, f', ?_⟩
        rw [hhd]; unfold parW; rw [hid]; exact x'
    refine ifb_iff (q := k = 8) (by simp) (fun h8 => ?_) (fun h8 => ?_)
    · refine ⟨_, T1.2.2.2.1, ?_⟩
      refine cal_of (life_spec x1 v.r way) ?_
      rintro _ h4 ⟨f4, x4⟩
      refine ⟨by omega, fun i => by unfold innerW; rw [if_neg (by omega), if_neg (by omega)], f4, ?_⟩
      unfold headW
      rw [if_neg h9, if_pos (.inl h8), ← e4]
      exact x4
    refine ifb_iff (q := k = 7) (by simp) (fun h7 => ?_) (fun h7 => ?_)
    · refine ⟨_, T1.2.2.2.1, ?_⟩
      refine cal_of (life_spec x1 v.r way) ?_
      rintro _ h5 ⟨f5, x5⟩
      have hhd : headW L tys W k nm r rs way out = lifeW L out v.r way := by unfold headW; rw [if_neg h9, if_pos (.inr h7), e4]
      have B5 := f5.blk b1 hp4
      refine ⟨_, (Tv6.blk B5).2.2.1, ?_⟩
      rw [e3]
      refine ⟨fun em => ?_, fun em => ?_⟩
      · refine cal_of (through_spec _ _ _) ?_
        rintro _ _ ⟨rfl, rfl⟩
        refine ⟨_, rfl, by omega, fun i => by unfold innerW; rw [if_pos ⟨h7, em⟩], f5, by rw [hhd]; exact x5⟩
      · refine ⟨by omega, fun i => by unfold innerW; rw [if_neg (by rw [em]; simp), if_neg (by omega)], f5, by rw [hhd]; exact x5⟩
    refine ifb_iff (q := k = 5) (by simp) (fun h5 => ?_) (fun h5 => ?_)
    · refine rd6 T1 ?_
      subst h5
      refine cal_of (slots_spec (r := r) (mu := mu) (nm := nm) ih (m := m) (by omega) hr6 ha4 hall Qt v way h1 out hQ (hv.grow f1) x1) ?_
      rintro _ h7' ⟨f7, x7⟩
      rw [seeW_mk] at x7
      exact ⟨(f1.mono fun _ _ e => e.elim).trans f7, x7⟩
    · refine ⟨h5, fun i => by unfold innerW; rw [if_neg (by simp [h7]), if_neg h5], Fr.refl _ _, ?_⟩
      unfold headW
      rw [if_neg h9, if_neg (by omega), if_neg h5]
      exact x1
  rintro inner h8 ⟨h5, hin, f8, x8⟩
  have hinf : innerW W k nm mu rs.length way = fun _ => inner := funext hin
  rw [hinf]
  refine ldS_i (s := v.az) (Tv6.blk (f8.blk b1 hp4)).2.2.2.2.2 ?_
  exact parts_loop (R := fun _ h' => Fr so.own h h' ∧ FAt Q h' p dn L tn df w so B tys W (argsW (seeW L tys W) (fun _ => inner) 0 az (headW L tys W k nm r rs way out))) (m := m) (by omega) ih hall ha4 hQ ((hv.grow f1).fr f8 hQ) ((f1.mono fun _ _ e => e.elim).trans f8) x8 inner fun h' f' x' => ⟨f', x'⟩
end
end Go.Proofs.Yteaidgpiolakcaa

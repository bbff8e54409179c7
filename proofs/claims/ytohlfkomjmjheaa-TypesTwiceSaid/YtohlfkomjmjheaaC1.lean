/-
  A small type's regions, walked; TypesWf.
-/
import Derived.Test.YtohlfkomjmjheaaTyF
import Derived.Test.YtohlfkomjmjheaaTyI
namespace Go.Proofs.Ytohlfkomjmjheaa
open Go Go.Lf
set_option linter.unusedVariables false

def tInt : Ty := .mk 1 ⟨#[]⟩ false 0 [] []
def tIn : Ty := .mk 7 ⟨#[]⟩ true 2 [] [tInt]
def tOut : Ty := .mk 7 ⟨#[]⟩ false 1 [] [tIn]
theorem allT_int : allT tInt = [] := by unfold tInt; rw [allT_mk, ownL_mk]; rfl
theorem allT_in : allT tIn = [2] := by unfold tIn; rw [allT_mk, ownL_mk, List.flatMap_cons, allT_int]; rfl
theorem allT_out : allT tOut = [1, 2] := by unfold tOut; rw [allT_mk, ownL_mk, List.flatMap_cons, allT_in]; rfl
theorem wf_out (of : ByteArray → List (Int × Int)) : wfL of tOut = [(2, 1)] := by
  have h1 : wfL of tInt = [] := by unfold tInt; rw [wfL_mk, headW_mk]; rfl
  have h2 : wfL of tIn = [] := by
    unfold tIn
    rw [wfL_mk, headW_mk, List.flatMap_cons, h1]
    show ((refL [tInt] 2) ++ []) ++ ([] ++ []) = []
    unfold refL
    rw [List.flatMap_cons, allT_int]
    rfl
  unfold tOut
  rw [wfL_mk, headW_mk, List.flatMap_cons, h2]
  show ((refL [tIn] 1) ++ []) ++ ([] ++ []) = [(2, 1)]
  unfold refL
  rw [List.flatMap_cons, allT_in]
  rfl
theorem dec_dig {n : Nat} (h : n < 10) : decT (n : Int) = bs [UInt8.ofNat (48 + n)] := by
  have hf : farN (n : Int) = n := by unfold farN; rw [if_neg (by omega), IntKind.wrap_u64]; omega
  unfold decT decN
  rw [if_neg (by omega), hf, digB_lt h]
theorem text_out : textT tOut = bs [38, 49, 60, 38, 50, 109, 117, 116, 60, 105, 110, 116, 62, 62] := by
  have h1 : textT tInt = bs [105, 110, 116] := by unfold tInt; rw [textT_mk]; rfl
  have h2 : textT tIn = bs [38, 50, 109, 117, 116, 60, 105, 110, 116, 62] := by
    unfold tIn
    rw [textT_mk]
    show ((((bs [38] ++ decT 2) ++ bs [109, 117, 116]) ++ bs [60]) ++ textT tInt) ++ bs [62] = _
    rw [h1, show (2 : Int) = ((2 : Nat) : Int) from rfl, dec_dig (by omega)]
    simp only [bytes_cat]
    rfl
  unfold tOut
  rw [textT_mk]
  show (((bs [38] ++ decT 1) ++ bs [60]) ++ textT tIn) ++ bs [62] = _
  rw [h2, show (1 : Int) = ((1 : Nat) : Int) from rfl, dec_dig (by omega)]
  simp only [bytes_cat]
  rfl
theorem typed_spec (h : Heap) : CallsH Try.prog 8 #[] h (fun x h' => Grow h h' ∧ x = .bool true) := by
  apply F8
  unfold L8
  rintro s4 h1 rfl rfl
  have k1 := blk.new h (tvs ⟨1, ⟨#[]⟩, false, 0, ⟨none, 0, 0⟩, ⟨none, 0, 0⟩⟩) 25
  have f1 : Grow h (h.push (.cells (tvs ⟨1, ⟨#[]⟩, false, 0, ⟨none, 0, 0⟩, ⟨none, 0, 0⟩⟩) 25)) := Fr.push _ _ _
  have z1 : (h.push (.cells (tvs ⟨1, ⟨#[]⟩, false, 0, ⟨none, 0, 0⟩, ⟨none, 0, 0⟩⟩) 25)).size = h.size + 1 := by simp
  generalize h.push (.cells (tvs ⟨1, ⟨#[]⟩, false, 0, ⟨none, 0, 0⟩, ⟨none, 0, 0⟩⟩) 25) = h1 at *
  rintro s6 h2 rfl rfl
  have k2 := blk.new h1 (tvs ⟨7, ⟨#[]⟩, true, 2, ⟨none, 0, 0⟩, ⟨some ⟨h.size, 0, none⟩, 1, 1⟩⟩) 25
  have f2 : Grow h1 (h1.push (.cells (tvs ⟨7, ⟨#[]⟩, true, 2, ⟨none, 0, 0⟩, ⟨some ⟨h.size, 0, none⟩, 1, 1⟩⟩) 25)) := Fr.push _ _ _
  have z2 : (h1.push (.cells (tvs ⟨7, ⟨#[]⟩, true, 2, ⟨none, 0, 0⟩, ⟨some ⟨h.size, 0, none⟩, 1, 1⟩⟩) 25)).size = h1.size + 1 := by simp
  generalize h1.push (.cells (tvs ⟨7, ⟨#[]⟩, true, 2, ⟨none, 0, 0⟩, ⟨some ⟨h.size, 0, none⟩, 1, 1⟩⟩) 25) = h2 at *
  refine newz fun h3 b3 f3 z3 => sto6 (v := ⟨7, ⟨#[]⟩, false, 1, ⟨none, 0, 0⟩, ⟨some ⟨h1.size, 0, none⟩, 1, 1⟩⟩) b3 rfl fun h4 b4 f4 => ?_
  have g24 : Grow h2 h4 := f3.trans' f4 fun i hi e => by omega
  have s24 := g24.size
  have B1 := (f2.trans g24).blk k1 fun h => h
  have B2 := g24.blk k2 fun h => h
  have tI : TyAt (fun b => b < h4.size) h4 tInt ⟨1, ⟨#[]⟩, false, 0, ⟨none, 0, 0⟩, ⟨none, 0, 0⟩⟩ := tyAt_iff.2 ⟨rfl, rfl, rfl, rfl, IntsC.nil _ _, rfl, fun j hj => by simp at hj⟩
  have tN : TyAt (fun b => b < h4.size) h4 tIn ⟨7, ⟨#[]⟩, true, 2, ⟨none, 0, 0⟩, ⟨some ⟨h.size, 0, none⟩, 1, 1⟩⟩ := tyAt_iff.2 ⟨rfl, rfl, rfl, rfl, IntsC.nil _ _, rfl, fun j hj => by
    obtain rfl : j = 0 := by simp at hj; omega
    refine ⟨_, _, rfl, by dsimp only; omega, ?_, tI⟩
    rw [Nat.zero_mul, add_zero]
    exact Tv6.blk B1⟩
  have tO : TyAt (fun b => b < h4.size) h4 tOut ⟨7, ⟨#[]⟩, false, 1, ⟨none, 0, 0⟩, ⟨some ⟨h1.size, 0, none⟩, 1, 1⟩⟩ := tyAt_iff.2 ⟨rfl, rfl, rfl, rfl, IntsC.nil _ _, rfl, fun j hj => by
    obtain rfl : j = 0 := by simp at hj; omega
    refine ⟨_, _, rfl, by dsimp only; omega, ?_, tN⟩
    rw [Nat.zero_mul, add_zero]
    exact Tv6.blk B2⟩
  have g4 : Grow h h4 := f1.trans (f2.trans g24)
  have up : ∀ {h' : Heap}, Grow h4 h' → ∀ b, b < h4.size → b < h4.size → b < h'.size := fun f b _ _ => by have := f.size; omega
  refine rd6 (Tv6.blk b4) ?_
  refine cal_of (wf_spec (ns := []) (fun _ => by simp [lkN]) tOut 3 (by omega) rfl _ h4 tO (needs_nil _ _)) ?_
  rintro _ h5 ⟨f5, s5, rfl, o5⟩
  rw [wf_out] at o5
  refine ⟨s5, rfl, ?_⟩
  refine rd6 (Tv6.blk (f5.blk b4 fun h => h)) ?_
  refine cal_of (allP_spec tOut 3 (by omega) rfl _ h5 (tO.grow f5)) ?_
  rintro _ h6 ⟨f6, s6, rfl, o6⟩
  rw [allT_out] at o6
  refine ⟨s6, rfl, ?_⟩
  rintro s12 h7 rfl rfl
  have f7 : Grow h6 (h6.push (.cells #[Value.int .i64 1, Value.int .i64 2] 3)) := Fr.push _ _ _
  have k7 := blk.new h6 #[Value.int .i64 1, Value.int .i64 2] 3
  generalize h6.push (.cells #[Value.int .i64 1, Value.int .i64 2] 3) = h7 at *
  have i12 : IntsAt h7 ⟨some ⟨h6.size, 0, none⟩, 2, 2⟩ [1, 2] := by
    refine ⟨rfl, fun i hi => ⟨_, rfl, ?_⟩⟩
    rw [add_plain, k7.cl]
    match i, hi with
    | 0, _ => rfl
    | 1, _ => rfl
  refine cal_of (Ints_spec (b := ⟨some ⟨h6.size, 0, none⟩, 2, 2⟩) (own_ints (o6.frame f7 fun _ _ h => h)) i12 (by simp)) ?_
  rintro _ _ ⟨rfl, rfl⟩
  have F7 : Grow h4 h7 := f5.trans (f6.trans f7)
  have hn5 : s5.n = 1 := by have := o5.len; simp [prs] at this; omega
  have p5 := own_prs (o5.frame (f6.trans f7) fun _ _ h => h)
  refine ⟨_, rfl, fun x => x = true, ⟨fun _ => ?_, fun e => ?_⟩, ?_⟩
  · obtain ⟨p, ea, _, c1, c2⟩ := p5.at_ 0 (by simp)
    rw [Nat.zero_mul, add_zero] at c1 c2
    exact ⟨p, ea, by omega, by rw [hn5]; decide, 2, 1, c1, c2, rfl⟩
  · rw [hn5] at e; simp at e
  rintro _ rfl
  refine ⟨fun x h' => Grow h7 h' ∧ x = true, ⟨fun _ => ?_, fun e => (by cases e)⟩, ?_⟩
  · refine rd6 (Tv6.blk (F7.blk b4 fun h => h)) ?_
    refine cal_of (copies_spec (tO.grow F7)) ?_
    rintro _ h8 ⟨f8, rfl⟩
    exact ⟨_, rfl, f8, rfl⟩
  rintro _ h9 ⟨f9, rfl⟩
  have F9 := F7.trans f9
  refine ⟨fun x h' => Grow h9 h' ∧ x = true, ⟨fun _ => ?_, fun e => (by cases e)⟩, ?_⟩
  · refine ⟨_, (Tv6.blk (F9.blk b4 fun h => h)).2.2.2.2.2, ?_⟩
    refine ⟨_, rfl, by decide, by dsimp only; omega, rd6 (Tv6.blk (F9.blk B2 fun h => h)) ?_⟩
    refine cal_of (copies_spec (tN.grow F9)) ?_
    rintro _ h10 ⟨f10, rfl⟩
    exact ⟨_, rfl, f10, rfl⟩
  rintro _ h11 ⟨f11, rfl⟩
  have F11 := F9.trans f11
  refine ⟨fun x h' => Grow h11 h' ∧ x = true, ⟨fun _ => ?_, fun e => (by cases e)⟩, ?_⟩
  · refine rd6 (Tv6.blk (F11.blk b4 fun h => h)) ?_
    refine cal_of (textP_spec tOut 3 (by omega) rfl _ h11 (tO.grow F11)) ?_
    rintro _ h12 ⟨f12, rfl⟩
    refine ⟨_, rfl, f12, ?_⟩
    rw [text_out]
    simp
  rintro _ h13 ⟨f13, rfl⟩
  exact ⟨g4.trans (F11.trans f13), rfl⟩
/-- a map with one entry -/
theorem wf_walk (v : Tv) (t : Ty) (s : Sv) (l : List (Int × Int)) (h : Heap) (hv : TyAt (fun b => b < h.size) h t v) (hs : PrQ (fun b => b < h.size) h s l) (hin : ∀ p ∈ l, inI p.1 ∧ inI p.2) :
    CallsH Try.prog 3 #[.agg (tvs v), .slice s.a s.n s.c] h (fun x h' => x = .bool true ∧ Grow h h') := by
  apply F3
  unfold L3
  refine new6 (v := v) fun h1 b1 f1 z1 => ?_
  refine cal_of (typed_spec h1) ?_
  rintro _ h2 ⟨f2, rfl⟩
  refine ⟨_, rfl, ?_⟩
  refine ⟨fun x h' => x = (!small 6 t) ∧ Grow h2 h', ⟨fun e => (by cases e), fun _ => ?_⟩, ?_⟩
  · refine rd6 (Tv6.blk (f2.blk b1 fun h => h)) ?_
    refine cal_of (small_spec 6 (by omega) t v h2 (hv.grow (f1.trans f2))) ?_
    rintro _ h3 ⟨f3, rfl⟩
    exact ⟨_, rfl, rfl, f3⟩
  rintro _ h3 ⟨rfl, f3⟩
  have g3 := f1.trans (f2.trans f3)
  refine ⟨fun e => ?_, fun e => ?_⟩
  · refine cal_of (typed_spec h3) ?_
    rintro _ h4 ⟨f4, rfl⟩
    exact ⟨_, rfl, rfl, g3.trans f4⟩
  simp only [Bool.or_eq_false_iff, Bool.not_eq_false', decide_eq_false_iff_not] at e
  obtain ⟨hsm, hlen⟩ := e
  have hll : l.length ≤ 10 := by have := hs.len; omega
  rintro m h6 rfl rfl
  refine ⟨h3.size, #[], 0, [], rfl, by simp, rfl, rfl, ?_⟩
  rintro h7 L' c' rfl hL
  have f7 : Grow h3 ((h3.push (.map #[] 0)).setIfInBounds h3.size (.map L' c')) := by
    refine ⟨by simp, fun b hb _ => ?_⟩
    rw [Array.getElem?_setIfInBounds, if_neg (by omega), Array.getElem?_push, if_neg (by omega)]
  have hm7 : ((h3.push (.map #[] 0)).setIfInBounds h3.size (.map L' c'))[h3.size]? = some (.map L' c') := by
    rw [Array.getElem?_setIfInBounds, if_pos rfl, if_pos (by simp)]
  have z7 : ((h3.push (.map #[] 0)).setIfInBounds h3.size (.map L' c')).size = h3.size + 1 := by simp
  generalize (h3.push (.map #[] 0)).setIfInBounds h3.size (.map L' c') = h7 at *
  have g7 := g3.trans f7
  have g7s := g7.size
  have hw : NeedsAt (fun b => b < h7.size) h7 (some h3.size) [(⟨#[83]⟩, l)] := by
    refine ⟨[(⟨#[83]⟩, s, l)], rfl, .inr ⟨h3.size, L', c', rfl, hm7, ?_⟩, fun r hr => ?_, fun e he => ?_⟩
    · rw [hL]; rfl
    · simp only [Option.some.injEq] at hr
      subst hr
      omega
    · simp only [List.mem_singleton] at he
      subst he
      exact ⟨(hs.fr g7 fun _ _ h => h).weak fun b hb _ => by omega, hin, hll⟩
  have ho : ∀ nm, (lkN nm [((⟨#[83]⟩ : ByteArray), l)]).length ≤ 10 := by
    intro nm
    unfold lkN
    split
    · exact hll
    · simp [lkN]
  have B7 := (f2.trans (f3.trans f7)).blk b1 fun h => h
  have hv7 : TyAt (fun b => b < h7.size) h7 t v := (hv.weak fun b hb _ => by omega).grow g7
  refine ⟨fun h' => Grow h7 h', Fr.refl _ _, rd6 (Tv6.blk B7) (hd6 (fun h' hs => Tv6.blk (hs.blk B7 fun h => h)) ?_)⟩
  refine cal_of (wf_spec ho t 6 (by omega) hsm v h7 hv7 hw) ?_
  rintro _ h8 ⟨f8, s8, rfl, o8⟩
  refine ⟨s8, rfl, f8, ?_⟩
  have up : ∀ b, b < h7.size → b < h7.size → b < h8.size := fun b _ _ => by have := f8.size; omega
  refine cal_of (wfR_spec ho t 6 (by omega) hsm v h8 ((hv7.weak up).grow f8) ((hw.weak up).fr f8 fun _ _ h => h)) ?_
  rintro _ h9 ⟨f9, s9, rfl, o9⟩
  refine ⟨s9, rfl, ?_⟩
  have hwl := wfL_len (of := fun nm => lkN nm [((⟨#[83]⟩ : ByteArray), l)]) ho 6 t hsm
  have hwb := wb6 (n := 6) (by omega)
  refine cal_of (pairsEq_spec (own_prs (o8.frame f9 fun _ _ h => h)) (own_prs o9) (Nat.le_trans hwl (Nat.le_trans hwb (by decide)))) ?_
  rintro _ _ ⟨rfl, rfl⟩
  exact ⟨_, rfl, by simp, g7.trans (f8.trans f9)⟩
end Go.Proofs.Ytohlfkomjmjheaa

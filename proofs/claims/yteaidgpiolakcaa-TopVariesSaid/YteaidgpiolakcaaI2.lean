/-
  A type with lifetimes and types put in.
-/
import Derived.Test.YteaidgpiolakcaaI1
namespace Go.Proofs.Yteaidgpiolakcaa.inst
open Go Go.Lf Go.Proofs.Yteaidgpiolakcaa
set_option linter.unusedVariables false

def lifeF (ls : List Int) (r : Int) : Int := if 1 ≤ r ∧ r ≤ ls.length then ls.getD (r - 1).toNat 0 else r
def nmIdx (nms : List ByteArray) (nm : ByteArray) : Option Nat := nms.findIdx? fun x => x.toList == nm.toList
def pickT (nms : List ByteArray) (bs : List Ty) (nm : ByteArray) : Option Ty := (nmIdx nms nm).bind fun i => bs[i]?
noncomputable def instT (g : Int → Int) (pk : ByteArray → Option Ty) : Ty → Ty :=
  Ty.rec (motive_1 := fun _ => Ty) (motive_2 := fun _ => List Ty)
    (fun k nm mu r rs az ih => if k = 9 then (pk nm).getD (.mk k nm mu r rs ih) else .mk k nm mu (if hasOwn (.mk k nm mu r rs az) = true then g r else r) (if k = 5 then rs.map g else rs) ih)
    [] (fun _ _ a b => a :: b)
theorem instT_rec (g : Int → Int) (pk : ByteArray → Option Ty) (az : List Ty) : (Ty.rec_1 (motive_1 := fun _ => Ty) (motive_2 := fun _ => List Ty)
    (fun k nm mu r rs az ih => if k = 9 then (pk nm).getD (.mk k nm mu r rs ih) else .mk k nm mu (if hasOwn (.mk k nm mu r rs az) = true then g r else r) (if k = 5 then rs.map g else rs) ih)
    [] (fun _ _ a b => a :: b) az : List Ty) = az.map (instT g pk) := by
  induction az with
  | nil => rfl
  | cons a az ih => rw [List.map_cons, ← ih]; rfl
theorem instT_mk (g : Int → Int) (pk : ByteArray → Option Ty) (k : Int) (nm : ByteArray) (mu : Bool) (r : Int) (rs : List Int) (az : List Ty) : instT g pk (.mk k nm mu r rs az) =
    if k = 9 then (pk nm).getD (.mk k nm mu r rs (az.map (instT g pk))) else .mk k nm mu (if hasOwn (.mk k nm mu r rs az) = true then g r else r) (if k = 5 then rs.map g else rs) (az.map (instT g pk)) := by
  rw [← instT_rec]; rfl
def tNil : List Ty → Ty := fun bs => .mk 0 ⟨#[]⟩ false 0 [] bs
structure EnvAt (Q : Nat → Prop) (h : Heap) (l nm ar : Sv) (ls : List Int) (nms : List ByteArray) (bs : List Ty) : Prop where
  ints : IntsQ Q h l ls
  nlen : nm.n = nms.length
  nat : ∀ i (hi : i < nms.length), ∃ p, nm.a = some p ∧ Q p.block ∧ cl h (p.add (i * 1)) = some (.string nms[i])
  args : TyAt Q h (tNil bs) ⟨0, ⟨#[]⟩, false, 0, ⟨none, 0, 0⟩, ar⟩
  small : nms.length ≤ 1000000 ∧ ls.length ≤ 1000000 ∧ bs.length ≤ 1000000
section
variable {Q Q' T : Nat → Prop} {h h' : Heap} {l nm ar : Sv} {ls : List Int} {nms : List ByteArray} {bs : List Ty}
theorem EnvAt.fr (x : EnvAt Q h l nm ar ls nms bs) (f : Fr T h h') (hT : ∀ b, Q b → ¬ T b) : EnvAt Q h' l nm ar ls nms bs :=
  ⟨x.ints.fr f hT, x.nlen, fun i hi => by obtain ⟨p, e, q, c⟩ := x.nat i hi; exact ⟨p, e, q, f.clk c (by rw [add_block]; exact hT _ q)⟩, x.args.fr f hT, x.small⟩
theorem EnvAt.weak (x : EnvAt Q h l nm ar ls nms bs) (hq : ∀ b, Q b → b < h.size → Q' b) : EnvAt Q' h l nm ar ls nms bs :=
  ⟨x.ints.weak hq, x.nlen, fun i hi => by obtain ⟨p, e, q, c⟩ := x.nat i hi; exact ⟨p, e, hq _ q (by rw [← add_block p (i * 1)]; exact cl_lt c), c⟩, x.args.weak hq, x.small⟩
theorem EnvAt.grow (x : EnvAt Q h l nm ar ls nms bs) (f : Grow h h') : EnvAt Q h' l nm ar ls nms bs := x.fr f fun _ _ h => h
theorem idx_spec (x : EnvAt Q h l nm ar ls nms bs) (s : ByteArray) : CallsH Try.prog 18 #[.slice nm.a nm.n nm.c, .string s] h (fun v h' => h = h' ∧ v = .int .i64 (match nmIdx nms s with | some i => (i : Int) | none => -1)) := by
  apply F18
  unfold L18
  have hsm := x.small.1
  refine ⟨fun i => ∃ j : Nat, i = j ∧ j ≤ nms.length ∧ ∀ q (hq : q < nms.length), q < j → (nms[q].toList == s.toList) = false, fun i => nms.length - i.toNat, ⟨0, rfl, Nat.zero_le _, fun q _ h => absurd h (Nat.not_lt_zero _)⟩, ?_⟩
  rintro _ ⟨j, rfl, hj, hall⟩
  rw [x.nlen]
  refine ifb_iff (q := j < nms.length) (by simp) (fun hl => ?_) (fun hl => ?_)
  · obtain ⟨p, e, _, c⟩ := x.nat j hl
    refine ⟨p, e, by omega, by rw [x.nlen]; omega, _, by rw [Int.toNat_natCast]; exact c, ?_⟩
    refine ⟨fun he => ⟨rfl, ?_⟩, fun he => ⟨⟨j + 1, wrap_succ hl (by omega), hl, fun q hq hqj => ?_⟩, ?_⟩⟩
    · have he' : (nms[j].toList == s.toList) = true := by rw [BEq.comm]; exact he
      have : nmIdx nms s = some j := by
        unfold nmIdx
        rw [List.findIdx?_eq_some_iff_getElem]
        exact ⟨hl, he', fun q hq => by rw [hall q (by omega) hq]; simp⟩
      rw [this]
    · rcases Nat.lt_or_ge q j with h1 | h1
      · exact hall q hq h1
      · obtain rfl : q = j := by omega
        rw [BEq.comm]; exact he
    · rw [wrap_succ hl (by omega)]
      simp only [Int.toNat_natCast]
      omega
  · refine ⟨rfl, ?_⟩
    have : nmIdx nms s = none := by
      unfold nmIdx
      rw [List.findIdx?_eq_none_iff]
      intro y hy
      obtain ⟨q, hq, rfl⟩ := List.mem_iff_getElem.1 hy
      exact hall q hq (by omega)
    rw [this]
theorem life_call {p : Nat} (x : EnvAt Q h l nm ar ls nms bs) (k : blk h p #[.slice l.a l.n l.c]) (r : Int) : CallsH Try.prog 19 #[.int .i64 r, .pointer (some ⟨p, 0, none⟩)] h (fun v h' => h = h' ∧ v = .int .i64 (lifeF ls r)) := by
  apply F19
  unfold L19
  have hl := x.ints.len
  have hs := x.small.2.1
  refine ⟨fun b => b = true ↔ (1 ≤ r ∧ r ≤ ls.length), ⟨fun e => ?_, fun e => ?_⟩, ?_⟩
  · refine ldS_i (k.cl 0) ?_
    have e' := of_decide_eq_true e
    show decide _ = true ↔ _
    rw [decide_eq_true_eq]
    omega
  · have e' := of_decide_eq_false e
    show false = true ↔ _
    constructor
    · intro h; cases h
    · intro h; exact absurd h.1 e'
  rintro b hb
  unfold lifeF
  refine ⟨fun e => ?_, fun e => ?_⟩
  · have hr := hb.1 e
    rw [if_pos hr]
    refine ldS_i (k.cl 0) ?_
    have hw : IntKind.i64.wrap (r - 1) = r - 1 := wrap64_id (by omega) (by omega)
    rw [hw]
    obtain ⟨q, e', _, c⟩ := x.ints.at_ (r - 1).toNat (by omega)
    refine ⟨q, e', by omega, by omega, _, c, rfl, ?_⟩
    rw [List.getD_eq_getElem?_getD, List.getElem?_eq_getElem (by omega)]
    rfl
  · have hr : ¬ (1 ≤ r ∧ r ≤ ls.length) := fun h => by rw [hb.2 h] at e; cases e
    rw [if_neg hr]
    exact ⟨rfl, rfl⟩
end
end Go.Proofs.Yteaidgpiolakcaa.inst

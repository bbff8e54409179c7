/-
  Check, by the program and by the document.
-/
import Derived.Test.YtglhkodebehdbaaS1
namespace Go.Proofs.Ytglhkodebehdbaa
open Go Go.Lf

def fitsB (n : Nat) (m : Int) (ls : List (List Int)) : Bool := decide (ls.length ≤ n) && ls.all (inB m)
def Pb.okB (p : Pb) : Bool := fitsB p.s.length p.s.length p.s && fitsB p.s.length p.w p.g && fitsB p.s.length p.w p.k && fitsB 1 p.w [p.e]
def Pb.wide (p : Pb) : Bool := decide (1201 < p.s.length) || decide (p.w < 0) || decide (4000 < p.w)
/-- which error -/
def Pb.chk (p : Pb) : Int := if p.wide then 2 else if p.okB then 0 else 14
/-- no list is longer than any machine's -/
structure Pb.Bd (p : Pb) : Prop where
  s : p.s.length ≤ 1000000
  g : p.g.length ≤ 1000000
  k : p.k.length ≤ 1000000
  s1 : ∀ l ∈ p.s, l.length ≤ 1000000
  g1 : ∀ l ∈ p.g, l.length ≤ 1000000
  k1 : ∀ l ∈ p.k, l.length ≤ 1000000
  e : p.e.length ≤ 1000000

section
variable {h : Heap} {a0 : Sv} {a1 : Int} {a2 a3 a4 : Sv} {p : Pb}
/-- a problem's value -/
def pbV (a0 : Sv) (a1 : Int) (a2 a3 a4 : Sv) : Value := .agg #[.slice a0.a a0.n a0.c, .int .i64 a1, .slice a2.a a2.n a2.c, .slice a3.a a3.n a3.c, .slice a4.a a4.n a4.c]
def pbC (a0 : Sv) (a1 : Int) (a2 a3 a4 : Sv) : Array Value := #[.slice a0.a a0.n a0.c, .int .i64 a1, .slice a2.a a2.n a2.c, .slice a3.a a3.n a3.c, .slice a4.a a4.n a4.c]
theorem one_list {h : Heap} {g : Nat} {s : Sv} {xs : List Int} (k : blk h g #[.slice s.a s.n s.c]) (x : IntsAt h s xs) : ListsAt h ⟨some ⟨g, 0, none⟩, 1, 1⟩ [xs] := by
  refine ⟨rfl, fun i hi => ⟨_, rfl, s, ?_, ?_⟩⟩
  · have : i = 0 := by simp at hi; omega
    subst this
    rw [add_plain, k.cl]
    rfl
  · have : i = 0 := by simp at hi; omega
    subst this
    exact x

theorem check_spec (x : PbAt h a0 a1 a2 a3 a4 p) (B : p.Bd) :
    CallsH Try.prog 15 #[pbV a0 a1 a2 a3 a4] h (fun v h' => v = .int .i64 p.chk ∧ Grow h h') := by
  apply F15
  unfold L15
  rintro p1 h1 rfl rfl
  have f1 : Grow h (h.push (.cells (pbC a0 a1 a2 a3 a4) 25)) := Fr.push _ _ _
  have kb := blk.new h (pbC a0 a1 a2 a3 a4) 25
  have x1 := x.grow f1
  have e1 : h.push (.cells #[.slice a0.a a0.n a0.c, .int .i64 a1, .slice a2.a a2.n a2.c, .slice a3.a a3.n a3.c, .slice a4.a a4.n a4.c] 25) = h.push (.cells (pbC a0 a1 a2 a3 a4) 25) := rfl
  rw [e1]
  generalize h.push (.cells (pbC a0 a1 a2 a3 a4) 25) = h1 at *
  have hw := x.w
  have hn := x.s.len
  have hB := B.s
  refine ldS_i (s := a0) (by rw [kb.cl]; rfl) ?_
  refine ⟨fun b => b = (decide (1201 < p.s.length) || decide (p.w < 0)), ⟨fun e => ?_, fun e => ldI_i (x := p.w) (by rw [add_plain, kb.cl, ← hw]; rfl) ?_⟩, ?_⟩
  · have : 1201 < p.s.length := by simp at e; omega
    simp [this]
  · have : ¬ 1201 < p.s.length := by simp at e; omega
    simp [this]
  rintro _ rfl
  refine ⟨fun b => b = p.wide, ⟨fun e => ?_, fun e => ldI_i (x := p.w) (by rw [add_plain, kb.cl, ← hw]; rfl) ?_⟩, ?_⟩
  · simp [Pb.wide] at e ⊢; omega
  · simp only [Pb.wide, e, Bool.false_or]
  rintro _ rfl
  refine ⟨fun e => ⟨?_, f1⟩, fun e => ?_⟩
  · simp [Pb.chk, e]
  have hn' : p.s.length ≤ 1201 := by simp [Pb.wide] at e; omega
  refine ldS_i (s := a0) (by rw [kb.cl]; rfl) ?_
  refine cal_of (fits_spec x1.s a0.n (a0.n : Int) (by omega) B.s1) ?_
  rintro _ _ ⟨rfl, rfl⟩
  refine ⟨_, rfl, ?_⟩
  refine ⟨fun b h' => h1 = h' ∧ b = !(fitsB p.s.length p.s.length p.s && fitsB p.s.length p.w p.g), ⟨fun e => ⟨rfl, ?_⟩, fun e => ?_⟩, ?_⟩
  · have e' : fitsB p.s.length p.s.length p.s = false := by simpa [fitsB, hn] using e
    rw [e']; rfl
  · have e' : fitsB p.s.length p.s.length p.s = true := by simpa [fitsB, hn] using e
    refine ldS_i (s := a2) (by rw [add_plain, kb.cl]; rfl) (ldI_i (x := p.w) (by rw [add_plain, kb.cl, ← hw]; rfl) ?_)
    refine cal_of (by rw [hn]; exact fits_spec x1.g _ _ (by omega) B.g1) ?_
    rintro _ _ ⟨rfl, rfl⟩
    refine ⟨_, rfl, rfl, ?_⟩
    rw [e', Bool.true_and]
    simp [fitsB]
  rintro _ _ ⟨rfl, rfl⟩
  refine ⟨fun b h' => h1 = h' ∧ b = !(fitsB p.s.length p.s.length p.s && fitsB p.s.length p.w p.g && fitsB p.s.length p.w p.k), ⟨fun e => ⟨rfl, ?_⟩, fun e => ?_⟩, ?_⟩
  · have e' : (fitsB p.s.length p.s.length p.s && fitsB p.s.length p.w p.g) = false := by rw [← Bool.not_eq_true']; exact e
    rw [e']; rfl
  · have e' : (fitsB p.s.length p.s.length p.s && fitsB p.s.length p.w p.g) = true := by rw [← Bool.not_eq_false']; exact e
    refine ldS_i (s := a3) (by rw [add_plain, kb.cl]; rfl) (ldI_i (x := p.w) (by rw [add_plain, kb.cl, ← hw]; rfl) ?_)
    refine cal_of (by rw [hn]; exact fits_spec x1.k _ _ (by omega) B.k1) ?_
    rintro _ _ ⟨rfl, rfl⟩
    refine ⟨_, rfl, rfl, ?_⟩
    rw [e', Bool.true_and]
    simp [fitsB]
  rintro _ _ ⟨rfl, rfl⟩
  refine ⟨fun b h' => Grow h1 h' ∧ b = !p.okB, ⟨fun e => ⟨Fr.refl _ _, ?_⟩, fun e => ?_⟩, ?_⟩
  · have e' : (fitsB p.s.length p.s.length p.s && fitsB p.s.length p.w p.g && fitsB p.s.length p.w p.k) = false := by rw [← Bool.not_eq_true']; exact e
    rw [Pb.okB, e']; rfl
  · have e' : (fitsB p.s.length p.s.length p.s && fitsB p.s.length p.w p.g && fitsB p.s.length p.w p.k) = true := by rw [← Bool.not_eq_false']; exact e
    refine ldS_i (s := a4) (by rw [add_plain, kb.cl]; rfl) ?_
    rintro s46 h8 rfl rfl
    have f8 : Grow h1 (h1.push (.cells #[.slice a4.a a4.n a4.c] 23)) := Fr.push _ _ _
    have k8 := blk.new h1 #[.slice a4.a a4.n a4.c] 23
    have y8 := one_list k8 (x1.e.keep f8 fun _ _ h => h)
    have kb8 := f8.blk kb (fun h => h)
    generalize h1.push (.cells #[.slice a4.a a4.n a4.c] 23) = h8 at *
    refine ldI_i (x := p.w) (by rw [add_plain, kb8.cl, ← hw]; rfl) ?_
    refine cal_of (fits_spec y8 1 p.w (by omega) (by simpa using B.e)) ?_
    rintro _ _ ⟨rfl, rfl⟩
    refine ⟨_, rfl, f8, ?_⟩
    rw [Pb.okB, e', Bool.true_and]
    simp [fitsB]
  rintro _ h7 ⟨g7, rfl⟩
  refine ⟨fun e1 => ⟨?_, f1.trans g7⟩, fun e1 => ⟨?_, f1.trans g7⟩⟩
  · have : p.okB = false := by rw [← Bool.not_eq_true']; exact e1
    simp [Pb.chk, e, this]
  · have : p.okB = true := by rw [← Bool.not_eq_false']; exact e1
    simp [Pb.chk, e, this]

theorem check_ref (x : PbAt h a0 a1 a2 a3 a4 p) (B : p.Bd) :
    CallsH Try.prog 11 #[pbV a0 a1 a2 a3 a4] h (fun v h' => v = .int .i64 p.chk ∧ Grow h h') := by
  apply F11
  unfold L11
  rintro p1 h1 rfl rfl
  have f1 : Grow h (h.push (.cells (pbC a0 a1 a2 a3 a4) 25)) := Fr.push _ _ _
  have kb := blk.new h (pbC a0 a1 a2 a3 a4) 25
  have x1 := x.grow f1
  have e1 : h.push (.cells #[.slice a0.a a0.n a0.c, .int .i64 a1, .slice a2.a a2.n a2.c, .slice a3.a a3.n a3.c, .slice a4.a a4.n a4.c] 25) = h.push (.cells (pbC a0 a1 a2 a3 a4) 25) := rfl
  rw [e1]
  generalize h.push (.cells (pbC a0 a1 a2 a3 a4) 25) = h1 at *
  have hw := x.w
  have hn := x.s.len
  have hB := B.s
  refine ldS_i (s := a0) (by rw [kb.cl]; rfl) ?_
  refine ⟨fun b => b = (decide (1201 < p.s.length) || decide (p.w < 0)), ⟨fun e => ?_, fun e => ldI_i (x := p.w) (by rw [add_plain, kb.cl, ← hw]; rfl) ?_⟩, ?_⟩
  · have : 1201 < p.s.length := by simp at e; omega
    simp [this]
  · have : ¬ 1201 < p.s.length := by simp at e; omega
    simp [this]
  rintro _ rfl
  refine ⟨fun b => b = p.wide, ⟨fun e => ?_, fun e => ldI_i (x := p.w) (by rw [add_plain, kb.cl, ← hw]; rfl) ?_⟩, ?_⟩
  · simp [Pb.wide] at e ⊢; omega
  · simp only [Pb.wide, e, Bool.false_or]
  rintro _ rfl
  refine ⟨fun e => ⟨?_, f1⟩, fun e => ?_⟩
  · simp [Pb.chk, e]
  have hn' : p.s.length ≤ 1201 := by simp [Pb.wide] at e; omega
  refine ldS_i (s := a0) (by rw [kb.cl]; rfl) ?_
  refine cal_of (in_spec x1.s (a0.n : Int) (a0.n : Int) (by omega) B.s1) ?_
  rintro _ _ ⟨rfl, rfl⟩
  refine ⟨_, rfl, ?_⟩
  refine ⟨fun b h' => h1 = h' ∧ b = !(fitsB p.s.length p.s.length p.s && fitsB p.s.length p.w p.g), ⟨fun e => ⟨rfl, ?_⟩, fun e => ?_⟩, ?_⟩
  · have e' : fitsB p.s.length p.s.length p.s = false := by simpa [fitsB, hn] using e
    rw [e']; rfl
  · have e' : fitsB p.s.length p.s.length p.s = true := by simpa [fitsB, hn] using e
    refine ldS_i (s := a2) (by rw [add_plain, kb.cl]; rfl) (ldI_i (x := p.w) (by rw [add_plain, kb.cl, ← hw]; rfl) ?_)
    refine cal_of (by rw [hn]; exact in_spec x1.g _ _ B.g B.g1) ?_
    rintro _ _ ⟨rfl, rfl⟩
    refine ⟨_, rfl, rfl, ?_⟩
    rw [e', Bool.true_and]
    simp [fitsB]
  rintro _ _ ⟨rfl, rfl⟩
  refine ⟨fun b h' => h1 = h' ∧ b = !(fitsB p.s.length p.s.length p.s && fitsB p.s.length p.w p.g && fitsB p.s.length p.w p.k), ⟨fun e => ⟨rfl, ?_⟩, fun e => ?_⟩, ?_⟩
  · have e' : (fitsB p.s.length p.s.length p.s && fitsB p.s.length p.w p.g) = false := by rw [← Bool.not_eq_true']; exact e
    rw [e']; rfl
  · have e' : (fitsB p.s.length p.s.length p.s && fitsB p.s.length p.w p.g) = true := by rw [← Bool.not_eq_false']; exact e
    refine ldS_i (s := a3) (by rw [add_plain, kb.cl]; rfl) (ldI_i (x := p.w) (by rw [add_plain, kb.cl, ← hw]; rfl) ?_)
    refine cal_of (by rw [hn]; exact in_spec x1.k _ _ B.k B.k1) ?_
    rintro _ _ ⟨rfl, rfl⟩
    refine ⟨_, rfl, rfl, ?_⟩
    rw [e', Bool.true_and]
    simp [fitsB]
  rintro _ _ ⟨rfl, rfl⟩
  refine ⟨fun b h' => Grow h1 h' ∧ b = !p.okB, ⟨fun e => ⟨Fr.refl _ _, ?_⟩, fun e => ?_⟩, ?_⟩
  · have e' : (fitsB p.s.length p.s.length p.s && fitsB p.s.length p.w p.g && fitsB p.s.length p.w p.k) = false := by rw [← Bool.not_eq_true']; exact e
    rw [Pb.okB, e']; rfl
  · have e' : (fitsB p.s.length p.s.length p.s && fitsB p.s.length p.w p.g && fitsB p.s.length p.w p.k) = true := by rw [← Bool.not_eq_false']; exact e
    refine ldS_i (s := a4) (by rw [add_plain, kb.cl]; rfl) ?_
    rintro s46 h8 rfl rfl
    have f8 : Grow h1 (h1.push (.cells #[.slice a4.a a4.n a4.c] 23)) := Fr.push _ _ _
    have k8 := blk.new h1 #[.slice a4.a a4.n a4.c] 23
    have y8 := one_list k8 (x1.e.keep f8 fun _ _ h => h)
    have kb8 := f8.blk kb (fun h => h)
    generalize h1.push (.cells #[.slice a4.a a4.n a4.c] 23) = h8 at *
    refine ldI_i (x := p.w) (by rw [add_plain, kb8.cl, ← hw]; rfl) ?_
    refine cal_of (in_spec y8 1 p.w (by simp) (by simpa using B.e)) ?_
    rintro _ _ ⟨rfl, rfl⟩
    refine ⟨_, rfl, f8, ?_⟩
    rw [Pb.okB, e', Bool.true_and]
    simp [fitsB]
  rintro _ h7 ⟨g7, rfl⟩
  refine ⟨fun e1 => ⟨?_, f1.trans g7⟩, fun e1 => ⟨?_, f1.trans g7⟩⟩
  · have : p.okB = false := by rw [← Bool.not_eq_true']; exact e1
    simp [Pb.chk, e, this]
  · have : p.okB = true := by rw [← Bool.not_eq_false']; exact e1
    simp [Pb.chk, e, this]
end
end Go.Proofs.Ytglhkodebehdbaa

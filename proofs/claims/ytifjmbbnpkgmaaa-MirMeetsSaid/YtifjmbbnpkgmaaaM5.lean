/-
  Small bodies: what may not be, what is done, their texts.
-/
import Derived.Test.YtifjmbbnpkgmaaaM4
import Derived.Test.YtifjmbbnpkgmaaaD1
namespace Go.Proofs.Ytifjmbbnpkgmaaa
open Go Go.Lf
set_option linter.unusedVariables false

section
variable {h : Heap}
/-- a row of ints searched by a function value -/
theorem contains_spec {fv : Value} {P : Int → Bool} {s : Sv} {xs : List Int} (x : IntsAt h s xs) (hb : xs.length ≤ 1000000)
    (hf : ∀ y, ∃ fno caps, fv = .func (.func fno) #[] caps ∧ IsFn Try.prog fno ∧ CallsH Try.prog fno (#[.int .i64 y] ++ caps) h (fun v h' => h = h' ∧ v = .bool (P y))) :
    CallsH Try.prog 24 #[.slice s.a s.n s.c, fv] h (fun v h' => h = h' ∧ v = .bool (xs.any P)) := by
  apply F24
  unfold L24
  have hn := x.len
  have key : CallsH Try.prog 37 #[.slice s.a s.n s.c, fv] h (fun v h' => h = h' ∧ ∃ i : Int, v = .int .i64 i ∧ decide (0 ≤ i) = xs.any P) := by
    apply F37
    unfold L37
    refine ⟨fun i h' => h = h' ∧ ∃ j : Nat, i = j ∧ j ≤ xs.length ∧ (xs.take j).any P = false, fun i _ => xs.length - i.toNat, ⟨rfl, 0, rfl, Nat.zero_le _, rfl⟩, ?_⟩
    rintro _ _ ⟨rfl, j, rfl, hj, hall⟩
    refine ifb_iff (q := j < xs.length) (by rw [hn]; simp) (fun hl => ?_) (fun hl => ?_)
    · obtain ⟨p, e, c⟩ := x.at_ j hl
      refine ⟨p, e, by omega, by rw [hn]; omega, _, by rw [Int.toNat_natCast]; exact c, ?_⟩
      obtain ⟨fno, caps, e1, e2, e3⟩ := hf xs[j]
      refine ⟨fno, caps, e1, e2, cal_of e3 ?_⟩
      rintro _ _ ⟨rfl, rfl⟩
      refine ⟨_, rfl, fun ht => ⟨rfl, j, rfl, ?_⟩, fun hf' => ⟨⟨rfl, j + 1, wrap_succ hl (by omega), hl, ?_⟩, ?_⟩⟩
      · have : xs.any P = true := List.any_eq_true.2 ⟨xs[j], List.getElem_mem hl, ht⟩
        rw [this]; simp
      · rw [List.take_succ_eq_append_getElem hl, List.any_append, hall]; simp [hf']
      · rw [wrap_succ hl (by omega)]; dsimp only; omega
    · have : j = xs.length := by omega
      subst this
      rw [List.take_length] at hall
      exact ⟨rfl, -1, rfl, by rw [hall]; rfl⟩
  refine cal_of key ?_
  rintro _ _ ⟨rfl, i, rfl, hi⟩
  exact ⟨_, rfl, rfl, by rw [hi]⟩
theorem IntsAt.nil (h : Heap) : IntsAt h ⟨none, 0, 0⟩ [] := ⟨rfl, fun i hi => by simp at hi⟩
theorem place_zero {b : Nat} {nm : ByteArray} {pa : Int} {lo co : Sv} (B : blk h b (bvs nm pa lo co)) (hlo : 0 < lo.n) :
    CallsH Try.prog 34 #[.pointer (some ⟨b, 0, none⟩), .agg (plc 0 ⟨none, 0, 0⟩)] h (fun v h' => Grow h h' ∧ v = .bool true) := by
  apply F34
  unfold L34
  refine newP fun h1 b1 f1 z1 => ?_
  have B1 := f1.blk B fun h => h
  refine ldI_i (x := 0) (by rw [b1.cl]; rfl) ?_
  have hloc : CallsH Try.prog 33 #[.pointer (some ⟨b, 0, none⟩), .int .i64 0] h1 (fun v h' => h1 = h' ∧ v = .bool true) := by
    apply F33
    unfold L33
    refine ⟨fun c => c = true, ⟨fun _ => ⟨_, rfl, ldS_i (s := lo) (by rw [add_plain, B1.cl]; rfl) ?_⟩, fun e => by simp at e⟩, ?_⟩
    · simp; omega
    · rintro _ rfl; exact ⟨rfl, rfl⟩
  refine cal_of hloc ?_
  rintro _ _ ⟨rfl, rfl⟩
  refine ⟨_, rfl, fun c h' => c = true ∧ h1 = h', ⟨fun _ => ldS_i (s := ⟨none, 0, 0⟩) (by rw [add_plain, b1.cl]; rfl) ?_, fun e => (by cases e)⟩, ?_⟩
  · refine cal_of (contains_spec (P := fun x => decide (x < -1)) (IntsAt.nil h1) (by simp) fun y => ⟨_, _, rfl, ⟨Try.f42, Try.func42, by kernel_rfl, by kernel_rfl⟩, ?_⟩) ?_
    · apply F42
      unfold L42
      exact ⟨rfl, rfl⟩
    · rintro _ _ ⟨rfl, rfl⟩
      exact ⟨_, rfl, rfl, rfl⟩
  · rintro _ _ ⟨rfl, rfl⟩
    exact ⟨f1, rfl⟩
/-- a choice: a right side without operands -/
abbrev rvs : Array Value := #[.int .i64 10, .slice none 0 0, .int .i64 0, .slice none 0 0, .bool false, .string (⟨#[]⟩ : ByteArray), .int .i64 0, .slice none 0 0]
theorem count_ten : CallsH Try.prog 43 #[.int .i64 10] h (fun v h' => h = h' ∧ v = .int .i64 0) := by
  apply F43
  unfold L43
  refine ⟨fun c => c = true, ⟨fun e => by simp at e, fun _ => rfl⟩, ?_⟩
  rintro _ rfl
  exact ⟨fun _ => ⟨rfl, rfl⟩, fun e => (by cases e)⟩
theorem right_choose {b : Nat} : CallsH Try.prog 35 #[.pointer (some ⟨b, 0, none⟩), .agg rvs] h (fun v h' => Grow h h' ∧ v = .bool true) := by
  apply F35 (r1_1 := ⟨none, 0, 0⟩) (r1_3 := ⟨none, 0, 0⟩) (r1_7 := ⟨none, 0, 0⟩)
  unfold L35
  rintro p2 h1 rfl rfl
  have k1 := blk.new h #[Value.pointer (some ⟨b, 0, none⟩)] 37
  have f1 : Grow h (h.push (.cells #[Value.pointer (some ⟨b, 0, none⟩)] 37)) := Fr.push _ _ _
  generalize h.push (.cells #[Value.pointer (some ⟨b, 0, none⟩)] 37) = h1 at *
  rintro p3 h2 rfl rfl
  have k2 := blk.new h1 rvs 56
  have f2 : Grow h1 (h1.push (.cells rvs 56)) := Fr.push _ _ _
  generalize h1.push (.cells rvs 56) = h2 at *
  refine ldI_i (x := 10) (by rw [k2.cl]; rfl) ?_
  refine cal_of (count_ten (h := h2)) ?_
  rintro _ _ ⟨rfl, rfl⟩
  refine ⟨_, rfl, ?_⟩
  refine ⟨fun c => c = false, ⟨fun e => by simp at e, fun _ => ⟨fun c => c = false, ⟨fun _ => ldS_i (s := ⟨none, 0, 0⟩) (by rw [add_plain, k2.cl]; rfl) rfl, fun e => by simp at e⟩, fun _ h => h⟩⟩, ?_⟩
  rintro _ rfl
  refine ⟨fun c h' => c = false ∧ h2 = h', ⟨fun e => (by cases e), fun _ => ldI_i (x := 10) (by rw [k2.cl]; rfl) ⟨fun c h' => c = false ∧ h2 = h', ⟨fun e => by simp at e, fun _ => ⟨rfl, rfl⟩⟩, fun _ _ h => h⟩⟩, ?_⟩
  rintro _ _ ⟨rfl, rfl⟩
  refine ⟨fun c => c = false, ⟨fun e => (by cases e), fun _ => ldI_i (x := 10) (by rw [k2.cl]; rfl) ⟨fun c => c = false, ⟨fun e => by simp at e, fun _ => rfl⟩, fun _ h => h⟩⟩, ?_⟩
  rintro _ rfl
  refine ⟨fun e => (by cases e), fun _ => ldS_i (s := ⟨none, 0, 0⟩) (by rw [add_plain, k2.cl]; rfl) ?_⟩
  have key : ∀ fv : Value, CallsH Try.prog 44 #[.slice none 0 0, fv] h2 (fun v h' => h2 = h' ∧ v = .bool false) := by
    intro fv
    apply F44 (s0 := ⟨none, 0, 0⟩)
    unfold L44
    have k3 : CallsH Try.prog 48 #[.slice none 0 0, fv] h2 (fun v h' => h2 = h' ∧ v = .int .i64 (-1)) := by
      apply F48 (s0 := ⟨none, 0, 0⟩)
      unfold L48
      refine ⟨fun i h' => i = 0 ∧ h2 = h', fun _ _ => 0, ⟨rfl, rfl⟩, ?_⟩
      rintro _ _ ⟨rfl, rfl⟩
      exact ⟨fun e => by simp at e, fun _ => ⟨rfl, rfl⟩⟩
    refine cal_of k3 ?_
    rintro _ _ ⟨rfl, rfl⟩
    exact ⟨_, rfl, rfl, rfl⟩
  refine cal_of (key _) ?_
  rintro _ _ ⟨rfl, rfl⟩
  exact ⟨_, rfl, f1.trans f2, rfl⟩
theorem Iv21.nest {b : Nat} {v : Iv} (x : Iv21 h ⟨b, 0, none⟩ v) (j k : Nat) {u : Value} (hu : (ivs v)[j + k]? = some u) : cl h (((⟨b, 0, none⟩ : Addr).add j).add k) = some u := by
  have := x (j + k) u hu
  rw [add_plain] at this
  rw [add_plain, add_plain, Nat.add_assoc]
  exact this
def ivA : Iv := { zIv with k := 3, rk := 10 }
def ivR : Iv := { zIv with k := 6 }
def ivJ : Iv := { zIv with k := 4, to := 1 }
theorem instr_ok {b : Nat} {nm : ByteArray} {pa : Int} {lo co : Sv} (B : blk h b (bvs nm pa lo co)) (hlo : 0 < lo.n) {v : Iv} (hv : v = ivA ∨ v = ivR ∨ v = ivJ) :
    CallsH Try.prog 23 #[.pointer (some ⟨b, 0, none⟩), .agg (ivs v)] h (fun u h' => Grow h h' ∧ u = .bool true) := by
  apply F23 
  unfold L23
  refine newI (v := v) fun h1 b1 f1 z1 => ?_
  have T := Iv21.blk b1
  have c0 := T 0 _ rfl
  rw [add_zero] at c0
  have B1 := f1.blk B fun h => h
  refine ldI_i c0 ?_
  have hk : v.k = 3 ∨ v.k = 6 ∨ v.k = 4 := by rcases hv with rfl | rfl | rfl <;> simp [ivA, ivR, ivJ]
  refine ⟨fun c => c = false, ifb_iff (q := v.k = 1) (by simp) (fun q => by omega) (fun q => by simp; omega), ?_⟩
  rintro _ rfl
  refine ⟨fun e => (by cases e), fun _ => ?_⟩
  refine ifb_iff (q := v.k = 3) (by simp) (fun h3 => ?_) (fun h3 => ?_)
  · have hvA : v = ivA := by
      rcases hv with e | rfl | rfl
      · exact e
      · simp [ivR] at h3
      · simp [ivJ] at h3
    subst hvA
    refine ⟨0, ⟨none, 0, 0⟩, T 2 _ rfl, T.nest 2 1 rfl, ?_⟩
    refine cal_of (place_zero B1 hlo) ?_
    rintro _ h3' ⟨f3, rfl⟩
    have T3 := Iv21.blk (f3.blk b1 fun h => h)
    refine ⟨_, rfl, fun c h' => c = true ∧ Grow h1 h', ⟨fun _ => ?_, fun e => (by cases e)⟩, ?_⟩
    · refine ⟨10, ⟨none, 0, 0⟩, 0, ⟨none, 0, 0⟩, false, ⟨#[]⟩, 0, ⟨none, 0, 0⟩, T3 4 _ rfl, T3.nest 4 1 rfl, T3.nest 4 2 rfl, T3.nest 4 3 rfl, T3.nest 4 4 rfl, T3.nest 4 5 rfl, T3.nest 4 6 rfl, T3.nest 4 7 rfl, ?_⟩
      refine cal_of (right_choose (b := b)) ?_
      rintro _ h5 ⟨f5, rfl⟩
      exact ⟨_, rfl, rfl, f3.trans f5⟩
    · rintro _ h4 ⟨rfl, f4⟩
      exact ⟨f1.trans f4, rfl⟩
  refine ⟨fun e => by simp at e; omega, fun _ => ?_⟩
  refine ldI_i c0 ?_
  refine ⟨fun c => c = true, ⟨fun _ => ldI_i c0 ?_, fun e => by simp at e; omega⟩, ?_⟩
  · simp; omega
  · rintro _ rfl
    exact ⟨f1, rfl⟩
/-- Check: a body whose instructions may all be -/
theorem check_spec {b : Nat} {nm : ByteArray} {lo co : Sv} {l : List Iv} (B : blk h b (bvs nm 0 lo co)) (x : CodeAt h co l) (hlo : 0 < lo.n) (hl0 : 0 < l.length) (hl : l.length ≤ 1000) (hv : ∀ v ∈ l, v = ivA ∨ v = ivR ∨ v = ivJ) :
    CallsH Try.prog 13 #[.pointer (some ⟨b, 0, none⟩)] h (fun v h' => Grow h h' ∧ ∃ i : Int, v = .int .i64 i ∧ ((i = -1 ∧ ∀ j, j < l.length → (succL l j).any (fun to => decide (to < 0) || decide ((l.length : Int) ≤ to)) = false) ∨
      ∃ j : Nat, i = j ∧ j < l.length ∧ (succL l j).any (fun to => decide (to < 0) || decide ((l.length : Int) ≤ to)) = true)) := by
  apply F13
  unfold L13
  have hn := x.len
  rintro p1 h1 rfl rfl
  have k1 := blk.new h #[Value.pointer (some ⟨b, 0, none⟩)] 37
  have f1 : Grow h (h.push (.cells #[Value.pointer (some ⟨b, 0, none⟩)] 37)) := Fr.push _ _ _
  generalize h.push (.cells #[Value.pointer (some ⟨b, 0, none⟩)] 37) = h1 at *
  have hp : ∀ {h'}, Grow h1 h' → cl h' ⟨h.size, 0, none⟩ = some (.pointer (some ⟨b, 0, none⟩)) := fun g => by rw [(g.blk k1 fun h => h).cl]; rfl
  have hB : ∀ {h'}, Grow h1 h' → blk h' b (bvs nm 0 lo co) := fun g => (f1.trans g).blk B fun h => h
  have B1 := hB (Fr.refl _ h1)
  refine ⟨fun c => c = false, ⟨_, hp (Fr.refl _ _), ?_⟩, ?_⟩
  · refine ⟨fun e => (by cases e), fun _ => ⟨_, hp (Fr.refl _ _), _, rfl, ldI_i (x := 0) (by rw [add_plain, B1.cl]; rfl) ⟨fun e => by simp at e, fun _ => ⟨_, hp (Fr.refl _ _), _, rfl, ldS_i (s := lo) (by rw [add_plain, B1.cl]; rfl) ⟨_, hp (Fr.refl _ _), _, rfl, ldI_i (x := 0) (by rw [add_plain, B1.cl]; rfl) ⟨fun e => by simp at e; omega, fun _ => ⟨_, hp (Fr.refl _ _), _, rfl, ldS_i (s := co) (by rw [add_plain, B1.cl]; rfl) ?_⟩⟩⟩⟩⟩⟩⟩
    show (_ == _) = false
    rw [beq_eq_false_iff_ne]
    omega
  rintro _ rfl
  refine ⟨fun e => (by cases e), fun _ => ⟨_, hp (Fr.refl _ _), _, rfl, ldS_i (s := co) (by rw [add_plain, B1.cl]; rfl) ?_⟩⟩
  refine ⟨fun y h' => ∃ j : Nat, y = j ∧ j ≤ l.length ∧ Grow h1 h' ∧ ∀ q, q < j → (succL l q).any (fun to => decide (to < 0) || decide ((l.length : Int) ≤ to)) = false, fun y _ => l.length - y.toNat, ⟨0, rfl, Nat.zero_le _, Fr.refl _ _, fun q h => absurd h (Nat.not_lt_zero _)⟩, ?_⟩
  rintro _ h2 ⟨j, rfl, hj, g2, hall⟩
  refine ifb_iff (q := j < l.length) (by rw [hn]; simp) (fun hlt => ?_) (fun hge => ?_)
  rotate_left
  · exact ⟨f1.trans g2, -1, rfl, .inl ⟨rfl, fun q hq => hall q (by omega)⟩⟩
  obtain ⟨p, ea, T⟩ := (x.grow (f1.trans g2)).at_ j hlt
  refine ⟨p, ea, by omega, by rw [hn]; omega, ?_⟩
  rw [Int.toNat_natCast]
  refine rdI T ?_
  have hvj := hv l[j] (List.getElem_mem hlt)
  refine mineI (v := l[j]) fun h4 b4 f4 => ?_
  have g4 := g2.trans f4
  refine ⟨_, hp g4, rdI (Iv21.blk b4) ?_⟩
  refine cal_of (instr_ok (hB g4) hlo hvj) ?_
  rintro _ h5 ⟨f5, rfl⟩
  have g5 := g4.trans f5
  refine ⟨_, rfl, fun c h' => c = (succL l j).any (fun to => decide (to < 0) || decide ((l.length : Int) ≤ to)) ∧ Grow h5 h', ⟨fun e => (by cases e), fun _ => ⟨_, hp g5, ?_⟩⟩, ?_⟩
  · refine cal_of (succ_spec (hB g5) (x.grow (f1.trans g5)) hlt) ?_
    rintro _ h7 ⟨s51, rfl, f7, x7, _⟩
    refine ⟨s51, rfl, ?_⟩
    have g7 := g5.trans f7
    refine cal_of (contains_spec (P := fun to => decide (to < 0) || decide ((l.length : Int) ≤ to)) x7 (by have := succ_len l j; omega) fun y => ⟨_, _, rfl, ⟨Try.f25, Try.func25, by kernel_rfl, by kernel_rfl⟩, ?_⟩) ?_
    · apply F25 (x1 := ⟨h.size, 0, none⟩)
      unfold L25
      refine ⟨fun c => c = (decide (y < 0) || decide ((l.length : Int) ≤ y)), ⟨fun e => by rw [e]; rfl, fun e => ⟨_, hp g7, _, rfl, ldS_i (s := co) (by rw [add_plain, (hB g7).cl]; rfl) (by rw [e, hn]; rfl)⟩⟩, ?_⟩
      rintro _ rfl
      exact ⟨rfl, rfl⟩
    · rintro _ _ ⟨rfl, rfl⟩
      exact ⟨_, rfl, rfl, f7⟩
  rintro _ h6 ⟨rfl, f6⟩
  refine ⟨fun e => ⟨f1.trans (g5.trans f6), j, rfl, .inr ⟨j, rfl, hlt, e⟩⟩, fun e => ?_⟩
  rw [wrap_succ hlt (by omega)]
  refine ⟨⟨j + 1, rfl, hlt, g5.trans f6, fun q hq => ?_⟩, by dsimp only; omega⟩
  rcases Nat.lt_or_ge q j with h | h
  · exact hall q h
  · obtain rfl : q = j := by omega
    exact e
end
end Go.Proofs.Ytifjmbbnpkgmaaa

/-
  NumFloats walked.
-/
import Derived.Test.YtfafhadklhnemaaS7
namespace Go.Proofs.Ytfafhadklhnemaa
open Go Go.Lf Ieee

theorem two_le_kd (a : Nat) : (2 ≤ kd a ∧ kd a ≤ 5) ↔ rung a < infR := by
  have hi := infR_eq
  unfold kd
  repeat' split
  all_goals omega
theorem kd_zero (a : Nat) : (kd a == 0) = nanb a := by
  have h := kd_pos a
  have h0 : 0 ≤ kd a := by unfold kd; repeat' split
                           all_goals omega
  unfold nanb
  rw [Bool.eq_iff_iff, decide_eq_true_iff, beq_iff_eq]
  omega
section
variable {h : Heap}
theorem cal_i {f : FuncId} {args : Array Value} {k : IntKind} {x : Int} {K : Int → Heap → Prop} (c : CallsH Try.prog f args h (fun v h' => h = h' ∧ v = .int k x)) (hk : K x h) :
    cal Try.prog f args h fun u h1 => asI k u fun y => K y h1 := cal_of c (by rintro _ _ ⟨rfl, rfl⟩; exact ⟨_, rfl, hk⟩)
theorem cal_b {f : FuncId} {args : Array Value} {x : Bool} {K : Bool → Heap → Prop} (c : CallsH Try.prog f args h (fun v h' => h = h' ∧ v = .bool x)) (hk : K x h) :
    cal Try.prog f args h fun u h1 => asB u fun y => K y h1 := cal_of c (by rintro _ _ ⟨rfl, rfl⟩; exact ⟨_, rfl, hk⟩)
theorem orp {b q : Bool} {m : (Bool → Heap → Prop) → Prop} {K : Bool → Heap → Prop} (hm : b = false → ∀ k : Bool → Heap → Prop, k q h → m k) (hk : K (b || q) h) :
    ∃ J : Bool → Heap → Prop, orj b m h J ∧ ∀ x h', J x h' → K x h' :=
  ⟨fun x h' => x = (b || q) ∧ h = h', ⟨fun e => ⟨by rw [e]; rfl, rfl⟩, fun e => hm e _ ⟨by rw [e]; rfl, rfl⟩⟩, by rintro _ _ ⟨rfl, rfl⟩; exact hk⟩
theorem andp {b q : Bool} {m : (Bool → Heap → Prop) → Prop} {K : Bool → Heap → Prop} (hm : b = true → ∀ k : Bool → Heap → Prop, k q h → m k) (hk : K (b && q) h) :
    ∃ J : Bool → Heap → Prop, andj b m h J ∧ ∀ x h', J x h' → K x h' :=
  ⟨fun x h' => x = (b && q) ∧ h = h', ⟨fun e => hm e _ ⟨by rw [e]; rfl, rfl⟩, fun e => ⟨by rw [e]; rfl, rfl⟩⟩, by rintro _ _ ⟨rfl, rfl⟩; exact hk⟩
theorem kz (a : Nat) (ha : a < 18446744073709551616) {K : Int → Heap → Prop} (hk : K (kd a) h) : cal Try.prog 16 #[.int .u64 a] h fun u h1 => asI .i64 u fun y => K y h1 := cal_i (kindR_spec a ha) hk
theorem finite_spec (a : Nat) (ha : a < 18446744073709551616) : CallsH Try.prog 51 #[.int .u64 a] h (fun v h' => h = h' ∧ v = .bool (finb a)) := by
  apply F51
  unfold L51
  refine kz a ha (andp (q := decide (kd a ≤ 5)) (fun _ k hk => kz a ha hk) ⟨rfl, ?_⟩)
  congr 1
  unfold finb
  rw [Bool.eq_iff_iff, Bool.and_eq_true, decide_eq_true_iff, decide_eq_true_iff, decide_eq_true_iff]
  exact two_le_kd a
theorem fz (a : Nat) (ha : a < 18446744073709551616) {K : Bool → Heap → Prop} (hk : K (finb a) h) : cal Try.prog 51 #[.int .u64 a] h fun u h1 => asB u fun y => K y h1 := cal_b (finite_spec a ha) hk
theorem zz (a : Nat) (ha : a < 18446744073709551616) {K : Bool → Heap → Prop} (hk : K (zerb a) h) : cal Try.prog 52 #[.int .u64 a] h fun u h1 => asB u fun y => K y h1 := cal_b (zero_spec a ha) hk
theorem bits_spec (r : Nat) : CallsH Try.prog 50 #[.float .f64 r] h (fun v h' => h = h' ∧ v = .int .u64 (plainN r : Nat)) := by
  apply F50
  unfold L50
  by_cases hn : infR < rung r
  · rw [fO_none (.inl hn)]
    exact ⟨fun _ => ⟨rfl, by unfold plainN; rw [if_pos hn]; rfl⟩, fun e => (by cases e)⟩
  · rw [fO_row (by omega) (by omega), Int.compare_eq_eq.2 rfl]
    exact ⟨fun e => (by cases e), fun _ => ⟨rfl, by unfold plainN; rw [if_neg hn]⟩⟩
theorem plainR_spec (r : Nat) (hr : r < 18446744073709551616) : CallsH Try.prog 56 #[.int .u64 r] h (fun v h' => h = h' ∧ v = .int .u64 (plainN r : Nat)) := by
  apply F56
  unfold L56
  refine kz r hr ?_
  rw [kd_zero]
  exact ifb_dec (fun hn => ⟨rfl, by unfold plainN; rw [if_pos hn]; rfl⟩) (fun hn => ⟨rfl, by unfold plainN; rw [if_neg hn]⟩)
theorem of_spec (r : Nat) (hr : r < 18446744073709551616) : CallsH Try.prog 53 #[.float .f64 r] h (fun v h' => h = h' ∧ v = .int .u64 (plainN r : Nat)) := by
  apply F53
  unfold L53
  exact cal_i (plainR_spec r hr) ⟨rfl, rfl⟩
theorem plain_spec (a : Nat) : CallsH Try.prog 33 #[.int .u64 a] h (fun v h' => h = h' ∧ v = .int .u64 (plainN a : Nat)) := by
  apply F33
  unfold L33
  rw [Int.toNat_natCast]
  exact cal_i (bits_spec a) ⟨rfl, rfl⟩
theorem plain2_spec (a : Nat) (ha : a < 18446744073709551616) : CallsH Try.prog 34 #[.int .u64 a] h (fun v h' => h = h' ∧ v = .int .u64 (plainN a : Nat)) := by
  apply F34
  unfold L34
  exact cal_i (plainR_spec a ha) ⟨rfl, rfl⟩
theorem fneg_spec (a : Nat) : CallsH Try.prog 31 #[.int .u64 a] h (fun v h' => h = h' ∧ v = .int .u64 (plainN (Op.negFloat .f64 a) : Nat)) := by
  apply F31
  unfold L31
  rw [Int.toNat_natCast]
  exact cal_i (bits_spec _) ⟨rfl, rfl⟩
theorem bits_xor (a b : Nat) (ha : a < 18446744073709551616) (hb : b < 18446744073709551616) : bitsI .xor .u64 (a : Int) (b : Int) = ((a ^^^ b : Nat) : Int) := by
  have e1 : (BitVec.ofInt 64 (a : Int)).toNat = a := by
    rw [BitVec.ofInt_natCast, BitVec.toNat_ofNat]; exact Nat.mod_eq_of_lt ha
  have e2 : (BitVec.ofInt 64 (b : Int)).toNat = b := by
    rw [BitVec.ofInt_natCast, BitVec.toNat_ofNat]; exact Nat.mod_eq_of_lt hb
  show IntKind.u64.wrap (((BitVec.ofInt 64 (a : Int)) ^^^ (BitVec.ofInt 64 (b : Int))).toNat : Int) = _
  rw [wrap_word, BitVec.toNat_xor, e1, e2]
theorem fnegR_spec (a : Nat) (ha : a < 18446744073709551616) : CallsH Try.prog 32 #[.int .u64 a] h (fun v h' => h = h' ∧ v = .int .u64 (plainN (Op.negFloat .f64 a) : Nat)) := by
  apply F32
  unfold L32
  have e : bitsI .xor .u64 (a : Int) 9223372036854775808 = ((Op.negFloat .f64 a : Nat) : Int) := bits_xor a 9223372036854775808 ha (by omega)
  rw [e]
  exact cal_i (plainR_spec _ (negF a ha).2.2) ⟨rfl, rfl⟩
/-- the four, of the program -/
theorem fl_spec {op : BinOp} {a b : Nat} {K : Int → Heap → Prop} (hR : K (fV op a b : Nat) h) :
    flA op ((a : Int)).toNat ((b : Int)).toNat fun r => cal Try.prog 50 #[.float .f64 r] h fun u h1 => asI .u64 u fun x => K x h1 := by
  rw [Int.toNat_natCast, Int.toNat_natCast]
  intro r hr
  refine cal_i (bits_spec r) ?_
  rw [(far_bits hr).2]
  exact hR
theorem flR_spec {op : BinOp} {a b : Nat} {K : Int → Heap → Prop} (hR : K (fV op a b : Nat) h) :
    flA op ((a : Int)).toNat ((b : Int)).toNat fun r => cal Try.prog 53 #[.float .f64 r] h fun u h1 => asI .u64 u fun x => K x h1 := by
  rw [Int.toNat_natCast, Int.toNat_natCast]
  intro r hr
  refine cal_i (of_spec r (far_bits hr).1) ?_
  rw [(far_bits hr).2]
  exact hR
theorem fadd_spec (a b : Nat) : CallsH Try.prog 23 #[.int .u64 a, .int .u64 b] h (fun v h' => h = h' ∧ v = .int .u64 (fV .add a b : Nat)) := by
  apply F23; unfold L23; exact fl_spec ⟨rfl, rfl⟩
theorem fsub_spec (a b : Nat) : CallsH Try.prog 25 #[.int .u64 a, .int .u64 b] h (fun v h' => h = h' ∧ v = .int .u64 (fV .sub a b : Nat)) := by
  apply F25; unfold L25; exact fl_spec ⟨rfl, rfl⟩
theorem fmul_spec (a b : Nat) : CallsH Try.prog 27 #[.int .u64 a, .int .u64 b] h (fun v h' => h = h' ∧ v = .int .u64 (fV .mul a b : Nat)) := by
  apply F27; unfold L27; exact fl_spec ⟨rfl, rfl⟩
theorem fdiv_spec (a b : Nat) : CallsH Try.prog 29 #[.int .u64 a, .int .u64 b] h (fun v h' => h = h' ∧ v = .int .u64 (fV .quo a b : Nat)) := by
  apply F29; unfold L29; exact fl_spec ⟨rfl, rfl⟩

theorem split3 (a : Nat) : infR < rung a ∨ (rung a = infR ∧ double.read a = .infinity (sgnB a)) ∨ ∃ m e, rung a < infR ∧ double.read a = .number (sgnB a) m e ∧ (m = 0 ↔ rung a = 0) := by
  rcases Nat.lt_trichotomy (rung a) infR with h | h | h
  · obtain ⟨m, e, h1, h2⟩ := read_num h; exact .inr (.inr ⟨m, e, h, h1, h2⟩)
  · exact .inr (.inl ⟨h, read_inf h⟩)
  · exact .inl h
theorem shows_zero (s : Bool) (e : Int) : double.word (shows (.number s 0 e)).1 (shows (.number s 0 e)).2 = double.word s 0 := by
  show double.word s (rr 0 e) = _
  rw [rr_zero]
theorem faddR_spec (a b : Nat) (ha : a < 18446744073709551616) (hb : b < 18446744073709551616) : CallsH Try.prog 24 #[.int .u64 a, .int .u64 b] h (fun v h' => h = h' ∧ v = .int .u64 (fV .add a b : Nat)) := by
  apply F24
  unfold L24
  refine kz a ha (orp (q := nanb b) (fun _ k hk => kz b hb (by rw [kd_zero]; exact hk)) ?_)
  rw [kd_zero]
  refine ⟨fun e => ⟨rfl, ?_⟩, fun e => fz a ha ?_⟩
  · rw [fV_nan (by simpa [nanb] using e)]; rfl
  obtain ⟨na, nb⟩ : rung a ≤ infR ∧ rung b ≤ infR := by
    simp only [nanb, Bool.or_eq_false_iff, decide_eq_false_iff_not] at e; omega
  rcases split3 a with h0 | ⟨ia, ra⟩ | ⟨m, i, fa, ra, za⟩
  · omega
  · have f1 : finb a = false := by unfold finb; rw [ia]; decide
    rw [f1]
    refine ⟨fun _ => fz b hb ?_, fun e => (by cases e)⟩
    rcases split3 b with h0 | ⟨ib, rb⟩ | ⟨n, j, fb, rb, zb⟩
    · omega
    · have f2 : finb b = false := by unfold finb; rw [ib]; decide
      rw [f2]
      by_cases hab : sgnB a = sgnB b
      · have : a = b := by rw [← word_rd a ha, ← word_rd b hb, hab, ia, ib]
        subst this
        refine ⟨fun e => (by simp at e), fun _ => ⟨rfl, ?_⟩⟩
        rw [fV_some (d := .infinity (sgnB a)) (by unfold fD; simp only []; rw [ra]; unfold Datum.sum; simp)]
        show _ = Value.int .u64 ((double.word (sgnB a) infR : Nat) : Int)
        rw [← ia, word_rd a ha]
      · refine ⟨fun _ => ⟨rfl, ?_⟩, fun e => ?_⟩
        · rw [fV_none (by unfold fD; simp only []; rw [ra, rb]; unfold Datum.sum; simp [hab])]; rfl
        · simp only [Bool.not_false, Bool.true_and] at e
          have hab2 : (a : Int) = (b : Int) := by simpa using e
          have : a = b := by omega
          exact absurd (by rw [this]) hab
    · have f2 : finb b = true := by unfold finb; exact decide_eq_true fb
      rw [f2]
      refine ⟨fun e => (by cases e), fun _ => ⟨rfl, ?_⟩⟩
      rw [fV_some (d := .infinity (sgnB a)) (by unfold fD; simp only []; rw [ra, rb]; rfl)]
      show _ = Value.int .u64 ((double.word (sgnB a) infR : Nat) : Int)
      rw [← ia, word_rd a ha]
  · have f1 : finb a = true := by unfold finb; exact decide_eq_true fa
    rw [f1]
    refine ⟨fun e => (by cases e), fun _ => fz b hb ?_⟩
    rcases split3 b with h0 | ⟨ib, rb⟩ | ⟨n, j, fb, rb, zb⟩
    · omega
    · have f2 : finb b = false := by unfold finb; rw [ib]; decide
      rw [f2]
      refine ⟨fun _ => ⟨rfl, ?_⟩, fun e => (by cases e)⟩
      rw [fV_some (d := .infinity (sgnB b)) (by unfold fD; simp only []; rw [ra, rb]; rfl)]
      show _ = Value.int .u64 ((double.word (sgnB b) infR : Nat) : Int)
      rw [← ib, word_rd b hb]
    · have f2 : finb b = true := by unfold finb; exact decide_eq_true fb
      rw [f2]
      refine ⟨fun e => (by cases e), fun _ => zz a ha (andp (q := zerb b) (fun _ k hk => zz b hb hk) ?_)⟩
      refine ⟨fun e => ⟨rfl, ?_⟩, fun _ => flR_spec ⟨rfl, rfl⟩⟩
      obtain ⟨z1, z2⟩ : rung a = 0 ∧ rung b = 0 := by simpa [zerb] using e
      have m0 := za.2 z1
      have n0 := zb.2 z2
      subst m0; subst n0
      rw [fV_some (d := .number (sgnB a && sgnB b) 0 (min i j)) (by unfold fD; simp only []; rw [ra, rb]; unfold Datum.sum signed; simp), shows_zero]
      have ea := word_rd a ha
      have eb := word_rd b hb
      rw [z1] at ea
      rw [z2] at eb
      rw [← ea, ← eb, (word_rung (by omega)).2.1, (word_rung (by omega)).2.1]
      congr 1
      cases sgnB a <;> cases sgnB b <;> decide
theorem fsubR_spec (a b : Nat) (ha : a < 18446744073709551616) (hb : b < 18446744073709551616) : CallsH Try.prog 26 #[.int .u64 a, .int .u64 b] h (fun v h' => h = h' ∧ v = .int .u64 (fV .sub a b : Nat)) := by
  apply F26
  unfold L26
  refine kz a ha (orp (q := nanb b) (fun _ k hk => kz b hb (by rw [kd_zero]; exact hk)) ?_)
  rw [kd_zero]
  refine ⟨fun e => ⟨rfl, ?_⟩, fun e => ?_⟩
  · rw [fV_nan (by simpa [nanb] using e)]; rfl
  obtain ⟨na, nb⟩ : rung a ≤ infR ∧ rung b ≤ infR := by
    simp only [nanb, Bool.or_eq_false_iff, decide_eq_false_iff_not] at e; omega
  obtain ⟨n1, n2, n3⟩ := negF b hb
  refine cal_i (fnegR_spec b hb) ?_
  rw [plainN_of (by rw [n1]; exact nb)]
  refine cal_i (faddR_spec a _ ha n3) ⟨rfl, ?_⟩
  rw [fV_sub a b hb]
/-- the sign of two -/
theorem sgn_xor (a b : Nat) (ha : a < 18446744073709551616) (hb : b < 18446744073709551616) :
    bitsI .xor .u64 ((a : Int).fdiv (2 ^ (min (63 : Int).toNat IntKind.u64.bits))) ((b : Int).fdiv (2 ^ (min (63 : Int).toNat IntKind.u64.bits))) = if (sgnB a ^^ sgnB b) then 1 else 0 := by
  have e1 := shr_nat a 63 (by omega)
  have e2 := shr_nat b 63 (by omega)
  have c63 : ((63 : Nat) : Int) = 63 := rfl
  have e63 : (2 : Nat) ^ 63 = 9223372036854775808 := rfl
  rw [c63, e63, sgn_div63 a ha] at e1
  rw [c63, e63, sgn_div63 b hb] at e2
  rw [e1, e2]
  cases sgnB a <;> cases sgnB b <;> decide
theorem inf_spec (s : Bool) : CallsH Try.prog 54 #[.int .u64 (if s then 1 else 0)] h (fun v h' => h = h' ∧ v = .int .u64 (double.word s infR : Nat)) := by
  apply F54
  unfold L54
  refine ⟨rfl, ?_⟩
  congr 1
  cases s <;> decide
theorem nul_spec (s : Bool) : CallsH Try.prog 55 #[.int .u64 (if s then 1 else 0)] h (fun v h' => h = h' ∧ v = .int .u64 (double.word s 0 : Nat)) := by
  apply F55
  unfold L55
  refine ⟨rfl, ?_⟩
  congr 1
  cases s <;> decide
theorem cls3 (a : Nat) : nanb a = true ∨ (nanb a = false ∧ finb a = false ∧ zerb a = false ∧ double.read a = .infinity (sgnB a)) ∨ ∃ m e, nanb a = false ∧ finb a = true ∧ zerb a = decide (m = 0) ∧ double.read a = .number (sgnB a) m e := by
  have hi := infR_eq
  unfold nanb finb zerb
  rcases split3 a with h0 | ⟨ia, ra⟩ | ⟨m, i, fa, ra, za⟩
  · exact .inl (decide_eq_true h0)
  · exact .inr (.inl ⟨decide_eq_false (by omega), decide_eq_false (by omega), decide_eq_false (by omega), ra⟩)
  · exact .inr (.inr ⟨m, i, decide_eq_false (by omega), decide_eq_true fa, by rw [Bool.eq_iff_iff, decide_eq_true_iff, decide_eq_true_iff]; exact za.symm, ra⟩)
theorem fV_nanb {op : BinOp} {a b : Nat} (h : (nanb a || nanb b) = true) : fV op a b = NN := fV_nan (by simpa [nanb] using h)
theorem fmulR_spec (a b : Nat) (ha : a < 18446744073709551616) (hb : b < 18446744073709551616) : CallsH Try.prog 28 #[.int .u64 a, .int .u64 b] h (fun v h' => h = h' ∧ v = .int .u64 (fV .mul a b : Nat)) := by
  apply F28
  unfold L28
  rw [sgn_xor a b ha hb]
  refine kz a ha (orp (q := nanb b) (fun _ k hk => kz b hb (by rw [kd_zero]; exact hk)) ?_)
  refine orp (q := !finb a && zerb b) (fun _ k hk => fz a ha (andp (q := zerb b) (fun _ k2 hk2 => zz b hb hk2) hk)) ?_
  refine orp (q := zerb a && !finb b) (fun _ k hk => zz a ha (andp (q := !finb b) (fun _ k2 hk2 => fz b hb hk2) hk)) ?_
  rw [kd_zero]
  by_cases hn : (nanb a || nanb b) = true
  · rw [hn, fV_nanb hn]
    exact ⟨fun _ => ⟨rfl, rfl⟩, fun e => by simp at e⟩
  obtain ⟨na, nb⟩ : nanb a = false ∧ nanb b = false := by simpa using hn
  have hI : fD .mul a b = some (.infinity (sgnB a ^^ sgnB b)) → fV .mul a b = double.word (sgnB a ^^ sgnB b) infR := fun e => fV_some e
  have hZ : ∀ i, fD .mul a b = some (.number (sgnB a ^^ sgnB b) 0 i) → fV .mul a b = double.word (sgnB a ^^ sgnB b) 0 := fun i e => by rw [fV_some e, shows_zero]
  have eD : fD .mul a b = (double.read a).product (double.read b) := rfl
  have goI : fV .mul a b = double.word (sgnB a ^^ sgnB b) infR → cal Try.prog 54 #[Value.int .u64 (if (sgnB a ^^ sgnB b) then 1 else 0)] h fun u_8 h15 => asI .u64 u_8 fun x46 => (h = h15 ∧ Value.int .u64 x46 = .int .u64 (fV .mul a b : Nat)) := fun e => cal_i (inf_spec _) ⟨rfl, by rw [e]⟩
  have goZ : fV .mul a b = double.word (sgnB a ^^ sgnB b) 0 → cal Try.prog 55 #[Value.int .u64 (if (sgnB a ^^ sgnB b) then 1 else 0)] h fun u_8 h15 => asI .u64 u_8 fun x46 => (h = h15 ∧ Value.int .u64 x46 = .int .u64 (fV .mul a b : Nat)) := fun e => cal_i (nul_spec _) ⟨rfl, by rw [e]⟩
  rw [na, nb]
  rcases cls3 a with n0 | ⟨_, fa, za, ra⟩ | ⟨m, i, _, fa, za, ra⟩
  · rw [na] at n0; cases n0
  · rcases cls3 b with n0 | ⟨_, fb, zb, rb⟩ | ⟨n, j, _, fb, zb, rb⟩
    · rw [nb] at n0; cases n0
    · rw [fa, za, fb, zb]
      refine ⟨fun e => by simp at e, fun _ => fz a ha (orp (q := !finb b) (fun _ k hk => fz b hb hk) ?_)⟩
      rw [fa]
      exact ⟨fun _ => goI (hI (by rw [eD, ra, rb]; rfl)), fun e => by simp at e⟩
    · rw [fa, za, fb, zb]
      by_cases n0 : n = 0
      · refine ⟨fun _ => ⟨rfl, ?_⟩, fun e => by simp [n0] at e⟩
        rw [fV_none (by rw [eD, ra, rb, n0]; rfl)]; rfl
      · refine ⟨fun e => by simp [n0] at e, fun _ => fz a ha (orp (q := !finb b) (fun _ k hk => fz b hb hk) ?_)⟩
        rw [fa]
        exact ⟨fun _ => goI (hI (by rw [eD, ra, rb]; unfold Datum.product; simp only []; rw [if_neg n0])), fun e => by simp at e⟩
  · rcases cls3 b with n0 | ⟨_, fb, zb, rb⟩ | ⟨n, j, _, fb, zb, rb⟩
    · rw [nb] at n0; cases n0
    · rw [fa, za, fb, zb]
      by_cases m0 : m = 0
      · refine ⟨fun _ => ⟨rfl, ?_⟩, fun e => by simp [m0] at e⟩
        rw [fV_none (by rw [eD, ra, rb, m0]; rfl)]; rfl
      · refine ⟨fun e => by simp [m0] at e, fun _ => fz a ha (orp (q := !finb b) (fun _ k hk => fz b hb hk) ?_)⟩
        rw [fa, fb]
        exact ⟨fun _ => goI (hI (by rw [eD, ra, rb]; unfold Datum.product; simp only []; rw [if_neg m0, Bool.xor_comm])), fun e => by simp at e⟩
    · rw [fa, za, fb, zb]
      refine ⟨fun e => by simp at e, fun _ => fz a ha (orp (q := !finb b) (fun _ k hk => fz b hb hk) ?_)⟩
      rw [fa, fb]
      refine ⟨fun e => by simp at e, fun _ => zz a ha (orp (q := zerb b) (fun _ k hk => zz b hb hk) ?_)⟩
      rw [za, zb]
      refine ⟨fun e => goZ ?_, fun _ => flR_spec ⟨rfl, rfl⟩⟩
      have : m * n = 0 := by simp at e; rcases e with e | e <;> simp [e]
      exact hZ (i + j) (by rw [eD, ra, rb]; unfold Datum.product; simp only []; rw [this])
theorem fdivR_spec (a b : Nat) (ha : a < 18446744073709551616) (hb : b < 18446744073709551616) : CallsH Try.prog 30 #[.int .u64 a, .int .u64 b] h (fun v h' => h = h' ∧ v = .int .u64 (fV .quo a b : Nat)) := by
  apply F30
  unfold L30
  rw [sgn_xor a b ha hb]
  refine kz a ha (orp (q := nanb b) (fun _ k hk => kz b hb (by rw [kd_zero]; exact hk)) ?_)
  refine orp (q := !finb a && !finb b) (fun _ k hk => fz a ha (andp (q := !finb b) (fun _ k2 hk2 => fz b hb hk2) hk)) ?_
  refine orp (q := zerb a && zerb b) (fun _ k hk => zz a ha (andp (q := zerb b) (fun _ k2 hk2 => zz b hb hk2) hk)) ?_
  rw [kd_zero]
  by_cases hn : (nanb a || nanb b) = true
  · rw [hn, fV_nanb hn]
    exact ⟨fun _ => ⟨rfl, rfl⟩, fun e => by simp at e⟩
  obtain ⟨na, nb⟩ : nanb a = false ∧ nanb b = false := by simpa using hn
  have hI : fD .quo a b = some (.infinity (sgnB a ^^ sgnB b)) → fV .quo a b = double.word (sgnB a ^^ sgnB b) infR := fun e => fV_some e
  have hZ : ∀ i, fD .quo a b = some (.number (sgnB a ^^ sgnB b) 0 i) → fV .quo a b = double.word (sgnB a ^^ sgnB b) 0 := fun i e => by rw [fV_some e, shows_zero]
  have eD : fD .quo a b = (double.read a).quotient 54 (double.read b) := rfl
  have goI : fV .quo a b = double.word (sgnB a ^^ sgnB b) infR → cal Try.prog 54 #[Value.int .u64 (if (sgnB a ^^ sgnB b) then 1 else 0)] h fun u_8 h15 => asI .u64 u_8 fun x46 => (h = h15 ∧ Value.int .u64 x46 = .int .u64 (fV .quo a b : Nat)) := fun e => cal_i (inf_spec _) ⟨rfl, by rw [e]⟩
  have goZ : fV .quo a b = double.word (sgnB a ^^ sgnB b) 0 → cal Try.prog 55 #[Value.int .u64 (if (sgnB a ^^ sgnB b) then 1 else 0)] h fun u_8 h15 => asI .u64 u_8 fun x46 => (h = h15 ∧ Value.int .u64 x46 = .int .u64 (fV .quo a b : Nat)) := fun e => cal_i (nul_spec _) ⟨rfl, by rw [e]⟩
  rw [na, nb]
  rcases cls3 a with n0 | ⟨_, fa, za, ra⟩ | ⟨m, i, _, fa, za, ra⟩
  · rw [na] at n0; cases n0
  · rcases cls3 b with n0 | ⟨_, fb, zb, rb⟩ | ⟨n, j, _, fb, zb, rb⟩
    · rw [nb] at n0; cases n0
    · rw [fa, za, fb, zb]
      refine ⟨fun _ => ⟨rfl, ?_⟩, fun e => by simp at e⟩
      rw [fV_none (by rw [eD, ra, rb]; rfl)]; rfl
    · rw [fa, za, fb, zb]
      refine ⟨fun e => by simp at e, fun _ => fz a ha (orp (q := zerb b) (fun _ k hk => zz b hb hk) ?_)⟩
      rw [fa]
      exact ⟨fun _ => goI (hI (by rw [eD, ra, rb]; rfl)), fun e => by simp at e⟩
  · rcases cls3 b with n0 | ⟨_, fb, zb, rb⟩ | ⟨n, j, _, fb, zb, rb⟩
    · rw [nb] at n0; cases n0
    · rw [fa, za, fb, zb]
      refine ⟨fun e => by simp at e, fun _ => fz a ha (orp (q := zerb b) (fun _ k hk => zz b hb hk) ?_)⟩
      rw [fa, zb]
      refine ⟨fun e => by simp at e, fun _ => zz a ha (orp (q := !finb b) (fun _ k hk => fz b hb hk) ?_)⟩
      rw [fb]
      exact ⟨fun _ => goZ (hZ 0 (by rw [eD, ra, rb]; rfl)), fun e => by simp at e⟩
    · rw [fa, za, fb, zb]
      by_cases n0 : n = 0
      · by_cases m0 : m = 0
        · refine ⟨fun _ => ⟨rfl, ?_⟩, fun e => by simp [m0, n0] at e⟩
          rw [fV_none (by rw [eD, ra, rb, m0, n0]; rfl)]; rfl
        · refine ⟨fun e => by simp [m0] at e, fun _ => fz a ha (orp (q := zerb b) (fun _ k hk => zz b hb hk) ?_)⟩
          rw [fa, zb]
          refine ⟨fun _ => goI (hI (by rw [eD, ra, rb, n0]; unfold Datum.quotient; simp only []; rw [if_pos trivial, if_neg m0])), fun e => by simp [n0] at e⟩
      · refine ⟨fun e => by simp [n0] at e, fun _ => fz a ha (orp (q := zerb b) (fun _ k hk => zz b hb hk) ?_)⟩
        rw [fa, zb]
        refine ⟨fun e => by simp [n0] at e, fun _ => zz a ha (orp (q := !finb b) (fun _ k hk => fz b hb hk) ?_)⟩
        rw [za, fb]
        refine ⟨fun e => goZ ?_, fun _ => flR_spec ⟨rfl, rfl⟩⟩
        have m0 : m = 0 := by simpa using e
        refine hZ _ (by rw [eD, ra, rb, m0]; unfold Datum.quotient; simp only []; rw [if_neg n0]; simp; rfl)
theorem floats_walk (a b : Int) (h : Heap) (ha : 0 ≤ a ∧ a ≤ 18446744073709551615) (hb : 0 ≤ b ∧ b ≤ 18446744073709551615) : CallsH Try.prog 5 #[.int .u64 a, .int .u64 b] h (fun v h' => v = .bool true ∧ Grow h h') := by
  apply F5
  unfold L5
  obtain ⟨a, rfl⟩ := Int.eq_ofNat_of_zero_le ha.1
  obtain ⟨b, rfl⟩ := Int.eq_ofNat_of_zero_le hb.1
  have ha' : a < 18446744073709551616 := by omega
  have hb' : b < 18446744073709551616 := by omega
  refine cal_of reckoned_spec ?_
  rintro _ h1 ⟨rfl, g1⟩
  refine ⟨_, rfl, ?_⟩
  refine andp (q := true) (fun _ k hk => cal_i (fadd_spec a b) (cal_i (faddR_spec a b ha' hb') (by rw [beq_self_eq_true]; exact hk))) ?_
  refine andp (q := true) (fun _ k hk => cal_i (fsub_spec a b) (cal_i (fsubR_spec a b ha' hb') (by rw [beq_self_eq_true]; exact hk))) ?_
  refine andp (q := true) (fun _ k hk => cal_i (fmul_spec a b) (cal_i (fmulR_spec a b ha' hb') (by rw [beq_self_eq_true]; exact hk))) ?_
  refine andp (q := true) (fun _ k hk => cal_i (fdiv_spec a b) (cal_i (fdivR_spec a b ha' hb') (by rw [beq_self_eq_true]; exact hk))) ?_
  refine andp (q := true) (fun _ k hk => cal_i (fneg_spec a) (cal_i (fnegR_spec a ha') (by rw [beq_self_eq_true]; exact hk))) ?_
  refine andp (q := true) (fun _ k hk => cal_i (plain_spec a) (cal_i (plain2_spec a ha') (by rw [beq_self_eq_true]; exact hk))) ?_
  exact ⟨rfl, g1⟩
end
end Go.Proofs.Ytfafhadklhnemaa

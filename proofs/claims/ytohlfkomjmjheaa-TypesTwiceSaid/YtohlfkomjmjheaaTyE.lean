/-
  Digits; texts of types, as the document and the program tell them.
-/
import Derived.Test.YtohlfkomjmjheaaTyD
import Derived.Test.YtohlfkomjmjheaaLiftP
namespace Go.Proofs.Ytohlfkomjmjheaa
open Go Go.Lf
set_option linter.unusedVariables false

def digB (n : Nat) : List UInt8 := if n < 10 then [UInt8.ofNat (48 + n)] else digB (n / 10) ++ [UInt8.ofNat (48 + n % 10)]
termination_by n
theorem digB_lt {n : Nat} (h : n < 10) : digB n = [UInt8.ofNat (48 + n)] := by rw [digB, if_pos h]
theorem digB_ge {n : Nat} (h : ¬ n < 10) : digB n = digB (n / 10) ++ [UInt8.ofNat (48 + n % 10)] := by rw [digB, if_neg h]
theorem digB_len : ∀ (k n : Nat), n < 10 ^ (k + 1) → (digB n).length ≤ k + 1
  | 0, n, h => by rw [digB_lt (by simpa using h)]; simp
  | k + 1, n, h => by
    by_cases h10 : n < 10
    · rw [digB_lt h10]; simp
    · have := digB_len k (n / 10) (Nat.div_lt_of_lt_mul (by rw [Nat.pow_succ, Nat.mul_comm] at h; exact h))
      rw [digB_ge h10]
      simp
      omega
theorem digB_20 {n : Nat} (h : n < 18446744073709551616) : (digB n).length ≤ 20 := digB_len 19 n (by omega)
theorem byte_of {m : Nat} (h : m < 256) : byteV (UInt8.ofNat m) = .int .u8 (m : Int) := by
  unfold byteV
  rw [UInt8.toNat_ofNat']
  congr 2
  omega
theorem bytes_cat (a b : List UInt8) : (⟨a.toArray⟩ : ByteArray) ++ ⟨b.toArray⟩ = ⟨(a ++ b).toArray⟩ := by
  apply ByteArray.ext
  rw [ByteArray.data_append]
  simp
theorem bytes_size (a : List UInt8) : (⟨a.toArray⟩ : ByteArray).size = a.length := by simp [ByteArray.size]

section
variable {h : Heap}
theorem dec_spec (n : Nat) (hn : n < 18446744073709551616) : CallsH Try.prog 45 #[.int .u64 n] h (fun v h' => v = .string ⟨(digB n).toArray⟩ ∧ Grow h h') := by
  apply F45
  unfold L45
  rintro p3 h1 rfl rfl
  have f1 : Grow h (h.push (.cells #[.int .u8 0, .int .u8 0, .int .u8 0, .int .u8 0, .int .u8 0, .int .u8 0, .int .u8 0, .int .u8 0, .int .u8 0, .int .u8 0, .int .u8 0, .int .u8 0, .int .u8 0, .int .u8 0, .int .u8 0, .int .u8 0, .int .u8 0, .int .u8 0, .int .u8 0, .int .u8 0] 62)) := Fr.push _ _ _
  have k1 := blk.new h #[.int .u8 0, .int .u8 0, .int .u8 0, .int .u8 0, .int .u8 0, .int .u8 0, .int .u8 0, .int .u8 0, .int .u8 0, .int .u8 0, .int .u8 0, .int .u8 0, .int .u8 0, .int .u8 0, .int .u8 0, .int .u8 0, .int .u8 0, .int .u8 0, .int .u8 0, .int .u8 0] 62
  generalize h.push (.cells #[.int .u8 0, .int .u8 0, .int .u8 0, .int .u8 0, .int .u8 0, .int .u8 0, .int .u8 0, .int .u8 0, .int .u8 0, .int .u8 0, .int .u8 0, .int .u8 0, .int .u8 0, .int .u8 0, .int .u8 0, .int .u8 0, .int .u8 0, .int .u8 0, .int .u8 0, .int .u8 0] 62) = h1 at *
  refine ⟨fun y z h2 => ∃ (m i : Nat) (tail : List UInt8) (cs : Array Value), y = m ∧ z = i ∧ i ≤ 20 ∧ m < 10 ^ i ∧ m < 18446744073709551616 ∧ (i = 20 ∨ 0 < m) ∧ digB n = digB m ++ tail ∧ tail.length = 20 - i ∧ blk h2 h.size cs ∧ cs.size = 20 ∧ (∀ k (hk : k < tail.length), cs[i + k]? = some (byteV tail[k])) ∧ Grow h h2,
    fun y _ _ => y.toNat, ⟨n, 20, [], _, rfl, rfl, by omega, by omega, hn, .inl rfl, by simp, rfl, k1, rfl, fun k hk => by simp at hk, f1⟩, ?_⟩
  rintro y z h2 ⟨m, i, tail, cs, rfl, rfl, hi, hm, hm64, hpos, hd, htl, kb, hcs, hall, g2⟩
  have hi1 : 1 ≤ i := by
    rcases Nat.eq_zero_or_pos i with h0 | h0
    · subst h0; simp at hm; omega
    · exact h0
  obtain ⟨j, rfl⟩ : ∃ j, i = j + 1 := ⟨i - 1, by omega⟩
  have e1 : IntKind.i64.wrap (((j + 1 : Nat) : Int) - 1) = (j : Int) := by rw [wrap64_id (by omega) (by omega)]; omega
  have e2 : (m : Int).tmod 10 = ((m % 10 : Nat) : Int) := by rw [Int.tmod_eq_emod_of_nonneg (by omega)]; rfl
  have e3 : IntKind.u8.wrap (IntKind.u64.wrap (48 + ((m % 10 : Nat) : Int))) = ((48 + m % 10 : Nat) : Int) := by rw [IntKind.wrap_u8, IntKind.wrap_u64]; omega
  have e4 : IntKind.u64.wrap ((m : Int).tdiv 10) = ((m / 10 : Nat) : Int) := by
    have : (m : Int).tdiv 10 = ((m / 10 : Nat) : Int) := rfl
    rw [this, IntKind.wrap_u64]; omega
  rw [e1, e2, e3, e4]
  refine ⟨by omega, by omega, ?_⟩
  rw [Int.toNat_natCast, Nat.mul_one, add_plain, Nat.zero_add]
  refine sto_i kb (by omega) ?_
  have f3 : Fr (fun b => b = h.size) h2 (sc h2 ⟨h.size, j, none⟩ (.int .u8 ((48 + m % 10 : Nat) : Int))) := Fr.scb _ _ _ _
  have k3 := kb.sc j (.int .u8 ((48 + m % 10 : Nat) : Int))
  generalize sc h2 ⟨h.size, j, none⟩ (.int .u8 ((48 + m % 10 : Nat) : Int)) = h3 at *
  have g3 : Grow h h3 := g2.trans' f3 fun i hi e => by omega
  have hall' : ∀ k (hk : k < (UInt8.ofNat (48 + m % 10) :: tail).length), (cs.setIfInBounds j (.int .u8 ((48 + m % 10 : Nat) : Int)))[j + k]? = some (byteV (UInt8.ofNat (48 + m % 10) :: tail)[k]) := by
    intro k hk
    cases k with
    | zero =>
      rw [Nat.add_zero, Array.getElem?_setIfInBounds, if_pos rfl, if_pos (by omega)]
      simp only [List.getElem_cons_zero]
      rw [byte_of (by omega)]
    | succ k =>
      have hk' : k < tail.length := by simpa using hk
      rw [Array.getElem?_setIfInBounds, if_neg (by omega)]
      have := hall k hk'
      rw [show j + (k + 1) = j + 1 + k by omega]
      simpa using this
  refine ifb_iff (q := m / 10 = 0) (by simp; omega) (fun h0 => ?_) (fun h0 => ?_)
  · have hm10 : m < 10 := by omega
    have hmod : m % 10 = m := by omega
    refine ⟨by omega, by omega, by omega, fun s' q1 q2 q3 => ?_⟩
    refine ⟨digB n, ?_, ?_, rfl, g3⟩
    · rw [hd, digB_lt hm10, q2]
      simp
      omega
    · rw [q1, if_neg (by omega)]
      intro k v hv
      rw [hd, digB_lt hm10] at hv
      rw [hmod] at hall'
      rw [Int.toNat_natCast, Nat.mul_one, add_plain, add_plain, Nat.zero_add, k3.cl, hmod]
      simp only [List.getElem?_map, Option.map_eq_some_iff] at hv
      obtain ⟨u, hu, rfl⟩ := hv
      obtain ⟨hk, rfl⟩ := List.getElem?_eq_some_iff.1 hu
      exact hall' k hk
  · have hm10 : ¬ m < 10 := by omega
    refine ⟨⟨m / 10, j, UInt8.ofNat (48 + m % 10) :: tail, _, rfl, rfl, by omega, Nat.div_lt_of_lt_mul (by rw [Nat.pow_succ, Nat.mul_comm] at hm; exact hm), by omega, .inr (by omega), ?_, by simp; omega, k3, by simp [hcs], hall', g3⟩, by dsimp only; omega⟩
    rw [hd, digB_ge hm10]
    simp

/-- how far from nought, within 64 digits -/
def farN (n : Int) : Nat := (IntKind.u64.wrap (if n < 0 then -n else n)).toNat
theorem farN_lt (n : Int) : farN n < 18446744073709551616 := by unfold farN; rw [IntKind.wrap_u64]; omega
theorem farN_cast (n : Int) : ((farN n : Nat) : Int) = IntKind.u64.wrap (if n < 0 then -n else n) := by unfold farN; rw [IntKind.wrap_u64]; omega
def decN (n : Int) : List UInt8 := if n < 0 then 45 :: digB (farN n) else digB (farN n)
theorem decN_len (n : Int) : (decN n).length ≤ 21 := by
  have := digB_20 (farN_lt n)
  unfold decN
  split <;> simp <;> omega
def decT (n : Int) : ByteArray := ⟨(decN n).toArray⟩
theorem decT_size (n : Int) : (decT n).size ≤ 21 := by unfold decT; rw [bytes_size]; exact decN_len n
theorem Dec_spec (n : Int) : CallsH Try.prog 43 #[.int .i64 n] h (fun v h' => v = .string (decT n) ∧ Grow h h') := by
  apply F43
  unfold L43
  refine ifb_dec (fun h0 => ?_) (fun h0 => ?_)
  · have e1 : IntKind.u64.wrap (0 - (IntKind.u64.wrap n)) = (farN n : Int) := by rw [farN_cast, if_pos h0, IntKind.wrap_u64, IntKind.wrap_u64, IntKind.wrap_u64]; omega
    rw [e1]
    refine cal_of (dec_spec (farN n) (farN_lt n)) ?_
    rintro _ h1 ⟨rfl, g1⟩
    refine ⟨_, rfl, ?_, ?_, g1⟩
    · have := digB_20 (farN_lt n)
      rw [bytes_size, bytes_size]
      simp only [List.length_cons, List.length_nil]
      omega
    · have : decN n = [45] ++ digB (farN n) := by unfold decN; rw [if_pos h0]; rfl
      unfold decT
      rw [this, ← bytes_cat]
  · have e1 : IntKind.u64.wrap n = (farN n : Int) := by rw [farN_cast, if_neg h0]
    rw [e1]
    refine cal_of (dec_spec (farN n) (farN_lt n)) ?_
    rintro _ h1 ⟨rfl, g1⟩
    refine ⟨_, rfl, ?_, g1⟩
    have : decN n = digB (farN n) := by unfold decN; rw [if_neg h0]
    unfold decT
    rw [this]
/-- one byte made a text -/
theorem one_byte {m : Nat} {E : TypeId} (hm : m < 256) {K : ByteArray → Prop} (k : K ⟨[UInt8.ofNat m].toArray⟩) : cvT (h.push (.cells #[.int .u8 (m : Int)] E)) ⟨some ⟨h.size, 0, none⟩, 1, 1⟩ K := by
  refine ⟨[UInt8.ofNat m], rfl, ?_, k⟩
  intro j v hv
  rw [add_plain, (blk.new h _ _).cl, Nat.zero_add]
  cases j with
  | zero => simp at hv; rw [← hv, byte_of hm]; rfl
  | succ j => simp at hv
theorem half_spec (n : Int) : CallsH Try.prog 44 #[.int .i64 n] h (fun v h' => h = h' ∧ v = .tuple #[.bool (decide (n < 0)), .int .u64 (farN n : Int)]) := by
  apply F44
  unfold L44
  refine ifb_dec (fun h0 => ⟨rfl, ?_⟩) (fun h0 => ⟨rfl, ?_⟩)
  · have e2 : decide (n < 0) = false := decide_eq_false (by omega)
    rw [farN_cast, if_neg (by omega), e2]
  · have e2 : decide (n < 0) = true := decide_eq_true (by omega)
    have e1 : IntKind.u64.wrap ((IntKind.u64.wrap (IntKind.i64.wrap (0 - (IntKind.i64.wrap (n + 1))))) + 1) = (farN n : Int) := by
      rw [farN_cast, if_pos (by omega), IntKind.wrap_u64, IntKind.wrap_u64, IntKind.wrap_u64, IntKind.wrap_i64, IntKind.wrap_i64]
      omega
    rw [e1, e2]
theorem DecR_spec (n : Int) : CallsH Try.prog 32 #[.int .i64 n] h (fun v h' => v = .string (decT n) ∧ Grow h h') := by
  apply F32
  unfold L32
  refine cal_of (half_spec n) ?_
  rintro _ _ ⟨rfl, rfl⟩
  refine ⟨_, _, rfl, ?_⟩
  have hfl := farN_lt n
  have hl := digB_20 hfl
  refine ⟨fun y s h2 => ∃ (m : Nat) (tail : List UInt8), y = m ∧ m < 18446744073709551616 ∧ s = ⟨tail.toArray⟩ ∧ digB (farN n) = digB m ++ tail ∧ Grow h h2, fun y _ _ => y.toNat, ⟨farN n, [], rfl, by omega, rfl, by simp, Fr.refl _ _⟩, ?_⟩
  rintro y s h2 ⟨m, tail, rfl, hm, rfl, hd, g2⟩
  have htl : tail.length ≤ 20 := by
    have := congrArg List.length hd
    rw [List.length_append] at this
    omega
  have e2 : (m : Int).tmod 10 = ((m % 10 : Nat) : Int) := by rw [Int.tmod_eq_emod_of_nonneg (by omega)]; rfl
  have e4 : IntKind.u64.wrap ((m : Int).tdiv 10) = ((m / 10 : Nat) : Int) := by
    have : (m : Int).tdiv 10 = ((m / 10 : Nat) : Int) := rfl
    rw [this, IntKind.wrap_u64]; omega
  refine ifb_dec (fun h10 => ?_) (fun h10 => ?_)
  · have e3 : IntKind.u8.wrap (IntKind.u8.wrap ((m : Int).tmod 10) + 48) = ((48 + m % 10 : Nat) : Int) := by rw [e2, IntKind.wrap_u8, IntKind.wrap_u8]; omega
    rw [e3, e4]
    rintro s17 h3 rfl rfl
    refine one_byte (by omega) ?_
    rw [bytes_cat, bytes_size, bytes_size]
    refine ⟨by simp; omega, ⟨m / 10, _, rfl, by omega, rfl, ?_, g2.trans (Fr.push _ _ _)⟩, by dsimp only; omega⟩
    rw [hd, digB_ge (by omega)]
    simp
  · have e3 : IntKind.u8.wrap (IntKind.u8.wrap (m : Int) + 48) = ((48 + m : Nat) : Int) := by rw [IntKind.wrap_u8, IntKind.wrap_u8]; omega
    rw [e3]
    rintro s17 h3 rfl rfl
    refine one_byte (by omega) ?_
    have hfin : [UInt8.ofNat (48 + m)] ++ tail = digB (farN n) := by rw [hd, digB_lt (by omega)]
    rw [bytes_cat, bytes_size, bytes_size, hfin]
    unfold decT
    refine ⟨by simp; omega, fun hneg => ⟨?_, ?_⟩, fun hneg => ⟨?_, ?_⟩⟩
    · rw [bytes_size, bytes_size]
      simp only [List.length_cons, List.length_nil]
      omega
    · have : decN n = [45] ++ digB (farN n) := by unfold decN; rw [if_pos (of_decide_eq_true hneg)]; rfl
      rw [this, ← bytes_cat]
      exact ⟨rfl, g2.trans (Fr.push _ _ _)⟩
    · have : decN n = digB (farN n) := by unfold decN; rw [if_neg (of_decide_eq_false hneg)]
      rw [this]
    · exact g2.trans (Fr.push _ _ _)
end

/-! ### texts -/
abbrev bs (l : List UInt8) : ByteArray := ⟨l.toArray⟩
def regsT (nm : ByteArray) (rs : List Int) : ByteArray := rs.foldl (fun s r => (s ++ bs [39]) ++ decT r) nm
def headT (k : Int) (nm : ByteArray) (mu : Bool) (r : Int) (rs : List Int) : ByteArray :=
  if k = 1 then bs [105, 110, 116] else if k = 2 then bs [98, 111, 111, 108] else if k = 3 then bs [102, 54, 52] else if k = 4 then bs [40, 41]
  else if k = 5 then regsT nm rs else if k = 6 then bs [66, 111, 120] else if k = 7 then (if mu = true then (bs [38] ++ decT r) ++ bs [109, 117, 116] else bs [38] ++ decT r)
  else if k = 8 then ((bs [100, 121, 110, 32] ++ nm) ++ bs [43]) ++ decT r else if k = 9 then (nm ++ bs [63]) ++ decT r else bs []
def argsT (f : Ty → ByteArray) (s : ByteArray) (az : List Ty) : ByteArray := az.foldl (fun s a => ((s ++ bs [60]) ++ f a) ++ bs [62]) s
noncomputable def textT : Ty → ByteArray :=
  Ty.rec (motive_1 := fun _ => ByteArray) (motive_2 := fun _ => ByteArray → ByteArray) (fun k nm mu r rs _ ih => ih (headT k nm mu r rs)) (fun s => s) (fun _ _ a b s => b (((s ++ bs [60]) ++ a) ++ bs [62]))
theorem textT_rec (az : List Ty) (s : ByteArray) : (Ty.rec_1 (motive_1 := fun _ => ByteArray) (motive_2 := fun _ => ByteArray → ByteArray) (fun k nm mu r rs _ ih => ih (headT k nm mu r rs)) (fun s => s) (fun _ _ a b s => b (((s ++ bs [60]) ++ a) ++ bs [62])) az : ByteArray → ByteArray) s = argsT textT s az := by
  induction az generalizing s with
  | nil => rfl
  | cons a az ih => unfold argsT at ih ⊢; rw [List.foldl_cons, ← ih]; rfl
theorem textT_mk (k : Int) (nm : ByteArray) (mu : Bool) (r : Int) (rs : List Int) (az : List Ty) : textT (.mk k nm mu r rs az) = argsT textT (headT k nm mu r rs) az := by
  rw [← textT_rec]; rfl
theorem bs_size (l : List UInt8) : (bs l).size = l.length := bytes_size l
theorem regsT_size : ∀ (rs : List Int) (nm : ByteArray), (regsT nm rs).size ≤ nm.size + 22 * rs.length
  | [], nm => by simp [regsT]
  | r :: rs, nm => by
    have h1 := regsT_size rs ((nm ++ bs [39]) ++ decT r)
    have h2 := decT_size r
    unfold regsT at h1 ⊢
    rw [List.foldl_cons, List.length_cons]
    have q : (bs [39]).size = 1 := rfl
    rw [ByteArray.size_append, ByteArray.size_append, q] at h1
    omega
theorem headT_size (k : Int) (nm : ByteArray) (mu : Bool) (r : Int) (rs : List Int) (hn : nm.size ≤ 60) (hr : rs.length ≤ 6) : (headT k nm mu r rs).size ≤ 230 := by
  have h1 := regsT_size rs nm
  have h2 := decT_size r
  have q1 : (bs [105, 110, 116]).size = 3 := rfl
  have q2 : (bs [98, 111, 111, 108]).size = 4 := rfl
  have q3 : (bs [102, 54, 52]).size = 3 := rfl
  have q4 : (bs [40, 41]).size = 2 := rfl
  have q5 : (bs [66, 111, 120]).size = 3 := rfl
  have q6 : (bs [38]).size = 1 := rfl
  have q7 : (bs [109, 117, 116]).size = 3 := rfl
  have q8 : (bs [100, 121, 110, 32]).size = 4 := rfl
  have q9 : (bs [43]).size = 1 := rfl
  have q10 : (bs [63]).size = 1 := rfl
  have q11 : (bs []).size = 0 := rfl
  unfold headT
  repeat' split
  all_goals (try simp only [ByteArray.size_append])
  all_goals omega
def tb : Nat → Nat
  | 0 => 0
  | n + 1 => 240 + 4 * tb n
theorem argsT_size {f : Ty → ByteArray} {m : Nat} : ∀ (az : List Ty) (s : ByteArray), (∀ a ∈ az, (f a).size ≤ m) → (argsT f s az).size ≤ s.size + az.length * (m + 2)
  | [], s, _ => by simp [argsT]
  | a :: az, s, H => by
    have h1 := argsT_size az (((s ++ bs [60]) ++ f a) ++ bs [62]) fun b hb => H b (by simp [hb])
    have h2 := H a (by simp)
    unfold argsT at h1 ⊢
    rw [List.foldl_cons, List.length_cons, Nat.succ_mul]
    have q1 : (bs [60]).size = 1 := rfl
    have q2 : (bs [62]).size = 1 := rfl
    rw [ByteArray.size_append, ByteArray.size_append, ByteArray.size_append, q1, q2] at h1
    omega
theorem small_nm {n : Nat} {k : Int} {nm : ByteArray} {mu : Bool} {r : Int} {rs : List Int} {az : List Ty} (h : small n (.mk k nm mu r rs az) = true) : nm.size ≤ 60 := by
  cases n with
  | zero => cases h
  | succ m =>
    have h' : (decide (az.length ≤ 4) && decide (rs.length ≤ 6) && decide (nm.size ≤ 60) && az.all (small m)) = true := h
    simp only [Bool.and_eq_true, decide_eq_true_eq] at h'
    exact h'.1.2
theorem textT_size : ∀ (n : Nat) (t : Ty), small n t = true → (textT t).size ≤ tb n := by
  intro n
  induction n with
  | zero => intro t h; cases t; cases h
  | succ n ih =>
    intro t h
    obtain ⟨k, nm, mu, r, rs, az⟩ := t
    have h0 := small_nm h
    obtain ⟨m, e, h1, h2, h3⟩ := small_mk h
    obtain rfl : m = n := by omega
    rw [textT_mk]
    have := headT_size k nm mu r rs h0 h2
    have h4 := argsT_size (f := textT) az (headT k nm mu r rs) fun a ha => ih a (h3 a ha)
    have h5 := Nat.mul_le_mul_right (tb m + 2) h1
    show _ ≤ 240 + 4 * tb m
    omega
theorem tb12 {n : Nat} (h : n ≤ 12) : tb n ≤ 1400000000 := by
  have : ∀ n, n ≤ 12 → tb n ≤ 1400000000 := by decide
  exact this n h
section
variable {Q : Nat → Prop} {h : Heap}
theorem argsT_snoc (f : Ty → ByteArray) (s : ByteArray) (az : List Ty) (a : Ty) : argsT f s (az ++ [a]) = ((argsT f s az ++ bs [60]) ++ f a) ++ bs [62] := by
  unfold argsT; rw [List.foldl_append]; rfl
theorem regsT_snoc (nm : ByteArray) (rs : List Int) (r : Int) : regsT nm (rs ++ [r]) = (regsT nm rs ++ bs [39]) ++ decT r := by
  unfold regsT; rw [List.foldl_append]; rfl
theorem take_len_le {α : Type} (l : List α) (j : Nat) (hj : j ≤ l.length) : (l.take j).length = j := by simp; omega
/-- a type's text, as the document tells it -/
theorem textR_spec : ∀ (t : Ty) (n : Nat) (_ : n ≤ 12) (_ : small n t = true) (v : Tv) (h : Heap), TyAt Q h t v → CallsH Try.prog 13 #[.agg (tvs v)] h (fun x h' => Grow h h' ∧ x = .string (textT t)) := by
  intro t
  refine Ty.ind (P := fun t => ∀ (n : Nat) (_ : n ≤ 12) (_ : small n t = true) (v : Tv) (h : Heap), TyAt Q h t v → CallsH Try.prog 13 #[.agg (tvs v)] h (fun x h' => Grow h h' ∧ x = .string (textT t))) ?_ t
  intro k nm mu r rs az ih n hn hsm v h hv
  have hnm := small_nm hsm
  have hts := textT_size n _ hsm
  have htb := tb12 hn
  obtain ⟨m, rfl, ha4, hr6, hall⟩ := small_mk hsm
  obtain ⟨e1, e2, e3, e4, e5, e6, e7⟩ := tyAt_iff.1 hv
  have hhd := headT_size k nm mu r rs hnm hr6
  apply F13
  unfold L13
  refine new6 (v := v) fun h1 b1 f1 z1 => ?_
  have T1 := Tv6.blk b1
  have hd := decT_size r
  refine ⟨fun s h' => Grow h1 h' ∧ s = headT k nm mu r rs, ?_, ?_⟩
  · refine ⟨_, T1.1, ?_⟩
    rw [e1]
    have sB : ∀ l : List UInt8, (⟨l.toArray⟩ : ByteArray).size = l.length := bytes_size
    refine ifb_iff (q := k = 1) (by simp) (fun c => ⟨Fr.refl _ _, by rw [headT, if_pos c]⟩) (fun c1 => ?_)
    refine ifb_iff (q := k = 2) (by simp) (fun c => ⟨Fr.refl _ _, by rw [headT, if_neg c1, if_pos c]⟩) (fun c2 => ?_)
    refine ifb_iff (q := k = 3) (by simp) (fun c => ⟨Fr.refl _ _, by rw [headT, if_neg c1, if_neg c2, if_pos c]⟩) (fun c3 => ?_)
    refine ifb_iff (q := k = 4) (by simp) (fun c => ⟨Fr.refl _ _, by rw [headT, if_neg c1, if_neg c2, if_neg c3, if_pos c]⟩) (fun c4 => ?_)
    refine ifb_iff (q := k = 5) (by simp) (fun c => ?_) (fun c5 => ?_)
    · have hH : headT k nm mu r rs = regsT nm rs := by rw [headT, if_neg c1, if_neg c2, if_neg c3, if_neg c4, if_pos c]
      refine ⟨_, T1.2.1, ?_⟩
      refine ⟨fun s i h' => ∃ j : Nat, i = j ∧ j ≤ rs.length ∧ Grow h1 h' ∧ s = regsT nm (rs.take j), fun _ i _ => rs.length - i.toNat, ⟨0, rfl, Nat.zero_le _, Fr.refl _ _, by rw [e2]; rfl⟩, ?_⟩
      rintro _ _ h2 ⟨j, rfl, hj, f2, rfl⟩
      have T2 := Tv6.blk (f2.blk b1 fun h => h)
      have hsz := regsT_size (rs.take j) nm
      rw [take_len_le rs j hj] at hsz
      refine ⟨_, T2.2.2.2.2.1, ?_⟩
      dsimp only
      rw [e5.len]
      refine ifb_iff (q := j < rs.length) (by simp) (fun hl => ?_) (fun hl => ?_)
      · refine ⟨by rw [bs_size [39]]; simp only [List.length_cons, List.length_nil]; omega, _, T2.2.2.2.2.1, ?_⟩
        refine (e5.fr (f1.trans f2) fun _ _ h => h).ints.get hl ?_
        refine cal_of (DecR_spec rs[j]) ?_
        rintro _ h3 ⟨rfl, f3⟩
        have hd3 := decT_size rs[j]
        refine ⟨_, rfl, by rw [ByteArray.size_append, bs_size [39]]; simp only [List.length_cons, List.length_nil]; omega, ?_⟩
        rw [wrap_succ hl (by omega)]
        refine ⟨⟨j + 1, rfl, hl, f2.trans f3, ?_⟩, by simp; omega⟩
        rw [List.take_succ_eq_append_getElem hl, regsT_snoc]
      · refine ⟨f2, ?_⟩
        have : j = rs.length := by omega
        subst this
        rw [hH, List.take_length]
    refine ifb_iff (q := k = 6) (by simp) (fun c => ⟨Fr.refl _ _, by rw [headT, if_neg c1, if_neg c2, if_neg c3, if_neg c4, if_neg c5, if_pos c]⟩) (fun c6 => ?_)
    refine ifb_iff (q := k = 7) (by simp) (fun c => ?_) (fun c7 => ?_)
    · have hH : headT k nm mu r rs = if mu = true then (bs [38] ++ decT r) ++ bs [109, 117, 116] else bs [38] ++ decT r := by rw [headT, if_neg c1, if_neg c2, if_neg c3, if_neg c4, if_neg c5, if_neg c6, if_pos c]
      refine ⟨_, T1.2.2.2.1, ?_⟩
      rw [e4]
      refine cal_of (DecR_spec r) ?_
      rintro _ h2 ⟨rfl, f2⟩
      refine ⟨_, rfl, by rw [bs_size [38]]; simp only [List.length_cons, List.length_nil]; omega, _, (Tv6.blk (f2.blk b1 fun h => h)).2.2.1, ?_⟩
      rw [e3]
      refine ⟨fun em => ⟨by rw [ByteArray.size_append, bs_size [38], bs_size [109, 117, 116]]; simp only [List.length_cons, List.length_nil]; omega, f2, by rw [hH, if_pos em]⟩, fun em => ⟨f2, by rw [hH, if_neg (by rw [em]; simp)]⟩⟩
    refine ifb_iff (q := k = 8) (by simp) (fun c => ?_) (fun c8 => ?_)
    · have hH : headT k nm mu r rs = ((bs [100, 121, 110, 32] ++ nm) ++ bs [43]) ++ decT r := by rw [headT, if_neg c1, if_neg c2, if_neg c3, if_neg c4, if_neg c5, if_neg c6, if_neg c7, if_pos c]
      refine ⟨fun h' => Grow h1 h', Fr.refl _ _, _, fun h' hs => (Tv6.blk (hs.blk b1 fun h => h)).2.1, ?_⟩
      rw [e2]
      refine ⟨by rw [bs_size [100, 121, 110, 32]]; simp only [List.length_cons, List.length_nil]; omega, by rw [ByteArray.size_append, bs_size [100, 121, 110, 32], bs_size [43]]; simp only [List.length_cons, List.length_nil]; omega, _, T1.2.2.2.1, ?_⟩
      rw [e4]
      refine cal_of (DecR_spec r) ?_
      rintro _ h4 ⟨rfl, f4⟩
      exact ⟨_, rfl, f4, by rw [ByteArray.size_append, ByteArray.size_append, bs_size [100, 121, 110, 32], bs_size [43]]; simp only [List.length_cons, List.length_nil]; omega, f4, hH.symm⟩
    refine ifb_iff (q := k = 9) (by simp) (fun c => ?_) (fun c9 => ⟨Fr.refl _ _, by rw [headT, if_neg c1, if_neg c2, if_neg c3, if_neg c4, if_neg c5, if_neg c6, if_neg c7, if_neg c8, if_neg c9]⟩)
    have hH : headT k nm mu r rs = (nm ++ bs [63]) ++ decT r := by rw [headT, if_neg c1, if_neg c2, if_neg c3, if_neg c4, if_neg c5, if_neg c6, if_neg c7, if_neg c8, if_pos c]
    refine ⟨fun h' => Grow h1 h', Fr.refl _ _, _, fun h' hs => (Tv6.blk (hs.blk b1 fun h => h)).2.1, ?_⟩
    rw [e2]
    refine ⟨by rw [bs_size [63]]; simp only [List.length_cons, List.length_nil]; omega, _, T1.2.2.2.1, ?_⟩
    rw [e4]
    refine cal_of (DecR_spec r) ?_
    rintro _ h4 ⟨rfl, f4⟩
    exact ⟨_, rfl, f4, by rw [ByteArray.size_append, bs_size [63]]; simp only [List.length_cons, List.length_nil]; omega, f4, hH.symm⟩
  rintro _ h2 ⟨f2, rfl⟩
  have hpart : ∀ j, (argsT textT (headT k nm mu r rs) (az.take j)).size ≤ 230 + 4 * (tb m + 2) := fun j => by
    have h4 := argsT_size (f := textT) (az.take j) (headT k nm mu r rs) fun a ha => textT_size m a (hall a (List.mem_of_mem_take ha))
    have h5 : (az.take j).length * (tb m + 2) ≤ 4 * (tb m + 2) := Nat.mul_le_mul_right _ (by simp; omega)
    omega
  have htm := tb12 (n := m) (by omega)
  refine ⟨fun s i h' => ∃ j : Nat, i = j ∧ j ≤ az.length ∧ Grow h1 h' ∧ s = argsT textT (headT k nm mu r rs) (az.take j), fun _ i _ => az.length - i.toNat, ⟨0, rfl, Nat.zero_le _, f2, rfl⟩, ?_⟩
  rintro _ _ h3 ⟨j, rfl, hj, f3, rfl⟩
  have T3 := Tv6.blk (f3.blk b1 fun h => h)
  have hp := hpart j
  refine ⟨_, T3.2.2.2.2.2, ?_⟩
  dsimp only
  rw [e6]
  refine ifb_iff (q := j < az.length) (by simp) (fun hl => ?_) (fun hl => ?_)
  · refine ⟨by rw [bs_size [60]]; simp only [List.length_cons, List.length_nil]; omega, _, T3.2.2.2.2.2, args_get (hv.grow (f1.trans f3)) hl fun u hu => ?_⟩
    refine cal_of (ih _ (List.getElem_mem hl) m (by omega) (hall _ (List.getElem_mem hl)) u h3 hu) ?_
    rintro _ h4 ⟨f4, rfl⟩
    have hq := textT_size m az[j] (hall _ (List.getElem_mem hl))
    refine ⟨_, rfl, by rw [ByteArray.size_append, bs_size [60]]; simp only [List.length_cons, List.length_nil]; omega, by rw [ByteArray.size_append, ByteArray.size_append, bs_size [60], bs_size [62]]; simp only [List.length_cons, List.length_nil]; omega, ?_⟩
    rw [wrap_succ hl (by omega)]
    refine ⟨⟨j + 1, rfl, hl, f3.trans f4, ?_⟩, by simp; omega⟩
    rw [List.take_succ_eq_append_getElem hl, argsT_snoc]
  · refine ⟨f1.trans f3, ?_⟩
    have : j = az.length := by omega
    subst this
    rw [List.take_length, textT_mk]
end
end Go.Proofs.Ytohlfkomjmjheaa

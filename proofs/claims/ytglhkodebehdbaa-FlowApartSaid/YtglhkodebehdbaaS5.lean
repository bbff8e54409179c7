/-
  An answer in memory: a table of sets; an empty one; what it has.
-/
import Derived.Test.YtglhkodebehdbaaS4
namespace Go.Proofs.Ytglhkodebehdbaa
open Go Go.Lf

/-- an answer of `n` nodes: struct `ba`, table `tb`, rows `rb i` of `nw` words; `S i e`: fact e is at node i -/
structure AnsOk (ba : Nat) (tb : Sv) (rb : Nat → Nat) (n nw : Nat) (W : Int) (S : Nat → Nat → Bool) (h : Heap) : Prop where
  st : blk h ba #[.int .i64 W, .slice tb.a tb.n tb.c]
  own : Own h (ba + 1) 1 tb ((List.range n).map fun i => .slice (some ⟨rb i, 0, none⟩) nw nw)
  row : ∀ i, i < n → ba < rb i ∧ ¬ tb.own (rb i) ∧ WordsAt h (rb i) nw (S i)
  inj : ∀ i j, i < n → j < n → rb i = rb j → i = j
section
variable {ba : Nat} {tb : Sv} {rb : Nat → Nat} {n nw : Nat} {W : Int} {S : Nat → Nat → Bool} {h : Heap}
theorem AnsOk.frame {T : Nat → Prop} {h' : Heap} (x : AnsOk ba tb rb n nw W S h) (f : Fr T h h') (h1 : ∀ b, ba ≤ b → b < h.size → ¬ T b) : AnsOk ba tb rb n nw W S h' :=
  ⟨f.blk x.st (h1 _ (Nat.le_refl _) x.st.lt), x.own.frame f fun b hb => h1 b (by have := (x.own.ge hb).1; omega) (x.own.ge hb).2,
    fun i hi => ⟨(x.row i hi).1, (x.row i hi).2.1, (x.row i hi).2.2.frame f (h1 _ (Nat.le_of_lt (x.row i hi).1) (x.row i hi).2.2.lt)⟩, x.inj⟩
theorem AnsOk.grow {h' : Heap} (x : AnsOk ba tb rb n nw W S h) (f : Grow h h') : AnsOk ba tb rb n nw W S h' := x.frame f fun _ _ _ h => h
theorem AnsOk.len (x : AnsOk ba tb rb n nw W S h) : tb.n = n := by have := x.own.len; simp at this; omega
/-- one row turned -/
theorem AnsOk.set {h' : Heap} (x : AnsOk ba tb rb n nw W S h) {i : Nat} (hi : i < n) {f : Nat → Bool} (fr : Fr (fun b => b = rb i) h h') (w : WordsAt h' (rb i) nw f) : AnsOk ba tb rb n nw W (fun j => if j = i then f else S j) h' := by
  obtain ⟨r1, r2, r3⟩ := x.row i hi
  refine ⟨fr.blk x.st (by omega), x.own.frame fr (fun b hb e => by subst e; exact r2 hb), fun j hj => ?_, x.inj⟩
  obtain ⟨q1, q2, q3⟩ := x.row j hj
  by_cases e : j = i
  · subst e
    exact ⟨q1, q2, by simpa using w⟩
  · refine ⟨q1, q2, ?_⟩
    simp only [e, if_false]
    exact q3.frame fr fun e' => e (x.inj j i hj hi e')
theorem AnsOk.congr {S' : Nat → Nat → Bool} (x : AnsOk ba tb rb n nw W S h) (e : ∀ i k, i < n → k < 64 * nw → S i k = S' i k) : AnsOk ba tb rb n nw W S' h :=
  ⟨x.st, x.own, fun i hi => ⟨(x.row i hi).1, (x.row i hi).2.1, (x.row i hi).2.2.congr fun k hk => e i k hi hk⟩, x.inj⟩
theorem AnsOk.cw (x : AnsOk ba tb rb n nw W S h) : cl h ⟨ba, 0, none⟩ = some (.int .i64 W) := by rw [x.st.cl]; rfl
theorem AnsOk.ct (x : AnsOk ba tb rb n nw W S h) : cl h ⟨ba, 1, none⟩ = some (.slice tb.a tb.n tb.c) := by rw [x.st.cl]; rfl
/-- the table's cell -/
theorem AnsOk.cell (x : AnsOk ba tb rb n nw W S h) {i : Nat} (hi : i < n) : ∃ g, tb.a = some ⟨g, 0, none⟩ ∧ cl h ⟨g, i, none⟩ = some (.slice (some ⟨rb i, 0, none⟩) nw nw) := by
  have hr := x.own.row
  rcases x.own.mem with ⟨_, e, _⟩ | ⟨g, cur, e, _⟩
  · have := x.len; omega
  · rw [e] at hr
    refine ⟨g, e, ?_⟩
    have := hr i (.slice (some ⟨rb i, 0, none⟩) nw nw) (by simp [List.getElem?_range hi])
    rwa [add_plain, Nat.zero_add] at this
theorem AnsOk.get (x : AnsOk ba tb rb n nw W S h) {i : Nat} (hi : i < n) {K : Sv → Prop} (k : K ⟨some ⟨rb i, 0, none⟩, nw, nw⟩) : ixS tb i fun q => ldS h (q.add ((i : Int).toNat * 1)) K := by
  obtain ⟨g, e, c⟩ := x.cell hi
  refine ⟨_, e, by omega, by rw [x.len]; omega, ⟨some ⟨rb i, 0, none⟩, nw, nw⟩, ?_, k⟩
  rw [Int.toNat_natCast, Nat.mul_one, add_plain, Nat.zero_add]
  exact c
end

theorem empty_spec {h : Heap} {a0 : Sv} {a1 : Int} {a2 a3 a4 : Sv} {p : Pb} (x : PbAt h a0 a1 a2 a3 a4 p) {W : Nat} (hW : p.w = W) (hW4 : W ≤ 4000) (hn : p.s.length ≤ 1000000) :
    CallsH Try.prog 23 #[pbV a0 a1 a2 a3 a4] h (fun v h' => ∃ ba tb rb, v = .pointer (some ⟨ba, 0, none⟩) ∧ AnsOk ba tb rb p.s.length ((W + 63) / 64) W (fun _ _ => false) h' ∧ Grow h h' ∧ h.size ≤ ba) := by
  apply F23
  unfold L23
  rintro p1 h1 rfl rfl
  have f1 : Grow h (h.push (.cells (pbC a0 a1 a2 a3 a4) 25)) := Fr.push _ _ _
  have kb := blk.new h (pbC a0 a1 a2 a3 a4) 25
  have e1 : h.push (.cells #[.slice a0.a a0.n a0.c, .int .i64 a1, .slice a2.a a2.n a2.c, .slice a3.a a3.n a3.c, .slice a4.a a4.n a4.c] 25) = h.push (.cells (pbC a0 a1 a2 a3 a4) 25) := rfl
  rw [e1]
  have hs1 : (h.push (.cells (pbC a0 a1 a2 a3 a4) 25)).size = h.size + 1 := by simp
  generalize h.push (.cells (pbC a0 a1 a2 a3 a4) 25) = h1 at *
  have hw : a1 = (W : Int) := by rw [x.w, hW]
  refine ldI_i (x := (W : Int)) (by rw [add_plain, kb.cl, ← hw]; rfl) ?_
  rintro p7 h2 rfl rfl
  have f2 : Grow h1 (h1.push (.cells #[.int .i64 (W : Int), .slice none 0 0] 49)) := Fr.push _ _ _
  have k2 := blk.new h1 #[.int .i64 (W : Int), .slice none 0 0] 49
  have kb2 := f2.blk kb (fun h => h)
  generalize h1.push (.cells #[.int .i64 (W : Int), .slice none 0 0] 49) = h2 at *
  have hsn := x.s.len
  refine ldS_i (s := a0) (by rw [kb2.cl]; rfl) ?_
  refine ⟨fun y h3 => ∃ k : Nat, y = k ∧ k ≤ p.s.length ∧ ∃ tb rb, AnsOk h1.size tb rb k ((W + 63) / 64) W (fun _ _ => false) h3 ∧ Grow h h3 ∧ blk h3 h.size (pbC a0 a1 a2 a3 a4), fun y _ => (p.s.length - y).toNat,
    ⟨0, rfl, by omega, ⟨none, 0, 0⟩, fun _ => 0, ⟨k2, Own.nil _ _ _, fun i hi => by omega, fun i j hi => by omega⟩, f1.trans f2, kb2⟩, ?_⟩
  rintro y h3 ⟨k, rfl, hk, tb, rb, A, f3, kb3⟩
  refine ifb_dec (fun hlt => ?_) (fun hge => ?_)
  · have hkl : k < p.s.length := by omega
    have hwk : IntKind.i64.wrap ((k : Int) + 1) = ((k + 1 : Nat) : Int) := by rw [wrap64_id (by omega) (by omega)]; omega
    refine ⟨Grow h3, Fr.refl _ _, ldI_i (x := (W : Int)) (by rw [add_plain, kb3.cl, ← hw]; rfl) ⟨tb, fun h' g => by rw [add_plain, Nat.zero_add]; exact g.clk A.ct (fun h => h), ?_⟩⟩
    have hnw : IntKind.i64.wrap ((IntKind.i64.wrap ((W : Int) + 63)).tdiv 64) = (((W + 63) / 64 : Nat) : Int) := by
      rw [wrap64_id (x := (W : Int) + 63) (by omega) (by omega), Int.tdiv_eq_ediv_of_nonneg (by omega), wrap64_id (by omega) (by omega)]
      omega
    rw [hnw]
    generalize hnwe : (W + 63) / 64 = nw at *
    refine ⟨by omega, by omega, by show ((8 : Nat) : Int) * ((nw : Nat) : Int) ≤ _; omega, by omega, ?_⟩
    rintro s22 h4 rfl rfl
    simp only [Int.toNat_natCast]
    have f4 : Grow h3 (h3.push (.cells (madeCells (Value.int .u64 0).cells (nw * 1)) 36)) := Fr.push _ _ _
    have W4 := made_words h3 nw
    have hs4 : (h3.push (.cells (madeCells (Value.int .u64 0).cells (nw * 1)) 36)).size = h3.size + 1 := by simp
    refine ⟨f4, ?_⟩
    generalize h3.push (.cells (madeCells (Value.int .u64 0).cells (nw * 1)) 36) = h4 at *
    have A4 := A.grow f4
    have kb4 := f4.blk kb3 (fun h => h)
    rintro s1 h5 rfl rfl
    have e5 : Grow h4 (h4.push (.cells #[.slice (some ⟨h3.size, 0, none⟩) nw nw] 51)) := Fr.push _ _ _
    refine ⟨f4.trans e5, ?_⟩
    have hlt := A.st.lt
    have htn := A.len
    refine app1 (E := 51) (vs := #[.slice (some ⟨h3.size, 0, none⟩) nw nw]) (h := h4) (B := h1.size + 1) (sz := 1) rfl A4.own rfl (by simp [Value.oneCell']) (by omega) (by omega) (by omega) ?_ _ _ rfl rfl
    intro s' h8 e1 o8 f8 hown
    have st8 := f8.blk A4.st (fun ho => by have := (A4.own.ge ho).1; omega)
    rw [add_plain]
    refine sto_i st8 (by show 1 < 2; omega) ?_
    have f9 : Fr (fun b => b = h1.size) h8 (sc h8 ⟨h1.size, 0 + 1, none⟩ (.slice s'.a s'.n s'.c)) := Fr.scb _ _ _ _
    have hh1 : h.size < h1.size := by omega
    have tlt : ∀ {b}, tb.own b → h1.size < b ∧ b < h3.size := fun hb => by have := A.own.ge hb; omega
    refine ⟨⟨k + 1, hwk, by omega, s', fun i => if i < k then rb i else h3.size, ⟨st8.sc 1 _, ?_, fun i hi => ?_, fun i j hi hj => ?_⟩, ?_, ?_⟩, by rw [hwk]; (try dsimp only); omega⟩
    · have := o8.frame f9 (fun b hb e => by have := (o8.ge hb).1; omega)
      rw [List.range_succ, List.map_append]
      have e2 : (List.range k).map (fun i => Value.slice (some ⟨if i < k then rb i else h3.size, 0, none⟩) nw nw) = (List.range k).map (fun i => Value.slice (some ⟨rb i, 0, none⟩) nw nw) :=
        List.map_congr_left fun i hi => by rw [if_pos (List.mem_range.1 hi)]
      rw [e2]
      simpa using this
    · by_cases e : i < k
      · obtain ⟨r1, r2, r3⟩ := A.row i e
        simp only [e, if_true]
        have l2 := r3.lt
        refine ⟨r1, fun ho => ?_, ((r3.frame f4 (fun h => h)).frame f8 r2).frame f9 (by omega)⟩
        rcases hown _ ho with h' | h'
        · exact r2 h'
        · omega
      · have e' : i = k := by omega
        subst e'
        simp only [e, if_false]
        refine ⟨by omega, fun ho => ?_, (W4.frame f8 fun ho => by have := tlt ho; omega).frame f9 (by omega)⟩
        rcases hown _ ho with h' | h'
        · have := tlt h'; omega
        · omega
    · intro e
      by_cases e1 : i < k <;> by_cases e2 : j < k <;> simp only [e1, e2, if_true, if_false] at e
      · exact A.inj i j e1 e2 e
      · have := (A.row i e1).2.2.lt; omega
      · have := (A.row j e2).2.2.lt; omega
      · omega
    · exact ((f3.trans f4).trans' f8 (fun i hi ho => by have := tlt ho; omega)).trans' f9 (fun i hi e => by omega)
    · exact f9.blk (f8.blk kb4 fun ho => by have := tlt ho; omega) (by omega)
  · have : k = p.s.length := by omega
    subst this
    exact ⟨_, tb, rb, rfl, A, f3, by omega⟩
end Go.Proofs.Ytglhkodebehdbaa

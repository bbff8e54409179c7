/-
  All that is told, walked.
-/
import Derived.Test.YtgbmihnainbgiaaDoorS6
namespace Go.Proofs.YtgbmihnainbgiaaDoor
open Go Go.Lf

abbrev Opn := Bool × Int × Int
/-- a slice that reads as what is told -/
structure OpsAt (h : Heap) (s : Sv) (ops : List Opn) : Prop where
  len : s.n = ops.length
  cap : s.n ≤ s.c
  at_ : ∀ i (hi : i < ops.length), ∃ p, s.a = some p ∧ cl h (p.add (i * 3)) = some (.bool ops[i].1) ∧ cl h ((p.add (i * 3)).add 1) = some (.int .i64 ops[i].2.1) ∧ cl h ((p.add (i * 3)).add 2) = some (.int .i64 ops[i].2.2)
theorem OpsAt.grow {h h' : Heap} {s : Sv} {ops : List Opn} (x : OpsAt h s ops) (g : Grow h h') : OpsAt h' s ops := by
  refine ⟨x.len, x.cap, fun i hi => ?_⟩
  obtain ⟨p, e, c1, c2, c3⟩ := x.at_ i hi
  exact ⟨p, e, g.clk c1 (fun h => h), g.clk c2 (fun h => h), g.clk c3 (fun h => h)⟩

def opsO (ops : List Opn) (a b : Nat) : Prop := ∃ o ∈ ops, o.1 = false ∧ (a : Int) = o.2.1 ∧ (b : Int) = o.2.2
def opsP (W : Nat) (ops : List Opn) (r e : Nat) : Prop := ∃ o ∈ ops, o.1 = true ∧ (r : Int) = o.2.1 ∧ (e : Int) = o.2.2 ∧ reg W o.2.2 = true
def okOut (n : Nat) (o : Opn) : Bool := !o.1 && (reg n o.2.1 && reg n o.2.2)
def okPut (n W : Nat) (o : Opn) : Bool := o.1 && (reg n o.2.1 && reg W o.2.2)
def outsL (n : Nat) (ops : List Opn) : List (Int × Int) := (ops.filter (okOut n)).map fun o => o.2
def putsL (n W : Nat) (ops : List Opn) : List (Int × Int) := (ops.filter (okPut n W)).map fun o => o.2
def flat2 (ps : List (Int × Int)) : List Value := ps.flatMap fun p => [.int .i64 p.1, .int .i64 p.2]
theorem flat2_len : ∀ ps : List (Int × Int), (flat2 ps).length = ps.length * 2
  | [] => rfl
  | p :: ps => by
    have := flat2_len ps
    simp only [flat2, List.flatMap_cons, List.length_append, List.length_cons, List.length_nil] at this ⊢
    omega
theorem flat2_snoc (ps : List (Int × Int)) (p : Int × Int) : flat2 (ps ++ [p]) = flat2 ps ++ [.int .i64 p.1, .int .i64 p.2] := by simp [flat2]
theorem outsL_snoc (n : Nat) (ops : List Opn) (o : Opn) : outsL n (ops ++ [o]) = if okOut n o then outsL n ops ++ [o.2] else outsL n ops := by
  unfold outsL
  rw [List.filter_append, List.map_append, List.filter_cons]
  cases okOut n o <;> simp
theorem putsL_snoc (n W : Nat) (ops : List Opn) (o : Opn) : putsL n W (ops ++ [o]) = if okPut n W o then putsL n W ops ++ [o.2] else putsL n W ops := by
  unfold putsL
  rw [List.filter_append, List.map_append, List.filter_cons]
  cases okPut n W o <;> simp
theorem outsL_len (n : Nat) (ops : List Opn) : (outsL n ops).length ≤ ops.length := by unfold outsL; rw [List.length_map]; exact List.length_filter_le _ _
theorem putsL_len (n W : Nat) (ops : List Opn) : (putsL n W ops).length ≤ ops.length := by unfold putsL; rw [List.length_map]; exact List.length_filter_le _ _

/-- what told leaves -/
structure ToldOk (h0 : Heap) (n W : Nat) (ops : List Opn) (x : Sh) (d : Sd) (outs puts : Sv) (h : Heap) : Prop where
  hn : x.n = n
  hW : x.W = W
  ok : SolOk x d h
  tol : Tol x (opsO ops) (opsP W ops) ops.length d
  out : Own h h0.size 2 outs (flat2 (outsL n ops))
  put : Own h h0.size 2 puts (flat2 (putsL n W ops))
  gr : Grow h0 h
  wl : ∀ b, b < h0.size → d.w b = 0
  wo : ∀ b, outs.own b → d.w b = 0
  wp : ∀ b, puts.own b → d.w b = 0
  op : ∀ b, outs.own b → ¬ puts.own b

theorem told_spec {h : Heap} {s : Sv} {ops : List Opn} (X : OpsAt h s ops) {n W : Nat} (hn : n ≤ 1501) (hW : W ≤ 2700) (hl : ops.length ≤ 1000) :
    CallsH Tryd.prog 7 #[.int .i64 n, .int .i64 W, .slice s.a s.n s.c] h (fun v h' => ∃ (x : Sh) (d : Sd) (outs puts : Sv), v = .tuple #[.pointer (some ⟨x.bs, 0, none⟩), outs.v, puts.v, .bool true] ∧ ToldOk h n W ops x d outs puts h') := by
  apply F7
  unfold L7
  refine cal_of (new_spec h n W) ?_
  rintro v h1 ⟨-, hok⟩
  obtain ⟨x, d1, rfl, hxn, hxW, k1, t1, g1, w1⟩ := hok (by unfold newOk; omega)
  have hxn : x.n = n := by omega
  have hxW : x.W = W := by omega
  refine ⟨_, rfl, _, rfl, _, rfl, _, rfl, _, rfl, fun e => (by cases e), fun _ => ?_⟩
  have hsl := X.len
  refine ⟨fun outs puts y h2 => ∃ (i : Nat) (d : Sd), y = i ∧ i ≤ ops.length ∧ ToldOk h n W (ops.take i) x d outs puts h2, fun _ _ y _ => (ops.length - y).toNat,
    ⟨0, d1, rfl, by omega, hxn, hxW, k1, t1.congr (fun _ _ _ _ => ⟨fun h => h.elim, fun ⟨o, ho, _⟩ => by simp at ho⟩) (fun _ _ _ => ⟨fun h => h.elim, fun ⟨o, ho, _⟩ => by simp at ho⟩) (Nat.zero_le _), Own.nil _ _ _, Own.nil _ _ _, g1, w1,
      fun b hb => (by obtain ⟨a, ea, _⟩ := hb; cases ea), fun b hb => (by obtain ⟨a, ea, _⟩ := hb; cases ea), fun b hb => (by obtain ⟨a, ea, _⟩ := hb; cases ea)⟩, ?_⟩
  rintro outs puts y h2 ⟨i, d, rfl, hi, A⟩
  refine ifb_dec (fun hlt => ?_) (fun hge => ?_)
  rotate_left
  · have : i = ops.length := by omega
    subst this
    rw [List.take_length] at A
    exact ⟨x, d, outs, puts, rfl, A⟩
  have hil : i < ops.length := by omega
  have hwi : IntKind.i64.wrap ((i : Int) + 1) = ((i + 1 : Nat) : Int) := by rw [wrap64_id (by omega) (by omega)]; omega
  refine ⟨fun outs' puts' h12 => ∃ d', ToldOk h n W (ops.take (i + 1)) x d' outs' puts' h12, ?_, fun outs' puts' h12 ⟨d', q⟩ => ⟨⟨i + 1, d', hwi, by omega, q⟩, by rw [hwi]; (try dsimp only); omega⟩⟩
  obtain ⟨p, ep, c1, c2, c3⟩ := (X.grow A.gr).at_ i hil
  refine ixS_i ep (by omega) (by omega) ?_
  have htk : ops.take (i + 1) = ops.take i ++ [ops[i]] := List.take_succ_eq_append_getElem hil
  rw [htk]
  have hlt' : (ops.take i).length = i := by rw [List.length_take]; omega
  generalize ops[i] = o at *
  obtain ⟨pt, a, b⟩ := o
  dsimp only at c1 c2 c3
  rw [Int.toNat_natCast]
  refine ⟨pt, a, b, c1, c2, c3, ?_⟩
  rintro p15 h3 rfl rfl
  have f3 : Grow h2 (h2.push (.cells #[.bool false, .int .i64 0, .int .i64 0] 42)) := Fr.push _ _ _
  have k3 := blk.new h2 #[.bool false, .int .i64 0, .int .i64 0] 42
  generalize h2.push (.cells #[.bool false, .int .i64 0, .int .i64 0] 42) = h3 at *
  refine stoA_i k3 rfl (by simp [Value.oneCell']) fun h4 k4 f4 => ?_
  have f24 : Grow h2 h4 := f3.trans' f4 fun i hi e => by omega
  have S4 := A.ok.grow f24
  have wbox : d.w h2.size = 0 := A.ok.w0 _ (Nat.le_refl _)
  have ca : cl h4 ((⟨h2.size, 0, none⟩ : Addr).add 1) = some (.int .i64 a) := by rw [add_plain, k4.cl]; rfl
  have cb : cl h4 ((⟨h2.size, 0, none⟩ : Addr).add 2) = some (.int .i64 b) := by rw [add_plain, k4.cl]; rfl
  refine ldI_i ca ?_
  refine ⟨fun c => c = decide (0 ≤ a ∧ a < (n : Int)), ⟨fun e => ldI_i ca ?_, fun e => ?_⟩, ?_⟩
  · have : 0 ≤ a := by simpa using e
    simp [this]
  · have : ¬ 0 ≤ a := by simpa using e
    simp [this]
  rintro _ rfl
  refine ⟨fun c => c = (reg n a && decide (0 ≤ b)), ⟨fun e => ldI_i cb ?_, fun e => ?_⟩, ?_⟩
  · have : reg n a = true := e
    rw [this]; rfl
  · have : reg n a = false := e
    rw [this]; rfl
  rintro _ rfl
  refine ldB_i (x := pt) (by rw [k4.cl]; rfl) ?_
  have Tl : ∀ b, b < h.size → d.w b = 0 := A.wl
  have hsz := A.gr.size
  refine ⟨fun ept => ?_, fun ept => ?_⟩
  · subst ept
    refine ⟨fun c => c = (reg n a && reg W b), ⟨fun e => ldI_i cb ?_, fun e => ?_⟩, ?_⟩
    · obtain ⟨e1, e2⟩ := Bool.and_eq_true_iff.1 e
      have := of_decide_eq_true e2
      rw [e1]; simp [reg, this]
    · rcases Bool.and_eq_false_iff.1 e with e1 | e1
      · rw [e1]; rfl
      · have := of_decide_eq_false e1
        have : reg W b = false := by simp [reg]; omega
        rw [this, Bool.and_false]
    rintro _ rfl
    refine ldI_i ca (ldI_i cb ?_)
    refine cal_of (put_spec S4 A.tol (by omega) (by omega) (by rw [hlt']; omega) a b) ?_
    rintro _ h5 ⟨rfl, d5, k5, t5, f5, w5⟩
    rw [hxn, hxW]
    refine ⟨_, rfl, ?_⟩
    have g5 : Grow h h5 := (A.gr.trans f24).trans' f5 fun i hi hw => hw (Tl i hi)
    have ob : blk h5 h2.size #[.bool true, .int .i64 a, .int .i64 b] := f5.blk k4 (fun hw => hw wbox)
    have out5 : Own h5 h.size 2 outs (flat2 (outsL n (ops.take i))) := (A.out.frame f24 fun _ _ h => h).frame f5 fun b hb hw => hw (A.wo b hb)
    have put5 : Own h5 h.size 2 puts (flat2 (putsL n W (ops.take i))) := (A.put.frame f24 fun _ _ h => h).frame f5 fun b hb hw => hw (A.wp b hb)
    have lt4 : ∀ b, b < h2.size → b < h4.size := fun b hb => by have := f24.size; omega
    have tol5 : Tol x (opsO (ops.take i ++ [(true, a, b)])) (opsP W (ops.take i ++ [(true, a, b)])) (ops.take i ++ [(true, a, b)]).length d5 := by
      refine t5.congr (fun a' b' _ _ => ⟨fun ⟨o, h1, h2⟩ => ⟨o, List.mem_append_left _ h1, h2⟩, fun ⟨o, h1, h2⟩ => ?_⟩) (fun r e _ => ⟨fun hp => ?_, fun ⟨o, h1, h2⟩ => ?_⟩) (by simp)
      · rcases List.mem_append.1 h1 with h1 | h1
        · exact ⟨o, h1, h2⟩
        · simp only [List.mem_singleton] at h1
          rw [h1] at h2; cases h2.1
      · rcases hp with ⟨o, h1, h2⟩ | ⟨h1, h2, h3⟩
        · exact ⟨o, List.mem_append_left _ h1, h2⟩
        · exact ⟨(true, a, b), by simp, rfl, h1, h2, by rw [← hxW]; exact h3⟩
      · rcases List.mem_append.1 h1 with h1 | h1
        · exact .inl ⟨o, h1, h2⟩
        · simp only [List.mem_singleton] at h1
          rw [h1] at h2
          exact .inr ⟨h2.2.1, h2.2.2.1, by rw [hxW]; exact h2.2.2.2⟩
    have outE : outsL n (ops.take i ++ [(true, a, b)]) = outsL n (ops.take i) := by rw [outsL_snoc]; rfl
    have hres : (((if (reg n a && reg W b) = true then (0 : Int) else 14) == 0) != (reg n a && reg W b)) = false := by cases (reg n a && reg W b) <;> rfl
    dsimp only
    rw [hres]
    refine ⟨fun e => (by cases e), fun _ => ?_⟩
    refine ⟨fun ps h8 => ToldOk h n W (ops.take i ++ [(true, a, b)]) x d5 outs ps h8, ⟨fun ec => ?_, fun ec => ?_⟩, fun ps h8 q => ⟨d5, q⟩⟩
    · refine ldI_i (x := a) (by rw [add_plain, ob.cl]; rfl) (ldI_i (x := b) (by rw [add_plain, ob.cl]; rfl) ?_)
      have hpn : puts.n = (putsL n W (ops.take i)).length := by have := put5.len; rw [flat2_len] at this; omega
      have hpl := putsL_len n W (ops.take i)
      refine app1 (B := h.size) (sz := 2) rfl put5 rfl (by simp [Value.oneCell']) (by have := g5.size; omega) (by omega) (by omega) ?_
      intro ps h8 _ o8 f8 hown
      have hs8 := f8.size
      have hs5 := f5.size
      refine ⟨hxn, hxW, k5.frame f8 fun b hb ho => hb (by rw [w5 b (lt4 b (A.put.ge ho).2)]; exact A.wp b ho), tol5, by rw [outE]; exact out5.frame f8 fun b hb ho => A.op b hb ho, ?_, g5.trans' f8 fun i hi ho => by have := (A.put.ge ho).1; omega,
        fun b hb => by rw [w5 b (by have := f24.size; omega)]; exact Tl b hb, fun b hb => by rw [w5 b (lt4 b (A.out.ge hb).2)]; exact A.wo b hb, fun b hb => ?_, fun b hb ho => ?_⟩
      · have : putsL n W (ops.take i ++ [(true, a, b)]) = putsL n W (ops.take i) ++ [(a, b)] := by
          rw [putsL_snoc]
          have : okPut n W (true, a, b) = true := ec
          rw [if_pos this]
        rw [this, flat2_snoc]
        exact o8
      · rcases hown b hb with h1 | h1
        · rw [w5 b (lt4 b (A.put.ge h1).2)]; exact A.wp b h1
        · exact k5.w0 b h1
      · rcases hown b ho with h1 | h1
        · exact A.op b hb h1
        · have := (out5.ge hb).2; omega
    · refine ⟨hxn, hxW, k5, tol5, by rw [outE]; exact out5, ?_, g5, fun b hb => by rw [w5 b (by have := f24.size; omega)]; exact Tl b hb, fun b hb => by rw [w5 b (lt4 b (A.out.ge hb).2)]; exact A.wo b hb, fun b hb => by rw [w5 b (lt4 b (A.put.ge hb).2)]; exact A.wp b hb, A.op⟩
      have : putsL n W (ops.take i ++ [(true, a, b)]) = putsL n W (ops.take i) := by
        rw [putsL_snoc]
        have : okPut n W (true, a, b) = false := ec
        rw [this]; rfl
      rw [this]
      exact put5
  · subst ept
    refine ⟨fun c => c = (reg n a && reg n b), ⟨fun e => ldI_i cb ?_, fun e => ?_⟩, ?_⟩
    · obtain ⟨e1, e2⟩ := Bool.and_eq_true_iff.1 e
      have := of_decide_eq_true e2
      rw [e1]; simp [reg, this]
    · rcases Bool.and_eq_false_iff.1 e with e1 | e1
      · rw [e1]; rfl
      · have := of_decide_eq_false e1
        have : reg n b = false := by simp [reg]; omega
        rw [this, Bool.and_false]
    rintro _ rfl
    refine ldI_i ca (ldI_i cb ?_)
    refine cal_of (outlives_spec S4 A.tol (by omega) (by omega) (by rw [hlt']; omega) a b) ?_
    rintro _ h5 ⟨rfl, d5, k5, t5, f5, w5⟩
    rw [hxn]
    refine ⟨_, rfl, ?_⟩
    have g5 : Grow h h5 := (A.gr.trans f24).trans' f5 fun i hi hw => hw (Tl i hi)
    have ob : blk h5 h2.size #[.bool false, .int .i64 a, .int .i64 b] := f5.blk k4 (fun hw => hw wbox)
    have out5 : Own h5 h.size 2 outs (flat2 (outsL n (ops.take i))) := (A.out.frame f24 fun _ _ h => h).frame f5 fun b hb hw => hw (A.wo b hb)
    have put5 : Own h5 h.size 2 puts (flat2 (putsL n W (ops.take i))) := (A.put.frame f24 fun _ _ h => h).frame f5 fun b hb hw => hw (A.wp b hb)
    have lt4 : ∀ b, b < h2.size → b < h4.size := fun b hb => by have := f24.size; omega
    have tol5 : Tol x (opsO (ops.take i ++ [(false, a, b)])) (opsP W (ops.take i ++ [(false, a, b)])) (ops.take i ++ [(false, a, b)]).length d5 := by
      refine t5.congr (fun a' b' _ _ => ⟨fun hp => ?_, fun ⟨o, h1, h2⟩ => ?_⟩) (fun r e _ => ⟨fun ⟨o, h1, h2⟩ => ⟨o, List.mem_append_left _ h1, h2⟩, fun ⟨o, h1, h2⟩ => ?_⟩) (by simp)
      · rcases hp with ⟨o, h1, h2⟩ | ⟨h1, h2⟩
        · exact ⟨o, List.mem_append_left _ h1, h2⟩
        · exact ⟨(false, a, b), by simp, rfl, h1, h2⟩
      · rcases List.mem_append.1 h1 with h1 | h1
        · exact .inl ⟨o, h1, h2⟩
        · simp only [List.mem_singleton] at h1
          rw [h1] at h2
          exact .inr ⟨h2.2.1, h2.2.2⟩
      · rcases List.mem_append.1 h1 with h1 | h1
        · exact ⟨o, h1, h2⟩
        · simp only [List.mem_singleton] at h1
          rw [h1] at h2; cases h2.1
    have putE : putsL n W (ops.take i ++ [(false, a, b)]) = putsL n W (ops.take i) := by rw [putsL_snoc]; rfl
    have hres : (((if (reg n a && reg n b) = true then (0 : Int) else 14) == 0) != (reg n a && reg n b)) = false := by cases (reg n a && reg n b) <;> rfl
    dsimp only
    rw [hres]
    refine ⟨fun e => (by cases e), fun _ => ?_⟩
    refine ⟨fun ec => ?_, fun ec => ?_⟩
    · refine ldI_i (x := a) (by rw [add_plain, ob.cl]; rfl) (ldI_i (x := b) (by rw [add_plain, ob.cl]; rfl) ?_)
      have hpn : outs.n = (outsL n (ops.take i)).length := by have := out5.len; rw [flat2_len] at this; omega
      have hpl := outsL_len n (ops.take i)
      refine app1 (B := h.size) (sz := 2) rfl out5 rfl (by simp [Value.oneCell']) (by have := g5.size; omega) (by omega) (by omega) ?_
      intro os h8 _ o8 f8 hown
      have hs8 := f8.size
      have hs5 := f5.size
      refine ⟨d5, hxn, hxW, k5.frame f8 fun b hb ho => hb (by rw [w5 b (lt4 b (A.out.ge ho).2)]; exact A.wo b ho), tol5, ?_, by rw [putE]; exact put5.frame f8 fun b hb ho => A.op b ho hb, g5.trans' f8 fun i hi ho => by have := (A.out.ge ho).1; omega,
        fun b hb => by rw [w5 b (by have := f24.size; omega)]; exact Tl b hb, fun b hb => ?_, fun b hb => by rw [w5 b (lt4 b (A.put.ge hb).2)]; exact A.wp b hb, fun b hb ho => ?_⟩
      · have : outsL n (ops.take i ++ [(false, a, b)]) = outsL n (ops.take i) ++ [(a, b)] := by
          rw [outsL_snoc]
          have : okOut n (false, a, b) = true := ec
          rw [if_pos this]
        rw [this, flat2_snoc]
        exact o8
      · rcases hown b hb with h1 | h1
        · rw [w5 b (lt4 b (A.out.ge h1).2)]; exact A.wo b h1
        · exact k5.w0 b h1
      · rcases hown b hb with h1 | h1
        · exact A.op b h1 ho
        · have := (put5.ge ho).2; omega
    · refine ⟨d5, hxn, hxW, k5, tol5, ?_, by rw [putE]; exact put5, g5, fun b hb => by rw [w5 b (by have := f24.size; omega)]; exact Tl b hb, fun b hb => by rw [w5 b (lt4 b (A.out.ge hb).2)]; exact A.wo b hb, fun b hb => by rw [w5 b (lt4 b (A.put.ge hb).2)]; exact A.wp b hb, A.op⟩
      have : outsL n (ops.take i ++ [(false, a, b)]) = outsL n (ops.take i) := by
        rw [outsL_snoc]
        have : okOut n (false, a, b) = false := ec
        rw [this]; rfl
      rw [this]
      exact out5
end Go.Proofs.YtgbmihnainbgiaaDoor

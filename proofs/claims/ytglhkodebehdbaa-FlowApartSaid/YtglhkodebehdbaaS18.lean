/-
  FlowApart: one fact alone.
-/
import Derived.Test.YtglhkodebehdbaaS17
namespace Go.Proofs.Ytglhkodebehdbaa
open Go Go.Lf

def onlyI (e : Int) (xs : List Int) : List Int := (xs.filter fun y => y == e).map fun _ => 0
def onlyL (e : Int) (ls : List (List Int)) : List (List Int) := ls.map (onlyI e)
theorem onlyI_zero {e : Int} {xs : List Int} : (0 : Int) ∈ onlyI e xs ↔ e ∈ xs := by
  simp [onlyI]
theorem onlyI_all {e : Int} {xs : List Int} : ∀ y ∈ onlyI e xs, y = 0 := by
  intro y hy
  simp [onlyI] at hy
  exact hy.2.symm
theorem onlyI_len {e : Int} {xs : List Int} : (onlyI e xs).length ≤ xs.length := by
  rw [onlyI, List.length_map]; exact List.length_filter_le _ _
theorem at_only {e : Int} {ls : List (List Int)} (i : Nat) : at_ (onlyL e ls) i = onlyI e (at_ ls i) := by
  unfold at_ onlyL
  rw [List.getElem?_map]
  cases ls[i]? <;> rfl

theorem only_spec {h : Heap} {s : Sv} {ls : List (List Int)} {bE e : Nat} (x : ListsAt h s ls) (kE : blk h bE #[.int .i64 e]) (hn : ls.length ≤ 1000000) (hl : ∀ l ∈ ls, l.length ≤ 1000000) :
    CallsH Try.prog 18 #[.slice s.a s.n s.c, .pointer (some ⟨bE, 0, none⟩)] h (fun v h' => ∃ (u : Sv) (ts : List (Sv × List Int)), v = u.v ∧ LLOwn h' h.size u ts ∧ ts.map (fun t => t.2) = onlyL e ls ∧ Grow h h') := by
  apply F18
  unfold L18
  have hsl := x.len
  refine ⟨fun o y h1 => ∃ (i : Nat) (ts : List (Sv × List Int)), y = i ∧ i ≤ ls.length ∧ LLOwn h1 h.size o ts ∧ ts.map (fun t => t.2) = onlyL e (ls.take i) ∧ Grow h h1, fun _ y _ => (ls.length - y).toNat, ⟨0, [], rfl, by omega, LLOwn.nil _ _, by simp [onlyL], Fr.refl _ _⟩, ?_⟩
  rintro o y h1 ⟨i, ts, rfl, hi, G, ets, g1⟩
  refine ifb_dec (fun hlt => ?_) (fun hge => ?_)
  · have hil : i < ls.length := by omega
    have hwi : IntKind.i64.wrap ((i : Int) + 1) = ((i + 1 : Nat) : Int) := by rw [wrap64_id (by omega) (by omega)]; omega
    have hll := hl _ (List.getElem_mem hil)
    refine ⟨fun l y h2 => ∃ k : Nat, y = k ∧ k ≤ ls[i].length ∧ Own h2 h1.size 1 l (ints (onlyI e (ls[i].take k))) ∧ Grow h1 h2, fun _ y _ => (ls[i].length - y).toNat, ⟨0, rfl, by omega, Own.nil _ _ _, Fr.refl _ _⟩, ?_⟩
    rintro l y h2 ⟨k, rfl, hk, o2, g2⟩
    have g02 := g1.trans g2
    refine ListsAt.getg x g02 hil fun t yt => ?_
    have htn := yt.len
    refine ifb_dec (fun hlt => ?_) (fun hge => ?_)
    · have hkl : k < ls[i].length := by omega
      have hwk : IntKind.i64.wrap ((k : Int) + 1) = ((k + 1 : Nat) : Int) := by rw [wrap64_id (by omega) (by omega)]; omega
      have hln : l.n ≤ k := by
        have h1 := o2.len
        have h2 := onlyI_len (e := (e : Int)) (xs := ls[i].take k)
        simp [ints] at h1 h2
        omega
      have hnx : onlyI e (ls[i].take (k + 1)) = onlyI e (ls[i].take k) ++ (if ls[i][k] = (e : Int) then [0] else []) := by
        rw [List.take_succ_eq_append_getElem hkl]
        simp only [onlyI, List.filter_append, List.map_append, List.filter_cons, List.filter_nil]
        by_cases h : ls[i][k] = (e : Int) <;> simp [h]
      refine ⟨fun l' h5 => Own h5 h1.size 1 l' (ints (onlyI e (ls[i].take (k + 1)))) ∧ Grow h1 h5, ?_, fun l' h5 ⟨q1, q2⟩ => ⟨⟨k + 1, hwk, by omega, q1, q2⟩, by rw [hwk]; (try dsimp only); omega⟩⟩
      refine ListsAt.getg x g02 hil fun t' yt' => ?_
      refine (yt'.keep g02 fun _ _ h => h).get hkl ?_
      refine ldI_i (x := (e : Int)) (by rw [(g02.blk kE fun h => h).cl]; rfl) ?_
      refine ifb_iff (q := ls[i][k] = (e : Int)) (by simp) (fun hq => ?_) (fun hq => ?_)
      · refine app1 (B := h1.size) (sz := 1) rfl o2 rfl (by simp [Value.oneCell']) g2.size (by omega) (by omega) ?_
        intro s' h' _ o' f' _
        rw [hnx, if_pos hq]
        exact ⟨by simpa [ints] using o', own_grown o2 g2 f'⟩
      · rw [hnx, if_neg hq, List.append_nil]
        exact ⟨o2, g2⟩
    · have hk : k = ls[i].length := by omega
      subst hk
      rw [List.take_length] at o2
      have G2 := G.frame g2 fun _ _ _ h => h
      have hgn := G2.len
      have hln : ts.length = i := by have := congrArg List.length ets; simp [onlyL] at this; omega
      refine G2.app (t := l) (xs := onlyI e ls[i]) rfl rfl (own_ints o2) (fun b hb => ?_) (g02.size) (by omega) (by omega) ?_
      · have h1 := o2.ge hb
        have h2 := g1.size
        refine ⟨by omega, h1.2, fun h3 => ?_⟩
        have := (G.own.ge h3).2
        omega
      intro s' h' G' f' _
      refine ⟨⟨i + 1, ts ++ [(l, onlyI e ls[i])], hwi, by omega, G', ?_, ?_⟩, by rw [hwi]; (try dsimp only); omega⟩
      · rw [List.map_append, ets, List.take_succ_eq_append_getElem hil]
        unfold onlyL
        rw [List.map_append]
        rfl
      · exact g02.trans' f' fun b hb ho => by have := (G.own.ge ho).1; omega
  · have hi : i = ls.length := by omega
    subst hi
    rw [List.take_length] at ets
    exact ⟨o, ts, rfl, G, ets, g1⟩

/-- the closure called -/
theorem cv {h : Heap} {s : Sv} {ls : List (List Int)} {bE e : Nat} {K : Value → Heap → Prop} (kE : blk h bE #[.int .i64 e]) (x : ListsAt h s ls) (hn : ls.length ≤ 1000000) (hl : ∀ l ∈ ls, l.length ≤ 1000000)
    (k : ∀ (u : Sv) h' (ts : List (Sv × List Int)), LLOwn h' h.size u ts → ts.map (fun t => t.2) = onlyL e ls → Grow h h' → K u.v h') :
    calV Try.prog (.func (.func 18) #[] #[.pointer (some ⟨bE, 0, none⟩)]) #[.slice s.a s.n s.c] h K := by
  refine ⟨18, #[.pointer (some ⟨bE, 0, none⟩)], rfl, ⟨Try.f18, Try.func18, by kernel_rfl, by kernel_rfl⟩, ?_⟩
  refine cal_of (only_spec x kE hn hl) ?_
  rintro _ h' ⟨u, ts, rfl, G, e1, g⟩
  exact k u h' ts G e1 g
/-- the only list of a list of one -/
theorem one_of {h : Heap} {B : Nat} {u : Sv} {ts : List (Sv × List Int)} {xs : List Int} (G : LLOwn h B u ts) (e : ts.map (fun t => t.2) = [xs]) :
    ∃ q t, u.a = some q ∧ 0 < u.n ∧ cl h q = some (.slice t.a t.n t.c) ∧ IntsAt h t xs ∧ ∀ b, t.own b → B ≤ b ∧ b < h.size := by
  match ts, e with
  | [t], e =>
    simp at e
    subst e
    obtain ⟨p, e1, t', c, y⟩ := G.lists.at_ 0 (by simp)
    have hr := G.own.row
    rw [e1] at hr
    have c2 := hr 0 t.1.v (by simp)
    rw [add_zero] at c2
    obtain ⟨q1, q2⟩ := G.els t (by simp)
    exact ⟨p, t.1, e1, by have := G.len; simp at this; omega, c2, q1, fun b hb => ⟨(q2 b hb).1, (q2 b hb).2.1⟩⟩

def Pb.only (p : Pb) (e : Nat) : Pb := ⟨p.s, 1, onlyL e p.g, onlyL e p.k, onlyI e p.e⟩
theorem lv_only (p : Pb) (e i : Nat) (b : Bool) : lv (p.only e) 0 i b = lv p e i b := by
  have h1 : gen (p.only e) 0 i = gen p e i := by
    unfold gen Pb.only
    dsimp only
    rw [at_only, Bool.eq_iff_iff, decide_eq_true_iff, decide_eq_true_iff]
    exact onlyI_zero
  have h2 : kil (p.only e) 0 i = kil p e i := by
    unfold kil Pb.only
    dsimp only
    rw [at_only, Bool.eq_iff_iff, decide_eq_true_iff, decide_eq_true_iff]
    exact onlyI_zero
  unfold lv
  rw [h1, h2]
theorem clF_only {p : Pb} {e : Nat} {C : Nat → Bool} : ClF (p.only e) 0 C ↔ ClF p e C :=
  ⟨fun x => ⟨fun h0 h1 => x.ent h0 (onlyI_zero.2 h1), fun i hi hl => x.go i hi (by rw [lv_only]; exact hl)⟩,
    fun x => ⟨fun h0 h1 => x.ent h0 (onlyI_zero.1 h1), fun i hi hl => x.go i hi (by rw [lv_only] at hl; exact hl)⟩⟩
theorem clB_only {p : Pb} {e : Nat} {C : Nat → Bool} : ClB (p.only e) 0 C ↔ ClB p e C :=
  ⟨fun x => ⟨fun i hi hl => x.go i hi (by rw [lv_only]; exact hl)⟩, fun x => ⟨fun i hi hl => x.go i hi (by rw [lv_only] at hl; exact hl)⟩⟩
theorem lsF_only {p : Pb} {e : Nat} {C : Nat → Bool} (x : LsF (p.only e) 0 C) : LsF p e C := ⟨clF_only.1 x.cl, fun D hD => x.least D (clF_only.2 hD)⟩
theorem lsB_only {p : Pb} {e : Nat} {C : Nat → Bool} (x : LsB (p.only e) 0 C) : LsB p e C := ⟨clB_only.1 x.cl, fun D hD => x.least D (clB_only.2 hD)⟩
theorem onlyL_fits {e : Int} {n : Nat} {m : Int} {ls : List (List Int)} (h : fitsB n m ls = true) : fitsB n 1 (onlyL e ls) = true := by
  refine fitsB_iff.2 ⟨by simpa [onlyL] using (fitsB_iff.1 h).1, fun l hl y hy => ?_⟩
  simp [onlyL] at hl
  obtain ⟨l', _, rfl⟩ := hl
  have := onlyI_all y hy
  omega
theorem chk_only {p : Pb} {e : Nat} (h : p.chk = 0) : (p.only e).chk = 0 := by
  obtain ⟨c1, c2⟩ := chk_zero.1 h
  refine chk_zero.2 ⟨?_, ?_⟩
  · have : ¬ 1201 < p.s.length := by simp [Pb.wide] at c1; omega
    simp [Pb.wide, Pb.only, this]
  · unfold Pb.okB at c2 ⊢
    simp only [Bool.and_eq_true] at c2 ⊢
    exact ⟨⟨⟨c2.1.1.1, onlyL_fits c2.1.1.2⟩, onlyL_fits c2.1.2⟩, onlyL_fits (ls := [p.e]) c2.2⟩
theorem bd_only {p : Pb} {e : Nat} (B : p.Bd) : (p.only e).Bd := by
  have key : ∀ {ls : List (List Int)}, (∀ l ∈ ls, l.length ≤ 1000000) → ∀ l ∈ onlyL e ls, l.length ≤ 1000000 := by
    intro ls h l hl
    simp [onlyL] at hl
    obtain ⟨l', h1, rfl⟩ := hl
    exact Nat.le_trans onlyI_len (h l' h1)
  exact ⟨B.s, by have := B.g; simpa [Pb.only, onlyL] using this, by have := B.k; simpa [Pb.only, onlyL] using this, B.s1, key B.g1, key B.k1, Nat.le_trans onlyI_len B.e⟩

/-- what the making of the new problem leaves -/
def Made (h6 : Heap) (a0 : Sv) (p : Pb) (e : Nat) (q : Addr) (h : Heap) : Prop :=
  ∃ (b : Nat) (uA uB uE : Sv), q = ⟨b, 0, none⟩ ∧ blk h b (pbC a0 1 uA uB uE) ∧ PbAt h a0 1 uA uB uE (p.only e) ∧ Grow h6 h
theorem lists_frame {h h' : Heap} {B b : Nat} {u : Sv} {ts : List (Sv × List Int)} (G : LLOwn h B u ts) (d : h.size ≤ b ∨ b < B) (f : Fr (fun i => i = b) h h') : ListsAt h' u (ts.map fun t => t.2) := by
  rcases d with d | d
  · exact G.lists.keep f fun i hi e => by omega
  · exact (G.frame f fun i h1 _ e => by omega).lists
theorem made_leaf {h6 hc hA hB hE : Heap} {a0 : Sv} {a1 : Int} {a2 a3 a4 : Sv} {p : Pb} {e bP BA BB BE : Nat} {uA uB u56 : Sv} {tA tB : List (Sv × List Int)} {cs : Array Value} {J : Addr → Heap → Prop} (x : PbAt h6 a0 a1 a2 a3 a4 p)
    (LA : LLOwn hA BA uA tA) (eA : tA.map (fun t => t.2) = onlyL e p.g) (GA : Grow hA hc) (dA : hA.size ≤ bP ∨ bP < BA)
    (LB : LLOwn hB BB uB tB) (eB : tB.map (fun t => t.2) = onlyL e p.k) (GB : Grow hB hc) (dB : hB.size ≤ bP ∨ bP < BB)
    (yE : IntsAt hE u56 (onlyI e p.e)) (oE : ∀ b, u56.own b → BE ≤ b ∧ b < hE.size) (GE : Grow hE hc) (dE : hE.size ≤ bP ∨ bP < BE)
    (kP : blk hc bP cs) (sP : cs.size = 5) (hP : h6.size ≤ bP) (gh : Grow h6 hc) (hJ : J = Made h6 a0 p e) :
    stoA hc ⟨bP, 0, none⟩ [.slice a0.a a0.n a0.c, .int .i64 1, .slice uA.a uA.n uA.c, .slice uB.a uB.n uB.c, .slice u56.a u56.n u56.c] fun h' => J ⟨bP, 0, none⟩ h' := by
  refine stoA_i kP sP (by simp [Value.oneCell']) fun h' k' f' => ?_
  subst hJ
  have g' : Grow h6 h' := gh.trans' f' fun i hi ei => by omega
  have fr : ∀ {hX : Heap}, Grow hX hc → Fr (fun i => i = bP) hX h' := fun g => (g.mono fun _ _ h => h.elim).trans f'
  refine ⟨bP, uA, uB, u56, rfl, k', ⟨(x.grow g').s, rfl, ?_, ?_, ?_⟩, g'⟩
  · show ListsAt h' uA (onlyL e p.g)
    rw [← eA]; exact lists_frame LA dA (fr GA)
  · show ListsAt h' uB (onlyL e p.k)
    rw [← eB]; exact lists_frame LB dB (fr GB)
  · exact yE.frame (fr GE) fun b hb e1 => by have := oE b hb; omega
end Go.Proofs.Ytglhkodebehdbaa

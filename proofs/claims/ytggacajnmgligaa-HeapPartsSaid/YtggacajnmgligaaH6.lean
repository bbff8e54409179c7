/-
  A use, walked.
-/
import Derived.Test.YtggacajnmgligaaH5
namespace Go.Proofs.Ytggacajnmgligaa
open Go Go.Lf
set_option linter.unusedVariables false

section
variable {lab : Nat → Lb} {h : Heap} {hp : Nat} {S : Hs} {s : Sv} {bs : List Nat}
theorem filt_spec {zs : List (Hr × Hd)} {u : Sv} {g b4 k : Nat} {cur : Array Value} {pa : List Int} {sp : Sv} {al tg : Int} {w : Bool} {R : Sv → Heap → Prop} {s74 : Sv}
    (hu : u.a = some ⟨g, 0, none⟩) (kk : blk h g cur) (hc : cur.size = u.c * 3) (hn : u.n = zs.length) (hnc : u.n ≤ u.c) (ht : cur.toList.take (u.n * 3) = c3 (zs.map (·.1))) (hk : k + 1 ≤ zs.length) (hb : zs.length ≤ 1000000) (k4 : blk h b4 (pvs al sp tg)) (h4g : b4 ≠ g)
    (hR : ∀ z ∈ zs, z.1.uq = z.2.uq ∧ IntsC (fun b => lab b = .q) h z.1.s z.2.pa ∧ z.2.pa.length ≤ 1000000) (hq : lab g ≠ .q) (hps : IntsC (fun b => b ≠ g) h sp pa) (hpl : pa.length ≤ 1000000)
    (e1 : s74.a = if u.c = k + 1 then u.a else u.a.map (·.add ((k + 1) * 3))) (e2 : s74.n = u.n - (k + 1))
    (fin : ∀ h' s', Fr (fun b => b = g) h h' → s'.a = u.a → Own h' 0 3 s' (c3 ((zs.take (k + 1) ++ (zs.drop (k + 1)).filter (fun z => keepB pa w z.2)).map (·.1))) → R s' h') :
    ∃ (I : Sv → Int → Heap → Prop) (m : Sv → Int → Heap → Nat), I ⟨u.a, k + 1, u.c⟩ 0 h ∧ ∀ kept10 x76 h6, I kept10 x76 h6 →
        ifb (decide (x76 < (s74.n : Int))) (
          ∃ J_1 : Sv → Heap → Prop, (
            ixS s74 x76 fun q78 =>
            ∃ (y79 : Int) (y79_1 : Sv) (y79_2 : Bool), cl h6 (q78.add ((x76 : Int).toNat * 3)) = some (.int .i64 y79) ∧ cl h6 ((q78.add ((x76 : Int).toNat * 3)).add 1) = some (.slice y79_1.a y79_1.n y79_1.c) ∧ cl h6 ((q78.add ((x76 : Int).toNat * 3)).add 2) = some (.bool y79_2) ∧
            new 80 #[.int .i64 0, .slice (⟨none, 0, 0⟩ : Sv).a (⟨none, 0, 0⟩ : Sv).n (⟨none, 0, 0⟩ : Sv).c, .bool false] h6 fun p12 h7 =>
            stoA h7 p12 [.int .i64 y79, .slice y79_1.a y79_1.n y79_1.c, .bool y79_2] fun h8 =>
            ldS h8 (p12.add 1) fun x81 =>
            ldS h8 ((⟨b4, 0, none⟩ : Addr).add 1) fun x83 =>
            cal Try.prog 48 #[.slice x81.a x81.n x81.c, .slice x83.a x83.n x83.c] h8 fun u_3 h9 => asB u_3 fun x84 =>
            ∃ J_2 : Bool → Prop, (orr (!x84) (fun k =>
              ∃ J_3 : Bool → Prop, (andr (!w) (fun k_1 =>
                ldB h9 (p12.add 2) fun x91 =>
                k_1 (!x91)) J_3) ∧ ∀ x93, J_3 x93 →
              k x93) J_2) ∧ ∀ x94, J_2 x94 →
            ifb x94 (
              ∃ (y96 : Int) (y96_1 : Sv) (y96_2 : Bool), cl h9 p12 = some (.int .i64 y96) ∧ cl h9 (p12.add 1) = some (.slice y96_1.a y96_1.n y96_1.c) ∧ cl h9 (p12.add 2) = some (.bool y96_2) ∧
              newS 80 #[.int .i64 y96, .slice y96_1.a y96_1.n y96_1.c, .bool y96_2] 1 h9 fun s97 h10 =>
              appS 80 (Value.agg #[.int .i64 0, .slice (⟨none, 0, 0⟩ : Sv).a (⟨none, 0, 0⟩ : Sv).n (⟨none, 0, 0⟩ : Sv).c, .bool false]).cells 3 40 h10 kept10 s97 fun s98 h11 =>
              J_1 s98 h11) (
              J_1 kept10 h9)) ∧ (∀ kept10_1 h12, J_1 kept10_1 h12 →
          I kept10_1 (IntKind.i64.wrap (x76 + 1)) h12 ∧ m kept10_1 (IntKind.i64.wrap (x76 + 1)) h12 < m kept10 x76 h6))
          (R kept10 h6) := by
  have hn74 : s74.n = zs.length - (k + 1) := by rw [e2, hn]
  let F : Nat → List (Hr × Hd) := fun m => zs.take (k + 1) ++ ((zs.drop (k + 1)).take m).filter (fun z => keepB pa w z.2)
  have hFl : ∀ m, (F m).length ≤ k + 1 + m := fun m => by
    have := List.length_filter_le (fun z : Hr × Hd => keepB pa w z.2) ((zs.drop (k + 1)).take m)
    simp only [F, List.length_append, List.length_take, List.length_drop] at this ⊢
    omega
  refine ⟨fun kept x h' => ∃ (m : Nat) (cur' : Array Value), x = m ∧ m ≤ zs.length - (k + 1) ∧ kept = ⟨u.a, (F m).length, u.c⟩ ∧ blk h' g cur' ∧ cur'.size = cur.size ∧ cur'.toList.take ((F m).length * 3) = c3 ((F m).map (·.1)) ∧ (∀ i, (k + 1 + m) * 3 ≤ i → cur'[i]? = cur[i]?) ∧ Fr (fun b => b = g) h h',
    fun _ x _ => zs.length - x.toNat, ⟨0, cur, rfl, Nat.zero_le _, ?_, kk, rfl, ?_, fun _ _ => rfl, Fr.refl _ _⟩, ?_⟩
  · have : (F 0).length = k + 1 := by simp [F]; omega
    rw [this]
  · have hF0 : F 0 = zs.take (k + 1) := by simp [F]
    have hl0 : (F 0).length = k + 1 := by rw [hF0]; simp; omega
    rw [hl0, hF0, List.map_take, ← c3_take, ← ht, List.take_take]
    congr 1
    omega
  rintro _ _ h6 ⟨m, cur', rfl, hm, rfl, k6, hs6, ht6, hr6, f6⟩
  refine ifb_iff (q := m < zs.length - (k + 1)) (by rw [hn74]; simp) (fun hlt => ?_) (fun hge => ?_)
  rotate_left
  · obtain rfl : m = zs.length - (k + 1) := by omega
    have hF : F (zs.length - (k + 1)) = zs.take (k + 1) ++ (zs.drop (k + 1)).filter (fun z => keepB pa w z.2) := by
      simp only [F]
      rw [List.take_of_length_le (Nat.le_of_eq (List.length_drop ..))]
    rw [hF] at ht6 ⊢
    refine fin h6 _ f6 rfl ⟨by rw [c3_len, List.length_map], .inr ⟨g, cur', hu, Nat.zero_le _, k6, ?_, by rw [hs6, hc], ht6⟩⟩
    have := hFl (zs.length - (k + 1))
    rw [hF] at this
    dsimp only
    omega
  have hz : k + 1 + m < zs.length := by omega
  have hF1 : F (m + 1) = F m ++ (if keepB pa w zs[k + 1 + m].2 = true then [zs[k + 1 + m]] else []) := by
    simp only [F]
    rw [List.append_assoc]
    congr 1
    rw [List.take_succ_eq_append_getElem (by simp; omega), List.filter_append, List.getElem_drop]
    congr 1
    rw [List.filter_cons, List.filter_nil]
  -- the right
  have hcell : ∀ q, q < 3 → cl h6 ((((⟨g, 0, none⟩ : Addr).add ((k + 1) * 3)).add (m * 3)).add q) = (hvs zs[k + 1 + m].1)[q]? := fun q hq => by
    have c := c3_get (zs.map (·.1)) (k + 1 + m) (by simpa using hz) q hq
    rw [List.getElem_map] at c
    rw [add_plain, add_plain, add_plain, k6.cl, hr6 _ (by rw [Nat.add_mul]; omega), ← c, ← ht, List.getElem?_take, if_pos (by omega), Array.getElem?_toList]
    congr 1
    rw [Nat.add_mul]
    omega
  obtain ⟨r1, r2, r3⟩ := hR _ (List.getElem_mem hz)
  generalize hzz : zs[k + 1 + m] = z at *
  refine ⟨fun kept h' => ∃ cur2, kept = ⟨u.a, (F (m + 1)).length, u.c⟩ ∧ blk h' g cur2 ∧ cur2.size = cur.size ∧ cur2.toList.take ((F (m + 1)).length * 3) = c3 ((F (m + 1)).map (·.1)) ∧ (∀ i, (k + 1 + (m + 1)) * 3 ≤ i → cur2[i]? = cur[i]?) ∧ Fr (fun b => b = g) h h', ?_, ?_⟩
  rotate_left
  · rintro _ h12 ⟨cur2, rfl, a1, a2, a3, a4, a5⟩
    rw [wrap_succ hlt (by omega)]
    exact ⟨⟨m + 1, cur2, rfl, hlt, rfl, a1, a2, a3, a4, a5⟩, by dsimp only; omega⟩
  have ea : s74.a = some ((⟨g, 0, none⟩ : Addr).add ((k + 1) * 3)) := by
    rw [e1, if_neg (by omega), hu]; rfl
  refine ⟨_, ea, by omega, by rw [hn74]; omega, z.1.tg, z.1.s, z.1.uq, ?_⟩
  rw [Int.toNat_natCast]
  refine ⟨by have := hcell 0 (by omega); rw [add_zero] at this; exact this, hcell 1 (by omega), hcell 2 (by omega), ?_⟩
  rintro p12 h7 rfl rfl
  have f7 : Grow h6 (h6.push (.cells #[Value.int .i64 0, .slice (⟨none, 0, 0⟩ : Sv).a (⟨none, 0, 0⟩ : Sv).n (⟨none, 0, 0⟩ : Sv).c, .bool false] 80)) := Fr.push _ _ _
  refine stoA_i (blk.new h6 _ _) rfl (vs := (hvs z.1).toList) (one_hv _) fun h8 b8 f8 => ?_
  have g8 : Grow h6 h8 := f7.trans' f8 fun i hi e => by omega
  have K4 := g8.blk (f6.blk k4 h4g) fun h => h
  refine ldS_i (s := z.1.s) (by rw [add_plain, b8.cl]; rfl) (ldS_i (s := sp) (by rw [add_plain, K4.cl]; rfl) ?_)
  have p1 : PAt h8 z.1.s z.2.pa := PAt.ofC ((r2.fr f6 fun b hb e => by rw [e] at hb; exact hq hb).fr g8 fun _ _ h => h) r3
  have p2 : PAt h8 sp pa := PAt.ofC ((hps.fr f6 fun b hb e => hb e).fr g8 fun _ _ h => h) hpl
  refine cal_of (overlap_spec p1 p2) ?_
  rintro _ _ ⟨rfl, rfl⟩
  refine ⟨_, rfl, fun b => b = keepB pa w z.2, ⟨fun e => by unfold keepB; rw [e]; rfl, fun e => ?_⟩, ?_⟩
  · refine ⟨fun b => b = (!w && !z.2.uq), ⟨fun e' => ?_, fun e' => by rw [e']; rfl⟩, ?_⟩
    · refine ⟨z.1.uq, by rw [add_plain, b8.cl]; rfl, ?_⟩
      rw [e', r1]; rfl
    · rintro _ rfl
      unfold keepB
      rw [e]; rfl
  rintro _ rfl
  have k8 := g8.blk k6 fun h => h
  have F8 : Fr (fun b => b = g) h h8 := f6.trans' g8 fun _ _ h => h.elim
  refine ⟨fun e => ?_, fun e => ?_⟩
  · rw [if_pos e] at hF1
    refine ⟨z.1.tg, z.1.s, z.1.uq, by rw [b8.cl]; rfl, by rw [add_plain, b8.cl]; rfl, by rw [add_plain, b8.cl]; rfl, ?_⟩
    rw [hu]
    have hFm := hFl m
    refine app1_in (vs := hvs z.1) (cur := cur') k8 (by rw [hs6, hc]) (by omega) rfl (one_hv _) fun h' cur2 a1 a2 a3 a4 a5 => ?_
    have hl1 : (F (m + 1)).length = (F m).length + 1 := by rw [hF1]; simp
    refine ⟨cur2, by rw [hl1], a1, by rw [a2, hs6], ?_, fun i hi => ?_, F8.trans a5⟩
    · rw [hl1, hF1, List.map_append, c3_app]
      apply List.ext_getElem?
      intro i
      rw [List.getElem?_take]
      have hl : (c3 ((F m).map (·.1))).length = (F m).length * 3 := by rw [c3_len, List.length_map]
      have hone : c3 ([z].map (·.1)) = (hvs z.1).toList := by simp [c3]
      by_cases hi : i < (F m).length * 3
      · rw [if_pos (by omega), List.getElem?_append_left (by omega), Array.getElem?_toList, a4 i (.inl hi), ← ht6, List.getElem?_take, if_pos hi, Array.getElem?_toList]
      · rw [List.getElem?_append_right (by omega), hl, hone, Array.getElem?_toList]
        by_cases hi2 : i < (F m).length * 3 + 3
        · rw [if_pos (by omega), Array.getElem?_toList, a3 i (by omega) hi2]
        · rw [if_neg (by omega), List.getElem?_eq_none (by simp; omega)]
    · rw [a4 i (.inr (by omega)), hr6 i (by omega)]
  · have hl1 : F (m + 1) = F m := by
      rw [hF1, if_neg (by rw [e]; exact Bool.false_ne_true), List.append_nil]
    rw [hl1]
    exact ⟨cur', rfl, k8, hs6, ht6, fun i hi => hr6 i (by omega), F8⟩
end
end Go.Proofs.Ytggacajnmgligaa

/- A hash as a number: the document's. Rounds that leave what their iterator names. Products of powers. Proofs that two logarithms are one: exponents and powers. No conditions. -/
import Derived.Test.YtcjchcommaahdaaGreatQ12
import Derived.Test.YtcjchcommaahdaaGreatQ27
set_option maxRecDepth 20000
set_option maxHeartbeats 4000000
set_option linter.all false
namespace Go.Proofs.YtcjchcommaahdaaGreat
open Go.Ab
theorem r3_wide_num (m : Nat) (t : ByteArray) (ps : List (List Nat)) (hm : m < BB) (h : m ≠ 0) (H : Heap) (n : Nat) : ACall Tryz.prog 125 [N (halfN t ps 1), N (halfN t ps 0), N m] H n (Ret (.tuple #[N (numH m t ps), .int .i64 ((0 : Nat) : Int)]) H n) := by
  rw [← numH_pos h]; exact r3_wide_all _ _ m (halfN_lt _ _ _) (halfN_lt _ _ _) hm h H n
attribute [local irreducible] cmpr h0 SM fk bs zc74 s0 kc bel pre long halfN sha ofB enc numH numE
theorem r6_Number (m : Nat) (t : ByteArray) (ps : List (List Nat)) (vs rest : List Value) (bp cap : Nat) (e : TypeId) (fz : Nat × Nat) (H : Heap) (n : Nat) (hm : m < BB) (ht : t.size ≤ 1000) (hpl : ps.length < 200) (hps : ∀ p, p ∈ ps → p.length ≤ 100000 ∧ ∀ c, c ∈ p → c < 256) (hvs : PartsA n H vs ps) (hvo : vs.all Value.oneCell' = true) (hbp : bp < n) (hH : H bp = some (.cells (vs ++ rest) e fz)) : ACall Tryz.prog 78 [N m, .string t, .slice (some ⟨bp, 0, none⟩) ps.length cap] H n (Ret (.tuple #[N (numH m t ps), .int .i64 (numE m : Nat)]) H n) := by
  refine acall_retF mix lw Tryz.func78 ok78 (fun _ _ => Tryz.call78 _ _) rfl ?_
  have hvl := hvs.1
  have bbp := BB_pos
  by_cases h0 : m = 0
  · subst h0
    rw [numH_zero, numE_zero]
    refine wk2 @c78.eq_1 rN ?_
    exact ⟨rfl, agr⟩
  · rw [numE_pos h0]
    have hbo : ∀ b, b < 256 → Bounded (ps ++ [[b]]) := fun b hb => Bounded.snoc hps hpl hb
    have hsv : ∀ H', Agree n H H' → Go.Ab.Src H' (.slice (some ⟨bp, 0, none⟩) ps.length cap) vs 1 := by
      intro H' hA
      refine ⟨_, _, _, rfl, by rw [hvl, Nat.mul_one], ?_, hvo⟩
      simp only [srcCells, hA bp hbp, hH]
      rw [if_pos (by rw [List.length_append]; omega), List.drop_zero, Nat.mul_one, ← hvl, List.take_left]
    refine wk3 @c78.eq_1 rN @h0 ?_
    generalize hG : upd (upd H _ _) _ _ = G
    have g0 : G n = some (.cells [.int .u64 (w0 m : Nat), .int .u64 (w1 m : Nat), .int .u64 (w2 m : Nat), .int .u64 (w3 m : Nat)] 24 (0, 0)) := by rw [← hG, upd_ne _ _ (by omega), upd_same]
    have g1 : G (n + 1) = some (.cells [.int .u64 ((0 : Nat) : Int), .int .u64 ((0 : Nat) : Int), .int .u64 ((0 : Nat) : Int), .int .u64 ((0 : Nat) : Int)] 24 (0, 0)) := by rw [← hG, upd_same]
    have GA : Agree n H G := fun i hi => by rw [← hG, upd_ne _ _ (by omega), upd_ne _ _ (by omega)]
    clear hG
    refine AGo_copyL (nb := (n + 6)) (l2 := vs) ((hsv _ GA)) (by omega) (by rw [hvl]; omega) (by decide) (by omega) ?_
    intro v1 H1 o1 hA1
    refine wk0 ?_
    refine AGo_pushLS (n1 := (n + 6) + 5) (nb := (n + 6)) (l := vs) (((o1.upd (n' := (n + 6) + 4) (by omega) (by omega))).upd (by omega) (by omega)) (src_mk (upd_same _ _ _) rfl rfl) (by simp) (by omega) (by omega) (by rw [hvl]; simp; omega) (by decide) (by omega) rfl ?_
    intro w1 K1 p1 hB1 hC1
    have hv1 : ∀ j, (n + 6) + 3 ≤ j → ∀ k c, v1 ≠ .slice (some ⟨j, 0, none⟩) k c := by
      intro j hj k c e
      rcases o1 with ⟨h, -⟩ | h
      · rw [h] at e; cases e
      · have := h.2 _ _ _ e; omega
    have hlow1 : ∀ j, j < (n + 6) → ∀ k c, v1 ≠ .slice (some ⟨j, 0, none⟩) k c := by
      intro j hj k c e
      rcases o1 with ⟨h, -⟩ | h
      · rw [h] at e; cases e
      · obtain ⟨_, _, _, _, e2, hb, _⟩ := h.1
        rw [e2] at e; cases e; omega
    have b31 : K1 ((n + 6) + 3) = some (.cells [.int .u8 ((0 : Nat) : Int)] 5 (0, 0)) := by rw [hB1 _ (hv1 _ (by omega)) (by omega), upd_ne _ _ (by omega), upd_same]
    have bA1 : ∀ i, i < (n + 6) → K1 i = G i := fun i hi => by rw [hB1 _ (hlow1 _ (by omega)) (by omega), upd_ne _ _ (by omega), upd_ne _ _ (by omega)]; exact hA1 i hi
    have hA21 : Agree n H K1 := fun i hi => (bA1 i (by omega)).trans (GA i hi)
    have hpa1 : PartsA ((n + 6) + 6) K1 (vs ++ [.slice (some ⟨(n + 6) + 3, 0, none⟩) 1 1]) (ps ++ [[0]]) := by
      refine PartsA.snoc (hvs.later hA21 (by omega)) (SrcA.of_block (by omega) b31 (by simp) ?_ (bs_all _)) ?_
      · rw [u8_one]; rw [List.drop_zero, List.take_of_length_le (by rw [bs_length]; simp)]
      · intro _ _ _ h; cases h; omega
    obtain ⟨⟨b1, k1, c1, r1, rfl, hb1, hB21, hl1, -⟩, hbn1⟩ := p1
    replace hbn1 := hbn1 _ _ _ rfl
    have hk1 : (ps ++ [[0]]).length = k1 := by
      have : (vs ++ [Value.slice (some ⟨(n + 6) + 3, 0, none⟩) 1 1]).length = k1 * 1 := hl1
      simp at this ⊢; omega
    have hof1 := fun n' (hn' : (n + 6) + 9 ≤ n') => r6_Of t (ps ++ [[0]]) _ r1 b1 c1 _ (0, 0) K1 n' ht (hbo 0 (by omega)) (hpa1.later (fun _ _ => rfl) (by omega)) (by omega) hB21
    rw [hk1] at hof1
    clear hB1 hC1 hA1 o1
    refine wk0 ?_
    refine AGo_askV (hof1 _ (by omega)) ?_
    simp (disch := first | assumption | omega) only [ite_lt, ite_le, bin_rem_u64, bin_quo_u64, fl_get, fl_splice, fl_splice_all, fl_length, fl_all, fl_take, cell_wK, ↓z32', fk_length, fk_all, fk_splice_all, W1, sim, ↓reduceIte, Nat.reduceAdd, Nat.reduceSub, Nat.reduceMul, Nat.reduceLT, Nat.reduceLeDiff, Nat.reduceEqDiff, Nat.reduceBEq, Nat.reduceBNe, Nat.reduceMod, Nat.reduceDiv]
    generalize hG2 : upd K1 _ _ = G2
    have G2A : Agree n H G2 := fun i hi => by rw [← hG2, upd_ne _ _ (by omega)]; exact hA21 i hi
    have k0 := (bA1 n (by omega)).trans g0
    have k1' := (bA1 (n + 1) (by omega)).trans g1
    rw [show K1 n = G2 n by rw [← hG2, upd_ne _ _ (by omega)]] at k0
    rw [show K1 (n + 1) = G2 (n + 1) by rw [← hG2, upd_ne _ _ (by omega)]] at k1'
    have k13 : G2 (n + 13) = some (.cells (fk .u8 32 (sha (enc t (ps ++ [[0]])))) 64 (0, 0)) := by rw [← hG2, upd_same]
    clear hG2
    refine AGo_copyL (nb := (n + 15)) (l2 := vs) ((hsv _ G2A)) (by omega) (by rw [hvl]; omega) (by decide) (by omega) ?_
    intro v2 H2 o2 hA2
    refine wk0 ?_
    refine AGo_pushLS (n1 := (n + 15) + 5) (nb := (n + 15)) (l := vs) (((o2.upd (n' := (n + 15) + 4) (by omega) (by omega))).upd (by omega) (by omega)) (src_mk (upd_same _ _ _) rfl rfl) (by simp) (by omega) (by omega) (by rw [hvl]; simp; omega) (by decide) (by omega) rfl ?_
    intro w2 K2 p2 hB2 hC2
    have hv2 : ∀ j, (n + 15) + 3 ≤ j → ∀ k c, v2 ≠ .slice (some ⟨j, 0, none⟩) k c := by
      intro j hj k c e
      rcases o2 with ⟨h, -⟩ | h
      · rw [h] at e; cases e
      · have := h.2 _ _ _ e; omega
    have hlow2 : ∀ j, j < (n + 15) → ∀ k c, v2 ≠ .slice (some ⟨j, 0, none⟩) k c := by
      intro j hj k c e
      rcases o2 with ⟨h, -⟩ | h
      · rw [h] at e; cases e
      · obtain ⟨_, _, _, _, e2, hb, _⟩ := h.1
        rw [e2] at e; cases e; omega
    have b32 : K2 ((n + 15) + 3) = some (.cells [.int .u8 ((1 : Nat) : Int)] 5 (0, 0)) := by rw [hB2 _ (hv2 _ (by omega)) (by omega), upd_ne _ _ (by omega), upd_same]
    have bA2 : ∀ i, i < (n + 15) → K2 i = G2 i := fun i hi => by rw [hB2 _ (hlow2 _ (by omega)) (by omega), upd_ne _ _ (by omega), upd_ne _ _ (by omega)]; exact hA2 i hi
    have hA22 : Agree n H K2 := fun i hi => (bA2 i (by omega)).trans (G2A i hi)
    have hpa2 : PartsA ((n + 15) + 6) K2 (vs ++ [.slice (some ⟨(n + 15) + 3, 0, none⟩) 1 1]) (ps ++ [[1]]) := by
      refine PartsA.snoc (hvs.later hA22 (by omega)) (SrcA.of_block (by omega) b32 (by simp) ?_ (bs_all _)) ?_
      · rw [u8_one]; rw [List.drop_zero, List.take_of_length_le (by rw [bs_length]; simp)]
      · intro _ _ _ h; cases h; omega
    obtain ⟨⟨b2, k2, c2, r2, rfl, hb2, hB22, hl2, -⟩, hbn2⟩ := p2
    replace hbn2 := hbn2 _ _ _ rfl
    have hk2 : (ps ++ [[1]]).length = k2 := by
      have : (vs ++ [Value.slice (some ⟨(n + 15) + 3, 0, none⟩) 1 1]).length = k2 * 1 := hl2
      simp at this ⊢; omega
    have hof2 := fun n' (hn' : (n + 15) + 9 ≤ n') => r6_Of t (ps ++ [[1]]) _ r2 b2 c2 _ (0, 0) K2 n' ht (hbo 1 (by omega)) (hpa2.later (fun _ _ => rfl) (by omega)) (by omega) hB22
    rw [hk2] at hof2
    clear hB2 hC2 hA2 o2
    refine wk0 ?_
    refine AGo_askV (hof2 _ (by omega)) ?_
    simp (disch := first | assumption | omega) only [ite_lt, ite_le, bin_rem_u64, bin_quo_u64, fl_get, fl_splice, fl_splice_all, fl_length, fl_all, fl_take, cell_wK, ↓z32', fk_length, fk_all, fk_splice_all, W1, sim, ↓reduceIte, Nat.reduceAdd, Nat.reduceSub, Nat.reduceMul, Nat.reduceLT, Nat.reduceLeDiff, Nat.reduceEqDiff, Nat.reduceBEq, Nat.reduceBNe, Nat.reduceMod, Nat.reduceDiv]
    generalize hG3 : upd K2 _ _ = G3
    have j0 := (bA2 n (by omega)).trans k0
    have j1 := (bA2 (n + 1) (by omega)).trans k1'
    have j13 := (bA2 (n + 13) (by omega)).trans k13
    rw [show K2 n = G3 n by rw [← hG3, upd_ne _ _ (by omega)]] at j0
    rw [show K2 (n + 1) = G3 (n + 1) by rw [← hG3, upd_ne _ _ (by omega)]] at j1
    rw [show K2 (n + 13) = G3 (n + 13) by rw [← hG3, upd_ne _ _ (by omega)]] at j13
    have j22 : G3 (n + 22) = some (.cells (fk .u8 32 (sha (enc t (ps ++ [[1]])))) 64 (0, 0)) := by rw [← hG3, upd_same]
    have G3A : Agree n H G3 := fun i hi => by rw [← hG3, upd_ne _ _ (by omega)]; exact hA22 i hi
    clear hG3
    refine AGo_askV (r1_GetLong (sha (enc t (ps ++ [[0]]))) _ (n + 13) _ _ _ _ (sha_lt _) (by omega) j13 (fk_at _ _ _)) ?_
    refine wk2 rN @halfN_def ?_
    refine AGo_askV (r1_GetLong (sha (enc t (ps ++ [[1]]))) _ (n + 22) _ _ _ _ (sha_lt _) (by omega) (by rw [upd_ne _ _ (by omega)]; exact j22) (fk_at _ _ _)) ?_
    refine wk4 rN @halfN_def @j0 @j1 ?_
    refine AGo_askV (r3_wide_num m t ps hm h0 _ _) ?_
    refine wk2 rN @j1 ?_
    exact ⟨rfl, agr⟩
end Go.Proofs.YtcjchcommaahdaaGreat
namespace Go.Ab
theorem AYield.gap {P : Program} {l : Nat} {args : List Value} {H : Heap} {n n0 : Nat} {Q : Post} (h : AYield P l args H n Q) (hn : ∀ i, n0 ≤ i → i < n → H i = none)
    (hQ : ∀ e H1 H2 n', Q e H1 n' → (∀ i, ¬ (n0 ≤ i ∧ i < n) → H2 i = H1 i) → Q e H2 n') : AYield P l args H n (fun e H' n' => Q e H' n' ∧ Ab.Clean H' n' ∧ ∀ i, n0 ≤ i → i < n → H' i = none) := by
  intro hC ρ w args' l' hH hF hl ha
  obtain ⟨fn, tmps, assign, body, hrun, hk⟩ := h hC ρ w args' l' hH hF hl ha
  refine ⟨fn, tmps, assign, body, hrun, fun G c cs hG hend => hk G c cs hG fun v w' hE => hend v w' ?_⟩
  obtain ⟨e, ρ', H', n', h1, h2, h3, h4, h5, h6, h7⟩ := hE
  refine ⟨e, ρ', fun i => if n0 ≤ i ∧ i < n then none else H' i, n', h1, ⟨hQ _ _ _ _ h2 fun i hi => if_neg hi, ?_, fun i a b => if_pos ⟨a, b⟩⟩, ⟨h3.inj, ?_⟩, h4, ?_, h6, h7⟩
  · intro i hi; show (if n0 ≤ i ∧ i < n then none else H' i) = none; split
    · rfl
    · exact h5 i hi
  · intro i b hb
    have hng : ¬ (n0 ≤ i ∧ i < n) := by
      rintro ⟨h8, h9⟩
      rcases h7.new i b hb with h10 | h10
      · obtain ⟨o, o', g1, -, -⟩ := hH.obj i b h10
        rw [hn i h8 h9] at g1; cases g1
      · omega
    obtain ⟨o, o', g1, g2, g3⟩ := h3.obj i b hb
    exact ⟨o, o', (if_neg hng).trans g1, g2, g3⟩
  · intro i hi; show (if n0 ≤ i ∧ i < n then none else H' i) = none; split
    · rfl
    · exact h5 i hi
section
variable {P : Program} {res : ALeave} {k : List AItem} {tm : List Value} {H : Heap} {n n0 : Nat} {d : Bool} {R : Post} {dst : Option Nat} {f : Opd} {args ap : List Opd} {ops : List AOper} {g : FuncId} {first cap : Array Value}
/-- As AGo_range; what is so between the rounds is so of names below the iterator's own. -/
theorem AGo_rangeG {rs : List ARes} {ps as' bd} (vals : Nat → List Value) (N : Nat) (J : Nat → Heap → Nat → Prop) (JX : AJump → Heap → Nat → Prop)
    (eg : ∀ args w, (callFunc g args).run P w = .ok (.enter g args) w) (hps : ∀ i, (vals i).length = ps.length)
    (hs : ∀ i H n H' n', J i H n → AgreeB n H H' → n ≤ n' → J i H' n') (hsX : ∀ j H n H' n', JX j H n → AgreeB n H H' → n ≤ n' → JX j H' n')
    (hg : ∀ i H1 H2 n', J i H1 n' → (∀ j, j < n + 1 → H2 j = H1 j) → J i H2 n') (hgX : ∀ i H1 H2 n', JX i H1 n' → (∀ j, j < n + 1 → H2 j = H1 j) → JX i H2 n')
    (hu : ∀ i H' n' x, J i H' n' → J i (upd H' n x) n') (huX : ∀ j H' n' x, JX j H' n' → JX j (upd H' n x) n')
    (hit : ∀ r (J' : Nat → Heap → Nat → Prop) (JX' : AJump → Heap → Nat → Prop), (∀ i H' n', J' i H' n' → J i H' n') → (∀ i H1 H2 n', J' i H1 n' → (∀ j, j < n + 1 → H2 j = H1 j) → J' i H2 n') → (∀ i H1 H2 n', JX' i H1 n' → (∀ j, j < n + 1 → H2 j = H1 j) → JX' i H2 n') →
      AIter P g first.toList cap.toList n vals N J' JX' (upd H n (.loop r tm)) (n + 1))
    (h0 : J 0 H (n + 1))
    (hbody : ∀ i r H' n', i < N → LoopOK r → n < n' → H' n = some (.loop r tm) → J i H' n' → AGo P (.round n) [.code as', .begin, .code bd] (setPs tm ps (vals i)) H' n' (RoundEnd n r tm (J (i + 1)) JX))
    (hdone : ∀ H' n', J N H' n' → AGo P (.fn rs) k tm H' n' R)
    (hjump : ∀ j H' n', JX j H' n' → AGo P (.fn rs) (.code j.acode :: k) tm H' n' R) :
    RangeV P (.fn rs) f ps as' bd k tm H n R (.func (.func g) first cap) := by
  intro hf
  refine .rangeFunc (N := N) vals (fun r i H' n' => H' n = some (.loop r tm) ∧ n < n' ∧ J i H' n') (fun r j H' n' => H' n = some (.loop { r with state := .done, pending := j.code } tm) ∧ n < n' ∧ j ≠ .off ∧ JX j H' n')
    hf eg hps (fun r i H' n' h => ⟨h.1, h.2.1⟩) (fun r j H' n' h => ⟨h.1, h.2.1, h.2.2.1⟩) ?_ ?_
    (fun r hr => hit r _ _ (fun i H' n' h => h.2.2) (fun i H1 H2 n' h hj => ⟨by rw [hj n (Nat.lt_succ_self _)]; exact h.1, h.2.1, hg _ _ _ _ h.2.2 hj⟩) (fun i H1 H2 n' h hj => ⟨by rw [hj n (Nat.lt_succ_self _)]; exact h.1, h.2.1, h.2.2.1, hgX _ _ _ _ h.2.2.2 hj⟩))
    (fun r hr => ⟨upd_same _ _ _, Nat.lt_succ_self _, hu _ _ _ _ h0⟩) ?_ (fun r o H' n' hr h => hdone _ _ (hu _ _ _ _ h.2.2)) (fun r j o H' n' hr h => hjump _ _ _ (huX _ _ _ _ h.2.2.2))
  · rintro r i H1 n1 H2 n2 ⟨h1, h2, h3⟩ ha hn
    exact ⟨by rw [ha _ h2]; exact h1, by omega, hs _ _ _ _ _ h3 ha hn⟩
  · rintro r i H1 n1 H2 n2 ⟨h1, h2, h3, h4⟩ ha hn
    exact ⟨by rw [ha _ h2]; exact h1, by omega, h3, hsX _ _ _ _ _ h4 ha hn⟩
  · rintro r i H' n' hr hi ⟨h1, h2, h3⟩
    refine AGo.mono ?_ (hbody i r H' n' hi hr h2 h1 h3)
    rintro e H n' ⟨j, rfl, g1, g2, g3⟩
    refine ⟨j, rfl, g1, ?_⟩
    cases j with
    | off => exact ⟨upd_same _ _ _, g2, hu _ _ _ _ g3⟩
    | ret => exact ⟨upd_same _ _ _, g2, by simp, huX _ _ _ _ g3⟩
    | out id => exact ⟨upd_same _ _ _, g2, by simp, huX _ _ _ _ g3⟩
end
end Go.Ab
namespace Go.Proofs.YtcjchcommaahdaaGreat
open Go.Ab
theorem agg_vN (x : Nat) : Value.agg (vcells (N x)).toArray = N x := rfl
def Boxes2 (g : FuncId) (e : TypeId) (s1 s2 : Value) (n : Nat) (H : Heap) : Post := fun r H' n' => ∃ b c, r = .returned (.func (.func g) #[] #[.pointer (some ⟨b, 0, none⟩), .pointer (some ⟨c, 0, none⟩)]) ∧ n ≤ b ∧ b < n' ∧ n ≤ c ∧ c < n' ∧ b ≠ c ∧ H' b = some (.cells [s1] e (0, 0)) ∧ H' c = some (.cells [s2] e (0, 0)) ∧ Agree n H H'
theorem gr_pairs (sa sb : Option Addr) (m m2 c c2 : Nat) (H : Heap) (n : Nat) : ACall Tryz.prog 151 [.slice sa m c, .slice sb m2 c2] H n (Boxes2 161 30 (.slice sa m c) (.slice sb m2 c2) n H) := by
  refine acall_ofF mix Tryz.func151 ok151 (fun _ _ => Tryz.call151 _ _) rfl ?_
  refine wk1 @c151.eq_1 ?_
  refine ⟨n, n + 1, rfl, Nat.le_refl _, by omega, by omega, by omega, by omega, ?_, ?_, agr⟩
  · exact up0
  · exact up0
theorem pairs_iter (b1 b2 ba bn N0 c c2 m0 : Nat) (csa csn : List Value) (e e2 e3 e4 : TypeId) (fz f2 f3 f4 : Nat × Nat) (a nn : Nat → Nat) (ha : ∀ i, i < N0 → i * 4 + 4 ≤ csa.length ∧ (csa.drop (i * 4)).take 4 = vcells (N (a i))) (hn : ∀ i, i < N0 → i * 4 + 4 ≤ csn.length ∧ (csn.drop (i * 4)).take 4 = vcells (N (nn i))) (hN : N0 < 2 ^ 60) (l : Nat) (J : Nat → Heap → Nat → Prop) (JX : AJump → Heap → Nat → Prop)
    (hK : ∀ i H' n', J i H' n' → H' b1 = some (.cells [.slice (some ⟨ba, 0, none⟩) N0 c] e f2) ∧ H' b2 = some (.cells [.slice (some ⟨bn, 0, none⟩) N0 c2] e2 f3) ∧ H' ba = some (.cells csa e3 fz) ∧ H' bn = some (.cells csn e4 f4)) (H : Heap) (n : Nat)
    (hg : ∀ i H1 H2 n', J i H1 n' → (∀ j, j < n → H2 j = H1 j) → J i H2 n') (hgX : ∀ i H1 H2 n', JX i H1 n' → (∀ j, j < n → H2 j = H1 j) → JX i H2 n') :
    AIter Tryz.prog 161 [] [.pointer (some ⟨b1, 0, none⟩), .pointer (some ⟨b2, 0, none⟩)] l (fun i => [N (a i), N (nn i)]) N0 J JX H n := by
  intro hsJ hsX hy h0 hC0
  refine (acall_ofF mix Tryz.func161 ok161 (fun _ _ => Tryz.call161 _ _) rfl ?_) hC0
  obtain ⟨k1, k2, -, -⟩ := hK 0 H n h0
  refine wk3 @c161.eq_1 @k1 @k2 ?_
  refine AGo_cycleD (α := Nat) 8 22 (fun k => [(7, .int .i64 (k : Nat))]) (fun k H' n' => k ≤ N0 ∧ n ≤ n' ∧ J k H' n' ∧ ∀ i, n' ≤ i → H' i = none) (fun k H' n' => J N0 H' n') (fun k => N0 - k) (0) ?_ (by simp only [subs_nil, subs_if, lk_if, lk_nil, dropR_nil, dropR_cons, Nat.reduceLT, List.cons_append, List.nil_append, List.elem_nil, List.elem_cons, Nat.reduceBEq, beq_self_eq_true, Bool.true_or, Bool.false_or, Bool.or_true, Bool.or_false, Bool.false_eq_true, ↓reduceIte, if_true, if_false, Nat.reduceEqDiff, and_self, and_true, true_and, eq_self]) ?_ ?_
  · exact ⟨Nat.zero_le _, by omega, hsJ _ _ _ _ _ h0 (fun _ _ => rfl) (by omega), fun i hi => hC0 i (by omega)⟩
  · rintro k H' n' kk ⟨hk, hnn, hj, hcl⟩ hK1 hS
    obtain ⟨k1, k2, k3, k4⟩ := hK k H' n' hj
    simp only [List.cons_append, List.nil_append, dropR_nil, dropR_cons, Nat.reduceLT, ↓reduceIte]
    by_cases hlt : k < N0
    · obtain ⟨a1, a2⟩ := ha k hlt
      obtain ⟨n1, n2⟩ := hn k hlt
      refine AGo_turn ?_
      refine wl11 rL @hlt @k1 @k2 @k3 @k4 @a1 @a2 @n1 @n2 @agg_vN ?_
      refine AGo_yieldV (fun e H'' n'' => ((e = .returned (.bool true) ∧ J (k + 1) H'' n'') ∨ (e = .returned (.bool false) ∧ ∃ j, JX j H'' n'')) ∧ Ab.Clean H'' n'' ∧ ∀ i, n' + 3 ≤ i → i < n' + 14 → H'' i = none) ?_ ?_ ?_
      · refine AYield.gap (hy k H' _ hlt (hsJ k H' n' H' _ hj (fun _ _ => rfl) (by omega))) (fun i h1 h2 => hcl i (by omega)) ?_
        rintro e H1 H2 n2 (⟨h1, h2⟩ | ⟨h1, j, h2⟩) hne
        · exact .inl ⟨h1, hg _ _ _ _ h2 fun j hj => hne j (by omega)⟩
        · exact .inr ⟨h1, j, hgX _ _ _ _ h2 fun j hj => hne j (by omega)⟩
      · rintro _ v H2 n2 ⟨_, _, h3⟩ hn2
        exact ⟨fun i h1 h2 => (h3 i h1 h2).trans (hcl i (by omega)).symm, fun x hx => by simp at hx⟩
      rintro v H2 n2 ⟨⟨hv, hj2⟩ | ⟨hv, j, hx⟩, hcl2, -⟩ hn2
      · cases hv
        refine wk0 ?_
        refine AGo_le ?_ (hS (k + 1) _ _ ⟨by omega, by omega, hsJ _ _ _ _ _ hj2 (fun _ _ => rfl) (by omega), fun i hi => hcl2 i (by omega)⟩ (by omega))
        · simp only [subs_nil, subs_if, lk_if, lk_nil, dropR_nil, dropR_cons, Nat.reduceLT, List.cons_append, List.nil_append, List.elem_nil, List.elem_cons, Nat.reduceBEq, beq_self_eq_true, Bool.true_or, Bool.false_or, Bool.or_true, Bool.or_false, Bool.false_eq_true, ↓reduceIte, if_true, if_false, Nat.reduceEqDiff, and_self, and_true, true_and, eq_self]
      · cases hv
        refine wk0 ?_
        exact ⟨_, rfl, .inr ⟨j, hsX _ _ _ _ _ hx (fun _ _ => rfl) (by omega)⟩⟩
    · have hkN : k = N0 := by omega
      subst hkN
      refine AGo_turn ?_
      refine wk1 @hlt ?_
      refine AGo_markL ?_ (hK1 k H' _ (hsJ k H' n' H' _ hj (fun _ _ => rfl) ?_))
      · simp only [subs_nil, subs_if, lk_if, lk_nil, dropR_nil, dropR_cons, Nat.reduceLT, List.cons_append, List.nil_append, List.elem_nil, List.elem_cons, Nat.reduceBEq, beq_self_eq_true, Bool.true_or, Bool.false_or, Bool.or_true, Bool.or_false, Bool.false_eq_true, ↓reduceIte, if_true, if_false, Nat.reduceEqDiff, and_self, and_true, true_and, eq_self]
      · omega
  intro k H' n' hj
  refine wk0 ?_
  exact ⟨_, rfl, .inl hj⟩
/-- A product of powers. -/
def prodU (G : Grp) (a nn : Nat → U) : Nat → U
  | 0 => u1
  | k + 1 => (modMul (prodU G a nn k) (grpExp G (a k) (nn k)).1 G.p).1
theorem modExp_ok {G : Grp} {a n : U} (h : mayG G a = true) : (grpExp G a n).2 = 0 := by
  have h' := h
  simp only [mayG, Bool.and_eq_true, decide_eq_true_eq] at h
  have hm : mayM a a G.p = true := by rw [mayM_iff]; omega
  rw [grpExp, if_pos h', modExp, if_pos hm]
theorem prodU_succ (G : Grp) (a nn : Nat → U) (k : Nat) : prodU G a nn (k + 1) = (modMul (prodU G a nn k) (grpExp G (a k) (nn k)).1 G.p).1 := rfl
theorem prodU_zero (G : Grp) (a nn : Nat → U) : (prodU G a nn 0).val = 1 := rfl
/-- A group's cells. -/
def gcells (G : Grp) : List Value := [.int .u64 (w0 G.p.val : Nat), .int .u64 (w1 G.p.val : Nat), .int .u64 (w2 G.p.val : Nat), .int .u64 (w3 G.p.val : Nat), .int .u64 (w0 G.q.val : Nat), .int .u64 (w1 G.q.val : Nat), .int .u64 (w2 G.q.val : Nat), .int .u64 (w3 G.q.val : Nat), .int .u64 (w0 G.g.val : Nat), .int .u64 (w1 G.g.val : Nat), .int .u64 (w2 G.g.val : Nat), .int .u64 (w3 G.g.val : Nat), .int .u64 (w0 G.h.val : Nat), .int .u64 (w1 G.h.val : Nat), .int .u64 (w2 G.h.val : Nat), .int .u64 (w3 G.h.val : Nat)]
attribute [local irreducible] prodU
theorem gr_Product (G : Grp) (a nn : Nat → U) (m ba bn ca cn : Nat) (csa csn : List Value) (e3 e4 : TypeId) (fz f4 : Nat × Nat) (H : Heap) (n : Nat) (hP : 1 < G.p.val) (hmay : ∀ i, i < m → mayG G (a i) = true) (ha : ∀ i, i < m → i * 4 + 4 ≤ csa.length ∧ (csa.drop (i * 4)).take 4 = vcells (N (a i).val)) (hn : ∀ i, i < m → i * 4 + 4 ≤ csn.length ∧ (csn.drop (i * 4)).take 4 = vcells (N (nn i).val)) (hm : m < 2 ^ 60) (hba : ba < n) (hbn : bn < n) (hHa : H ba = some (.cells csa e3 fz)) (hHn : H bn = some (.cells csn e4 f4)) : ACall Tryz.prog 126 [GV G, .slice (some ⟨ba, 0, none⟩) m ca, .slice (some ⟨bn, 0, none⟩) m cn] H n (Ret (.tuple #[N (prodU G a nn m).val, .int .i64 ((0 : Nat) : Int)]) H n) := by
  refine acall_retF mix lw Tryz.func126 ok126 (fun _ _ => Tryz.call126 _ _) rfl ?_
  have bbp := BB_pos
  have ob := one_lt_BB
  have h1B : 1 < B := by rw [B_eq]; decide
  have hp := G.p.isLt
  have hP2 : ¬ G.p.val ≤ 1 := by omega
  refine wk3 @c126.eq_1 rN rG ?_
  refine AGo_askV (limbs_Of 1 h1B _ _) ?_
  refine wk2 rN rG ?_
  refine AGo_askV (limbs_Cmp G.p.val 1 hp ob _ _) ?_
  refine wk4 rN rG @cmp_leq @hP2 ?_
  generalize hG : upd (upd (upd (upd H _ _) _ _) _ _) _ _ = K
  have k0 : K n = some (.cells (gcells G) 26 (0, 0)) := by rw [← hG, upd_ne _ _ (by omega), upd_ne _ _ (by omega), upd_ne _ _ (by omega), upd_same]; rfl
  have k1 : K (n + 1) = some (.cells [.int .u64 ((0 : Nat) : Int), .int .u64 ((0 : Nat) : Int), .int .u64 ((0 : Nat) : Int), .int .u64 ((0 : Nat) : Int)] 24 (0, 0)) := by rw [← hG, upd_ne _ _ (by omega), upd_ne _ _ (by omega), upd_same]
  have k2 : K (n + 2) = some (.cells [.int .i64 ((0 : Nat) : Int)] 45 (0, 0)) := by rw [← hG, upd_ne _ _ (by omega), upd_same]
  have k4 : K (n + 4) = some (.cells (vcells (N (prodU G a nn 0).val)) 24 (0, 0)) := by rw [← hG, upd_same, prodU_zero, vcells_N]
  have kA : Agree n H K := fun i hi => by rw [← hG, upd_ne _ _ (by omega), upd_ne _ _ (by omega), upd_ne _ _ (by omega), upd_ne _ _ (by omega)]
  clear hG
  refine AGo_callP _ (gr_pairs (some ⟨ba, 0, none⟩) (some ⟨bn, 0, none⟩) m m ca cn _ _) (fun hd => by cases hd) ?_
  rintro e H2 n2 ⟨b, c, rfl, hb1, hb2, hc1, hc2, hbc, hHb, hHc, hA2⟩ hn2
  refine ⟨_, rfl, ?_⟩
  replace k0 := (hA2 n (by omega)).trans k0
  replace k1 := (hA2 (n + 1) (by omega)).trans k1
  replace k2 := (hA2 (n + 2) (by omega)).trans k2
  replace k4 := (hA2 (n + 4) (by omega)).trans k4
  replace kA : Agree n H H2 := fun i hi => (hA2 i (by omega)).trans (kA i hi)
  clear hA2
  refine wk0 ?_
  refine AGo_rangeG (fun i => [N (a i).val, N (nn i).val]) m (fun i H' n' => n2 + 1 ≤ n' ∧ Agree n H H' ∧ H' n = some (.cells (gcells G) 26 (0, 0)) ∧ H' (n + 1) = some (.cells [.int .u64 ((0 : Nat) : Int), .int .u64 ((0 : Nat) : Int), .int .u64 ((0 : Nat) : Int), .int .u64 ((0 : Nat) : Int)] 24 (0, 0)) ∧ H' (n + 2) = some (.cells [.int .i64 ((0 : Nat) : Int)] 45 (0, 0)) ∧ H' (n + 4) = some (.cells (vcells (N (prodU G a nn i).val)) 24 (0, 0)) ∧ H' b = some (.cells [.slice (some ⟨ba, 0, none⟩) m ca] 30 (0, 0)) ∧ H' c = some (.cells [.slice (some ⟨bn, 0, none⟩) m cn] 30 (0, 0))) (fun _ _ _ => False)
    (fun _ _ => Tryz.call161 _ _) (fun _ => rfl) ?_ (fun _ _ _ _ _ h => h.elim) ?_ (fun _ _ _ _ h => h.elim) ?_ (fun _ _ _ _ h => h.elim) ?_ ?_ ?_ ?_ (fun _ _ _ h => h.elim)
  · rintro i Ha na Hb nb ⟨g1, g2, g3, g4, g5, g6, g7, g8⟩ ha hn'
    exact ⟨by omega, fun j hj => (ha j (by omega)).trans (g2 j hj), by rw [ha _ (by omega)]; exact g3, by rw [ha _ (by omega)]; exact g4, by rw [ha _ (by omega)]; exact g5, by rw [ha _ (by omega)]; exact g6, by rw [ha _ (by omega)]; exact g7, by rw [ha _ (by omega)]; exact g8⟩
  · rintro i Ha Hb na ⟨g1, g2, g3, g4, g5, g6, g7, g8⟩ ha
    exact ⟨by omega, fun j hj => (ha j (by omega)).trans (g2 j hj), by rw [ha _ (by omega)]; exact g3, by rw [ha _ (by omega)]; exact g4, by rw [ha _ (by omega)]; exact g5, by rw [ha _ (by omega)]; exact g6, by rw [ha _ (by omega)]; exact g7, by rw [ha _ (by omega)]; exact g8⟩
  · rintro i Ha na x ⟨g1, g2, g3, g4, g5, g6, g7, g8⟩
    exact ⟨by omega, fun j hj => (upd_ne _ _ (by omega)).trans (g2 j hj), by rw [upd_ne _ _ (by omega)]; exact g3, by rw [upd_ne _ _ (by omega)]; exact g4, by rw [upd_ne _ _ (by omega)]; exact g5, by rw [upd_ne _ _ (by omega)]; exact g6, by rw [upd_ne _ _ (by omega)]; exact g7, by rw [upd_ne _ _ (by omega)]; exact g8⟩
  · intro r J' JX' hJ' hg hgX
    refine pairs_iter b c ba bn m ca cn (n + 1) csa csn 30 30 e3 e4 fz (0, 0) (0, 0) f4 (fun i => (a i).val) (fun i => (nn i).val) ha hn hm _ J' JX' (fun i H' n' h => ?_) _ _ hg hgX
    obtain ⟨g1, g2, g3, g4, g5, g6, g7, g8⟩ := hJ' i H' n' h
    exact ⟨g7, g8, by rw [g2 _ hba]; exact hHa, by rw [g2 _ hbn]; exact hHn⟩
  · exact ⟨by omega, kA, k0, k1, k2, k4, hHb, hHc⟩
  · rintro i r H' n' hi8 hr hnl hl' ⟨g1, g2, g3, g4, g5, g6, g7, g8⟩
    simp only [gcells, vcells_N] at g3 g6
    have hmi := hmay i hi8
    refine wk3 rN rG @g3 ?_
    refine AGo_begin (r := r) (ts := _) (by simp (disch := omega) only [upd_neq]; exact hl') hr.1 ?_
    refine wk4 rN rG @g3 @g6 ?_
    refine AGo_askV (gr_Exp G (a i) (nn i) _ _) ?_
    simp (disch := first | assumption | omega) only [N_fold, N_zero, N_one, GV_fold, vcells_GV, isTup_GV, RV, modExp_ok hmi, g3, g6, W, sim, ↓reduceIte, Nat.reduceAdd, Nat.reduceSub, Nat.reduceMul, Nat.reduceLT, Nat.reduceLeDiff, Nat.reduceEqDiff, Nat.reduceBEq, Nat.reduceBNe, Nat.reduceMod, Nat.reduceDiv]
    refine AGo_askV (mods_Mul (prodU G a nn i) (grpExp G (a i) (nn i)).1 G.p _ _) ?_
    refine wk4 rN rG @RV.eq_1 @g6 ?_
    refine ⟨.off, rfl, ?_, by omega, by omega, ?_, ?_, ?_, ?_, ?_, ?_, ?_⟩
    · exact up0
    · intro i hi
      simp (disch := first | assumption | omega) only [g2 i hi, upd_same, upd_neq, vcells_N, w_zero]
    · simp (disch := first | assumption | omega) only [g3, upd_same, upd_neq, vcells_N, w_zero]
      rfl
    · exact up1 @g4
    · exact up1 @g5
    · exact up2 @g6 @prodU_succ
    · exact up1 @g7
    · exact up1 @g8
  rintro H' n' ⟨g1, g2, g3, g4, g5, g6, g7, g8⟩
  simp only [vcells_N] at g6
  refine wk4 rN @g4 @g5 @g6 ?_
  exact ⟨rfl, agr⟩
end Go.Proofs.YtcjchcommaahdaaGreat
namespace Go.Proofs.YtcjchcommaahdaaGreat
open Go.Ab
/-- A group, and as what something is proved there. -/
def FV (G : Grp) (t : ByteArray) : Value := .agg #[.int .u64 (w0 G.p.val : Nat), .int .u64 (w1 G.p.val : Nat), .int .u64 (w2 G.p.val : Nat), .int .u64 (w3 G.p.val : Nat), .int .u64 (w0 G.q.val : Nat), .int .u64 (w1 G.q.val : Nat), .int .u64 (w2 G.q.val : Nat), .int .u64 (w3 G.q.val : Nat), .int .u64 (w0 G.g.val : Nat), .int .u64 (w1 G.g.val : Nat), .int .u64 (w2 G.g.val : Nat), .int .u64 (w3 G.g.val : Nat), .int .u64 (w0 G.h.val : Nat), .int .u64 (w1 G.h.val : Nat), .int .u64 (w2 G.h.val : Nat), .int .u64 (w3 G.h.val : Nat), .string t]
theorem FV_fold (G : Grp) (t : ByteArray) : Value.agg #[.int .u64 (w0 G.p.val : Nat), .int .u64 (w1 G.p.val : Nat), .int .u64 (w2 G.p.val : Nat), .int .u64 (w3 G.p.val : Nat), .int .u64 (w0 G.q.val : Nat), .int .u64 (w1 G.q.val : Nat), .int .u64 (w2 G.q.val : Nat), .int .u64 (w3 G.q.val : Nat), .int .u64 (w0 G.g.val : Nat), .int .u64 (w1 G.g.val : Nat), .int .u64 (w2 G.g.val : Nat), .int .u64 (w3 G.g.val : Nat), .int .u64 (w0 G.h.val : Nat), .int .u64 (w1 G.h.val : Nat), .int .u64 (w2 G.h.val : Nat), .int .u64 (w3 G.h.val : Nat), .string t] = FV G t := rfl
theorem vcells_FV (G : Grp) (t : ByteArray) : vcells (FV G t) = [.int .u64 (w0 G.p.val : Nat), .int .u64 (w1 G.p.val : Nat), .int .u64 (w2 G.p.val : Nat), .int .u64 (w3 G.p.val : Nat), .int .u64 (w0 G.q.val : Nat), .int .u64 (w1 G.q.val : Nat), .int .u64 (w2 G.q.val : Nat), .int .u64 (w3 G.q.val : Nat), .int .u64 (w0 G.g.val : Nat), .int .u64 (w1 G.g.val : Nat), .int .u64 (w2 G.g.val : Nat), .int .u64 (w3 G.g.val : Nat), .int .u64 (w0 G.h.val : Nat), .int .u64 (w1 G.h.val : Nat), .int .u64 (w2 G.h.val : Nat), .int .u64 (w3 G.h.val : Nat), .string t] := rfl
theorem isTup_FV (G : Grp) (t : ByteArray) : isTup (FV G t) = false := rfl
theorem rF : type_of% (And.intro @FV_fold (And.intro @vcells_FV @isTup_FV)) := (And.intro @FV_fold (And.intro @vcells_FV @isTup_FV))
def isExp (G : Grp) (a : U) : Bool := decide ((modAdd a a G.q).2 = 0)
theorem pf_exponent (G : Grp) (t : ByteArray) (a : U) (H : Heap) (n : Nat) : ACall Tryz.prog 60 [FV G t, N a.val] H n (Ret (.bool (isExp G a)) H n) := by
  refine acall_retF mix lw Tryz.func60 ok60 (fun _ _ => Tryz.call60 _ _) rfl ?_
  refine wk4 @c60.eq_1 rN rG rF ?_
  refine AGo_askV (sc_Add G a a _ _) ?_
  refine wk3 rN rG @RV.eq_1 ?_
  exact ⟨rfl, agr⟩
theorem r14_exponent (G : Grp) (a : U) (H : Heap) (n : Nat) : ACall Tryz.prog 74 [GV G, N a.val] H n (Ret (.bool (isExp G a)) H n) := by
  refine acall_retF mix lw Tryz.func74 ok74 (fun _ _ => Tryz.call74 _ _) rfl ?_
  refine wk3 @c74.eq_1 rN rG ?_
  refine AGo_askV (r9_Add G a a _ _) ?_
  refine wk3 rN rG @RV.eq_1 ?_
  exact ⟨rfl, agr⟩
theorem r13_exponent_like (G : Grp) (a m : U) (H : Heap) (n : Nat) : ACall Tryz.prog 76 [GV G, N a.val, N m.val] H n (Ret (N (grpExp G a m).1.val) H n) := by
  refine acall_retF mix lw Tryz.func76 ok76 (fun _ _ => Tryz.call76 _ _) rfl ?_
  refine wk3 @c76.eq_1 rN rG ?_
  refine AGo_askV (r8_Exp G a m _ _) ?_
  refine wk3 rN rG @RV.eq_1 ?_
  exact ⟨rfl, agr⟩
theorem pf_power (G : Grp) (t : ByteArray) (a m : U) (H : Heap) (n : Nat) : ACall Tryz.prog 61 [FV G t, N a.val, N m.val] H n (Ret (N (grpExp G a m).1.val) H n) := by
  refine acall_retF mix lw Tryz.func61 ok61 (fun _ _ => Tryz.call61 _ _) rfl ?_
  refine wk4 @c61.eq_1 rN rG rF ?_
  refine AGo_askV (gr_Exp G a m _ _) ?_
  refine wk3 rN rG @RV.eq_1 ?_
  exact ⟨rfl, agr⟩
def two (a b : U) (i : Nat) : U := if i = 0 then a else b
theorem two_cells (a b : U) : ∀ i, i < 2 → i * 4 + 4 ≤ (vcells (N a.val) ++ vcells (N b.val)).length ∧ ((vcells (N a.val) ++ vcells (N b.val)).drop (i * 4)).take 4 = vcells (N (two a b i).val) := by
  intro i hi
  have h : i = 0 ∨ i = 1 := by omega
  rcases h with rfl | rfl <;> exact ⟨Nat.le_of_ble_eq_true rfl, rfl⟩
theorem two_all {P : U → Prop} {a b : U} (ha : P a) (hb : P b) (i : Nat) : P (two a b i) := by
  unfold two; split
  · exact ha
  · exact hb
/-- A power, times another one. -/
def meetU (G : Grp) (a n b m : U) : U := prodU G (two a b) (two n m) 2
theorem pf_meet (G : Grp) (t : ByteArray) (a x b y : U) (H : Heap) (n : Nat) (ha : mayG G a = true) (hb : mayG G b = true) : ACall Tryz.prog 80 [FV G t, N a.val, N x.val, N b.val, N y.val] H n (Ret (N (meetU G a x b y).val) H n) := by
  refine acall_retF mix lw Tryz.func80 ok80 (fun _ _ => Tryz.call80 _ _) rfl ?_
  have hP : 1 < G.p.val := by simp only [mayG, Bool.and_eq_true, decide_eq_true_eq] at ha; exact ha.1
  refine wk4 @c80.eq_1 rN rG rF ?_
  refine AGo_askV (gr_Product G (two a b) (two x y) 2 (n + 10) (n + 13) 2 2 (vcells (N a.val) ++ vcells (N b.val)) (vcells (N x.val) ++ vcells (N y.val)) 24 24 (0, 0) (0, 0) _ _ hP (fun i hi => two_all (P := fun x => mayG G x = true) ha hb i) (two_cells a b) (two_cells x y) (by omega) (by omega) (by omega) (by (simp (disch := omega) only [upd_same, upd_neq]; rfl)) (by (simp (disch := omega) only [upd_same, upd_neq]; rfl))) ?_
  refine wk2 rN rG ?_
  exact ⟨rfl, agr⟩
end Go.Proofs.YtcjchcommaahdaaGreat

/- The document's sum of bytes. Lists that are none yet; what makes lists; bytes of a text. Numbers as bytes: put, Put. No conditions. -/
import Derived.Test.YtcjchcommaahdaaGreatQ12
import Derived.Test.YtcjchcommaahdaaGreatQ24
set_option maxRecDepth 20000
set_option maxHeartbeats 4000000
set_option linter.all false
namespace Go.Proofs.YtcjchcommaahdaaGreat
open Go.Ab
theorem h0_lit : [Value.int .u32 ((1779033703 : Nat) : Int), .int .u32 ((3144134277 : Nat) : Int), .int .u32 ((1013904242 : Nat) : Int), .int .u32 ((2773480762 : Nat) : Int), .int .u32 ((1359893119 : Nat) : Int), .int .u32 ((2600822924 : Nat) : Int), .int .u32 ((528734635 : Nat) : Int), .int .u32 ((1541459225 : Nat) : Int)] = fk .u32 8 h0 := rfl
theorem bs_ne {l : List Nat} (h : l ≠ []) : bs l ≠ [] := by
  intro e; apply h; exact bs_inj e
theorem own_get {l : List Nat} {i : Nat} {rest : List Value} (h : i < l.length) : (bs l ++ rest)[i]? = some (.int .u8 (l.getD i 0 : Nat)) := by
  rw [List.getElem?_append_left (by rw [bs_length]; exact h), bs_get h]
theorem s0_now : s0.now = h0 := rfl
theorem s0_many : s0.many = 0 := rfl
theorem sha_eq (l : List Nat) : sha l = outB (s0.feed (l ++ pad l.length)).now := by
  unfold sha St.out; rw [feed_many, s0_many, Nat.zero_add, feed_append]
attribute [local irreducible] cmpr h0 SM fk bs zc74 s0 kc
theorem r5_Of (l : List Nat) (v : Value) (H : Heap) (n : Nat) (hv : SrcA n H v (bs l) 1) (hne : l ≠ []) (hl : ∀ c, c ∈ l → c < 256) (hm : l.length < 2 ^ 39) : ACall Tryz.prog 71 [v] H n (Ret (.agg ⟨fk .u8 32 (sha l)⟩) H n) := by
  refine acall_retF mix lw Tryz.func71 ok71 (fun _ _ => Tryz.call71 _ _) rfl ?_
  have hv' := hv
  obtain ⟨sa, m, xc, rfl, hlm, -, -⟩ := hv.here
  rw [bs_length, Nat.mul_one] at hlm
  have hz64 : padZ m < 64 := by unfold padZ; omega
  simp (disch := first | assumption | omega) only [c71, ite_lt, ite_le, bin_rem_u64, bin_quo_u64, fl_get, fl_splice, fl_splice_all, fl_length, fl_all, fl_take, cell_wK, ↓z32, W1, sim, ↓reduceIte, Nat.reduceAdd, Nat.reduceSub, Nat.reduceMul, Nat.reduceLT, Nat.reduceLeDiff, Nat.reduceEqDiff, Nat.reduceBEq, Nat.reduceBNe, Nat.reduceMod, Nat.reduceDiv]
  refine AGo_pushNil (nb := n + 2) (l2 := bs l) (hv' _ (agr)) (bs_ne hne) (by omega) (by rw [bs_length]; omega) (by decide) (by omega) ?_
  intro v1 H1 o1 hA1
  refine wl2 rL @splice_one_zero ?_
  refine AGo_push (n1 := n + 4) (nb := n + 2) (l := bs l) (OwnB.upd o1 (by omega) (by omega)) (src_mk (upd_same _ _ _) rfl rfl) (by omega) (by omega) (by rw [bs_length]; simp; omega) (by decide) (by omega) rfl ?_
  intro v2 H2 o2 hA2
  rw [show bs l ++ [Value.int .u8 ((128 : Nat) : Int)] = bs (l ++ 128 :: List.replicate 0 0) by rw [pushB]; rfl] at o2
  have f0 : H2 n = some (.cells (fk .u8 32 fun _ => 0) 64 (0, 0)) := by rw [hA2 _ (by omega), upd_ne _ _ (by omega), hA1 _ (by omega), upd_same]
  have fA : Agree n H H2 := fun i hi => by rw [hA2 _ (by omega), upd_ne _ _ (by omega), hA1 _ (by omega), upd_ne _ _ (by omega)]
  clear hA1 hA2 o1 hv hv'
  refine wl1 rL ?_
  refine AGo_cycleD (α := (Nat × Value)) 4 72 (fun x => [(3, x.2)]) (fun x H' n' => x.1 ≤ padZ m ∧ n + 6 ≤ n' ∧ OwnB (n + 2) n' H' x.2 (bs (l ++ 128 :: List.replicate x.1 0)) 5 1 ∧ H' n = some (.cells (fk .u8 32 fun _ => 0) 64 (0, 0)) ∧ Agree n H H') (fun x H' n' => n + 6 ≤ n' ∧ OwnB (n + 2) n' H' x.2 (bs (l ++ 128 :: List.replicate (padZ m) 0)) 5 1 ∧ H' n = some (.cells (fk .u8 32 fun _ => 0) 64 (0, 0)) ∧ Agree n H H') (fun x => padZ m - x.1) ((0, v2)) ?_ (by simp only [subs_nil, subs_if, lk_if, lk_nil, dropR_nil, dropR_cons, Nat.reduceLT, List.cons_append, List.nil_append, List.elem_nil, List.elem_cons, Nat.reduceBEq, beq_self_eq_true, Bool.true_or, Bool.false_or, Bool.or_true, Bool.or_false, Bool.false_eq_true, ↓reduceIte, if_true, if_false, Nat.reduceEqDiff, and_self, and_true, true_and, eq_self]) ?_ ?_
  · exact ⟨Nat.zero_le _, by omega, o2.keep (fun _ _ _ => rfl) (by omega), f0, fA⟩
  · clear o2 f0 fA
    rintro ⟨j, v⟩ H' n' kk ⟨hj, hn, ho, f0, fA⟩ hK hS
    simp only at hj ho
    simp only [List.cons_append, List.nil_append, dropR_nil, dropR_cons, Nat.reduceLT, ↓reduceIte]
    have ho' := ho
    obtain ⟨⟨b, k, cap, rest, rfl, hb, hB, hk, hr, hkc, hc63⟩, hbn⟩ := ho
    rw [bs_length, List.length_append, List.length_cons, List.length_replicate, Nat.mul_one] at hk
    by_cases hlt : j < padZ m
    · have h56 : ¬ k % 64 = 56 := by unfold padZ at hlt; omega
      refine AGo_turn ?_
      refine wl3 rL @splice_one_zero @h56 ?_
      refine AGo_push (n1 := n' + 1) (nb := n + 2) (l := bs (l ++ 128 :: List.replicate j 0)) (OwnB.upd ho' (by omega) (by omega)) (src_mk (upd_same _ _ _) rfl rfl) (by omega) (by omega) (by rw [bs_length]; simp; omega) (by decide) (by omega) rfl ?_
      intro v2 H2 o2 hA2
      rw [pushB, List.append_assoc, List.cons_append, ← List.replicate_succ'] at o2
      refine wk0 ?_
      refine AGo_le ?_ (hS (j + 1, v2) _ _ ⟨by simp only; omega, by omega, ?_, ?_, ?_⟩ (by simp only; omega))
      · simp only [subs_nil, subs_if, lk_if, lk_nil, dropR_nil, dropR_cons, Nat.reduceLT, List.cons_append, List.nil_append, List.elem_nil, List.elem_cons, Nat.reduceBEq, beq_self_eq_true, Bool.true_or, Bool.false_or, Bool.or_true, Bool.or_false, Bool.false_eq_true, ↓reduceIte, if_true, if_false, Nat.reduceEqDiff, and_self, and_true, true_and, eq_self]
      · exact o2.keep (fun _ _ _ => rfl) (by omega)
      · rw [hA2 _ (by omega), upd_ne _ _ (by omega)]; exact f0
      · intro i hi; rw [hA2 _ (by omega), upd_ne _ _ (by omega)]; exact fA i hi
    · have hjz : j = padZ m := by omega
      have h56 : k % 64 = 56 := by unfold padZ at hjz; omega
      refine AGo_turn ?_
      refine wl2 rL @h56 ?_
      rw [hjz] at ho'
      refine AGo_markL ?_ (hK (j, _) _ _ ⟨by omega, ho'.keep (fun _ _ _ => rfl) (by omega), f0, fA⟩)
      · simp only [subs_nil, subs_if, lk_if, lk_nil, dropR_nil, dropR_cons, Nat.reduceLT, List.cons_append, List.nil_append, List.elem_nil, List.elem_cons, Nat.reduceBEq, beq_self_eq_true, Bool.true_or, Bool.false_or, Bool.or_true, Bool.or_false, Bool.false_eq_true, ↓reduceIte, if_true, if_false, Nat.reduceEqDiff, and_self, and_true, true_and, eq_self]
  clear o2 f0 fA
  rintro ⟨j, v⟩ H1 n1 ⟨hn1, ho, f0, fA⟩
  simp only at ho
  simp only [List.cons_append, List.nil_append, dropR_nil, dropR_cons, Nat.reduceLT, ↓reduceIte]
  have q1 : m % B = m := Nat.mod_eq_of_lt (by rw [B_eq]; omega)
  refine wk2 @u64_wrap @q1 ?_
  refine AGo_cycleD (α := (Nat × Value)) 26 72 (fun x => [(5, .int .i64 (x.1 : Nat)), (3, x.2)]) (fun x H' n' => x.1 ≤ 8 ∧ n + 6 ≤ n' ∧ OwnB (n + 2) n' H' x.2 (bs (l ++ 128 :: (List.replicate (padZ m) 0 ++ (padB m).take x.1))) 5 1 ∧ H' n = some (.cells (fk .u8 32 fun _ => 0) 64 (0, 0)) ∧ Agree n H H') (fun x H' n' => n + 6 ≤ n' ∧ OwnB (n + 2) n' H' x.2 (bs (l ++ pad m)) 5 1 ∧ H' n = some (.cells (fk .u8 32 fun _ => 0) 64 (0, 0)) ∧ Agree n H H') (fun x => 8 - x.1) ((0, v)) ?_ (by simp only [subs_nil, subs_if, lk_if, lk_nil, dropR_nil, dropR_cons, Nat.reduceLT, List.cons_append, List.nil_append, List.elem_nil, List.elem_cons, Nat.reduceBEq, beq_self_eq_true, Bool.true_or, Bool.false_or, Bool.or_true, Bool.or_false, Bool.false_eq_true, ↓reduceIte, if_true, if_false, Nat.reduceEqDiff, and_self, and_true, true_and, eq_self]) ?_ ?_
  · refine ⟨Nat.zero_le _, by omega, ?_, f0, fA⟩
    rw [List.take_zero, List.append_nil]; exact ho.keep (fun _ _ _ => rfl) (by omega)
  · clear ho f0 fA
    rintro ⟨i, v⟩ H' n' kk ⟨hi, hn, ho, f0, fA⟩ hK hS
    simp only at hi ho
    simp only [List.cons_append, List.nil_append, dropR_nil, dropR_cons, Nat.reduceLT, ↓reduceIte]
    by_cases hlt : i < 8
    · have q1 : 8 * i ≤ 56 := by omega
      have q3 : 56 - 8 * i ≤ 64 := by omega
      refine AGo_turn ?_
      simp (disch := first | assumption | omega) only [ite_lt, ite_le, bin_rem_u64, bin_quo_u64, fl_get, fl_splice, fl_splice_all, fl_length, fl_all, fl_take, cell_wK, splice_one_zero, hlt, u8_wrap, q1, Nat.min_eq_left q3, W1, sim, ↓reduceIte, Nat.reduceAdd, Nat.reduceSub, Nat.reduceMul, Nat.reduceLT, Nat.reduceLeDiff, Nat.reduceEqDiff, Nat.reduceBEq, Nat.reduceBNe, Nat.reduceMod, Nat.reduceDiv]
      refine AGo_push (n1 := n' + 10) (nb := n + 2) (l := bs (l ++ 128 :: (List.replicate (padZ m) 0 ++ (padB m).take i))) (OwnB.upd (ho.keep (n' := n' + 7) (fun _ _ _ => rfl) (by omega)) (by omega) (by omega)) (src_mk (upd_same _ _ _) rfl rfl) (by omega) (by omega) (by rw [bs_length]; simp only [List.length_cons, List.length_append, List.length_replicate, List.length_take, List.length_nil]; omega) (by decide) (by omega) rfl ?_
      intro v2 H2 o2 hA2
      rw [pushB, List.append_assoc, List.cons_append, List.append_assoc, ← padB_take _ _ hlt] at o2
      refine wk0 ?_
      refine AGo_le ?_ (hS (i + 1, v2) _ _ ⟨by simp only; omega, by omega, ?_, ?_, ?_⟩ (by simp only; omega))
      · simp only [subs_nil, subs_if, lk_if, lk_nil, dropR_nil, dropR_cons, Nat.reduceLT, List.cons_append, List.nil_append, List.elem_nil, List.elem_cons, Nat.reduceBEq, beq_self_eq_true, Bool.true_or, Bool.false_or, Bool.or_true, Bool.or_false, Bool.false_eq_true, ↓reduceIte, if_true, if_false, Nat.reduceEqDiff, and_self, and_true, true_and, eq_self]
      · exact o2.keep (fun _ _ _ => rfl) (by omega)
      · rw [hA2 _ (by omega), upd_ne _ _ (by omega)]; exact f0
      · intro i hi; rw [hA2 _ (by omega), upd_ne _ _ (by omega)]; exact fA i hi
    · have hi8 : i = 8 := by omega
      subst hi8
      refine AGo_turn ?_
      refine wk1 @hlt ?_
      rw [List.take_of_length_le (by simp [padB])] at ho
      refine AGo_markL ?_ (hK (8, v) _ _ ⟨by omega, ho.keep (fun _ _ _ => rfl) (by omega), f0, fA⟩)
      · simp only [subs_nil, subs_if, lk_if, lk_nil, dropR_nil, dropR_cons, Nat.reduceLT, List.cons_append, List.nil_append, List.elem_nil, List.elem_cons, Nat.reduceBEq, beq_self_eq_true, Bool.true_or, Bool.false_or, Bool.or_true, Bool.or_false, Bool.false_eq_true, ↓reduceIte, if_true, if_false, Nat.reduceEqDiff, and_self, and_true, true_and, eq_self]
  clear ho f0 fA hn1
  rintro ⟨j, v⟩ H1 n1 ⟨hn1, ho, f0, fA⟩
  simp only at ho
  obtain ⟨⟨b, k, cap, rest, rfl, hb, hB, hk, hr, hkc, hc63⟩, hbn⟩ := ho
  replace hbn := hbn _ _ _ rfl
  have hal : (l ++ pad m).length = k := by rw [bs_length, Nat.mul_one] at hk; exact hk
  have hall : ∀ x, x ∈ l ++ pad m → x < 256 := fun x hx => (List.mem_append.1 hx).elim (hl x) (pad_lt m x)
  have hal64 : k % 64 = 0 := by rw [← hal, List.length_append, ← hlm]; exact pad_whole _
  have hkB : k < 2 ^ 40 := by rw [← hal, List.length_append, pad_length]; unfold padZ; omega
  generalize hALL : l ++ pad m = A at *
  simp only [List.cons_append, List.nil_append, dropR_nil, dropR_cons, Nat.reduceLT, ↓reduceIte]
  refine wk0 ?_
  rw [h0_lit]
  refine AGo_callQV (fun v' H' n' => ∃ q, v' = .slice (some ⟨q, 0, none⟩) 64 64 ∧ H' q = some (.cells (fk .u32 64 kc) 122 (0, 0)) ∧ n1 + 4 ≤ q ∧ q < n' ∧ Agree (n1 + 4) (upd H1 (n1 + 1) (.cells (fk .u32 8 h0) 123 (0, 0))) H') ((r5_table _ _).mono ?_) (fun h => by cases h) ?_
  · rintro e H' n' ⟨q, h1, h2, h3, h4, h5⟩ _ _
    exact ⟨_, h1, q, rfl, h2, by omega, h4, fun i hi => h5 i (by omega)⟩
  rintro v2 H2 n2 ⟨q, rfl, f3, hq, hqn, hA2⟩ hn2
  have f2 : H2 (n1 + 1) = some (.cells (fk .u32 8 (s0.feed (A.take (64 * 0))).now) 123 (0, 0)) := by rw [hA2 _ (by omega), upd_same, Nat.mul_zero, List.take_zero, feed_nil, s0_now]
  replace f0 : H2 n = some (.cells (fk .u8 32 fun _ => 0) 64 (0, 0)) := by rw [hA2 _ (by omega), upd_ne _ _ (by omega)]; exact f0
  replace fA : Agree n H H2 := fun i hi => by rw [hA2 _ (by omega), upd_ne _ _ (by omega)]; exact fA i hi
  replace hB : H2 b = some (.cells (bs A ++ rest) 5 (0, 0)) := by rw [hA2 _ (by omega), upd_ne _ _ (by omega)]; exact hB
  clear hA2
  refine wk0 ?_
  refine AGo_cycleD (α := Nat) 41 72 (fun j => [(8, .int .i64 (64 * j : Nat))]) (fun j H' n' => 64 * j ≤ k ∧ n2 ≤ n' ∧ H' (n1 + 1) = some (.cells (fk .u32 8 (s0.feed (A.take (64 * j))).now) 123 (0, 0)) ∧ H' q = some (.cells (fk .u32 64 kc) 122 (0, 0)) ∧ H' b = some (.cells (bs A ++ rest) 5 (0, 0)) ∧ H' n = some (.cells (fk .u8 32 fun _ => 0) 64 (0, 0)) ∧ Agree n H H') (fun j H' n' => n2 ≤ n' ∧ H' (n1 + 1) = some (.cells (fk .u32 8 (s0.feed A).now) 123 (0, 0)) ∧ H' n = some (.cells (fk .u8 32 fun _ => 0) 64 (0, 0)) ∧ Agree n H H') (fun j => k - 64 * j) (0) ?_ (by simp only [Nat.mul_zero, subs_nil, subs_if, lk_if, lk_nil, dropR_nil, dropR_cons, Nat.reduceLT, List.cons_append, List.nil_append, List.elem_nil, List.elem_cons, Nat.reduceBEq, beq_self_eq_true, Bool.true_or, Bool.false_or, Bool.or_true, Bool.or_false, Bool.false_eq_true, ↓reduceIte, if_true, if_false, Nat.reduceEqDiff, and_self, and_true, true_and, eq_self]) ?_ ?_
  · exact ⟨Nat.zero_le _, by omega, f2, f3, hB, f0, fA⟩
  · clear f0 f2 f3 hB fA
    rintro j H' n' kk ⟨hj, hn, f2, f3, hB, f0, fA⟩ hK hS
    simp only [List.cons_append, List.nil_append, dropR_nil, dropR_cons, Nat.reduceLT, ↓reduceIte]
    by_cases hlt : 64 * j < k
    · have hle : 64 * j + 64 ≤ k := by omega
      have hcap : 64 * j + 64 ≤ cap := by omega
      have hmany : (s0.feed (A.take (64 * j))).many % 64 = 0 := by rw [feed_many, List.length_take, Nat.min_eq_left (by omega)]; rw [s0_many]; omega
      have hcl : ((A.drop (64 * j)).take 64).length = 64 := by rw [List.length_take, List.length_drop]; omega
      have hfb := feed_block (s := s0.feed (A.take (64 * j))) (c := (A.drop (64 * j)).take 64) (g := fun i => A.getD (64 * j + i) 0) hmany hcl (by intro i hi; simp [List.getD_eq_getElem?_getD, List.getElem?_take, hi, List.getElem?_drop])
      rw [take_add_feed, show 64 * j + 64 = 64 * (j + 1) by omega] at hfb
      have hg : ∀ i, A.getD (64 * j + i) 0 < 256 := by
        intro i
        rw [List.getD_eq_getElem?_getD]
        cases h : A[64 * j + i]? with
        | none => simp
        | some v => exact hall _ (List.mem_of_getElem? h)
      have hge : ∀ i, i < 64 → (bs A ++ rest)[64 * j + i]? = some (.int .u8 (A.getD (64 * j + i) 0 : Nat)) := fun i hi => own_get (by omega)
      have e1 : 64 * j + 64 - 64 * j = 64 := by omega
      have hcne : ¬ cap = 64 * j := by omega
      refine AGo_turn ?_
      refine wl11 rL @hlt @hle @hcap @fk_all @fk_length @fk_take @f2 @e1 @ite_addr @hcne ?_
      refine AGo_askV (r5_block (s0.feed (A.take (64 * j))).now (fun i => A.getD (64 * j + i) 0) (bs A ++ rest) b (64 * j) q _ _ _ _ _ _ _ _ hg hge (by omega) (by omega) hB f3) ?_
      refine wl5 rL @fk_all @fk_length @f2 @fk_splice_all ?_
      refine AGo_le ?_ (hS (j + 1) _ _ ⟨by omega, by omega, ?_, ?_, ?_, ?_, ?_⟩ (by omega))
      · simp only [Nat.mul_add, Nat.mul_one, subs_nil, subs_if, lk_if, lk_nil, dropR_nil, dropR_cons, Nat.reduceLT, List.cons_append, List.nil_append, List.elem_nil, List.elem_cons, Nat.reduceBEq, beq_self_eq_true, Bool.true_or, Bool.false_or, Bool.or_true, Bool.or_false, Bool.false_eq_true, ↓reduceIte, if_true, if_false, Nat.reduceEqDiff, and_self, and_true, true_and, eq_self]
      · rw [upd_same, hfb]
      · rw [upd_ne _ _ (by omega)]; exact f3
      · rw [upd_ne _ _ (by omega)]; exact hB
      · rw [upd_ne _ _ (by omega)]; exact f0
      · intro i hi; rw [upd_ne _ _ (by omega)]; exact fA i hi
    · have hjk : 64 * j = k := by omega
      rw [hjk, ← hal, List.take_of_length_le (Nat.le_refl _)] at f2
      refine AGo_turn ?_
      refine wl2 rL @hlt ?_
      refine AGo_markL ?_ (hK j _ _ ⟨by omega, f2, f0, fA⟩)
      · simp only [subs_nil, subs_if, lk_if, lk_nil, dropR_nil, dropR_cons, Nat.reduceLT, List.cons_append, List.nil_append, List.elem_nil, List.elem_cons, Nat.reduceBEq, beq_self_eq_true, Bool.true_or, Bool.false_or, Bool.or_true, Bool.or_false, Bool.false_eq_true, ↓reduceIte, if_true, if_false, Nat.reduceEqDiff, and_self, and_true, true_and, eq_self]
  clear f0 f2 f3 hB fA
  rintro j H3 n3 ⟨hn3, f1, f0, fA⟩
  have hsha : (s0.feed A).now = (s0.feed (l ++ pad m)).now := by rw [hALL]
  generalize hfin : (s0.feed A).now = fin at f1
  simp only [List.cons_append, List.nil_append, dropR_nil, dropR_cons, Nat.reduceLT, ↓reduceIte]
  simp (disch := first | assumption | omega) only [↓z32, W, sim, ↓reduceIte, Nat.reduceAdd, Nat.reduceSub, Nat.reduceMul, Nat.reduceLT, Nat.reduceLeDiff, Nat.reduceEqDiff, Nat.reduceBEq, Nat.reduceBNe, Nat.reduceMod, Nat.reduceDiv]
  refine AGo_cycleD (α := Nat) 55 72 (fun i => [(10, .int .i64 (i : Nat))]) (fun i H' n' => i ≤ 32 ∧ n3 + 1 ≤ n' ∧ H' n3 = some (.cells (fk .u8 32 fun j => if j < i then outB fin j else 0) 64 (0, 0)) ∧ H' (n1 + 1) = some (.cells (fk .u32 8 fin) 123 (0, 0)) ∧ H' n = some (.cells (fk .u8 32 fun _ => 0) 64 (0, 0)) ∧ Agree n H H') (fun i H' n' => n3 ≤ n' ∧ H' n3 = some (.cells (fk .u8 32 (outB fin)) 64 (0, 0)) ∧ H' n = some (.cells (fk .u8 32 fun _ => 0) 64 (0, 0)) ∧ Agree n H H') (fun i => 32 - i) (0) ?_ (by simp only [subs_nil, subs_if, lk_if, lk_nil, dropR_nil, dropR_cons, Nat.reduceLT, List.cons_append, List.nil_append, List.elem_nil, List.elem_cons, Nat.reduceBEq, beq_self_eq_true, Bool.true_or, Bool.false_or, Bool.or_true, Bool.or_false, Bool.false_eq_true, ↓reduceIte, if_true, if_false, Nat.reduceEqDiff, and_self, and_true, true_and, eq_self]) ?_ ?_
  · refine ⟨Nat.zero_le _, by omega, ?_, ?_, ?_, agr⟩
    · rw [upd_same, fk_upto0]
    · rw [upd_ne _ _ (by omega)]; exact f1
    · rw [upd_ne _ _ (by omega)]; exact f0
  · clear f0 f1 fA
    rintro i H' n' kk ⟨hi, hn, f9, f1, f0, fA⟩ hK hS
    simp only [List.cons_append, List.nil_append, dropR_nil, dropR_cons, Nat.reduceLT, ↓reduceIte]
    by_cases hlt : i < 32
    · have q1 : i % 4 * 8 ≤ 24 := by omega
      have q2 : i / 4 < 8 := by omega
      have q3 : 24 - i % 4 * 8 ≤ 32 := by omega
      refine AGo_turn ?_
      simp (disch := first | assumption | omega) only [ite_lt, ite_le, bin_rem_u64, bin_quo_u64, fl_get, fl_splice, fl_splice_all, fl_length, fl_all, fl_take, cell_wK, hlt, f9, f1, fk_get, fk_all, fk_length, fk_splice, u8_wrap, q1, Nat.min_eq_left q3, Nat.mul_comm 8 (i % 4), W1, sim, ↓reduceIte, Nat.reduceAdd, Nat.reduceSub, Nat.reduceMul, Nat.reduceLT, Nat.reduceLeDiff, Nat.reduceEqDiff, Nat.reduceBEq, Nat.reduceBNe, Nat.reduceMod, Nat.reduceDiv]
      refine AGo_le ?_ (hS (i + 1) _ _ ⟨by omega, by omega, ?_, ?_, ?_, ?_⟩ (by omega))
      · simp only [subs_nil, subs_if, lk_if, lk_nil, dropR_nil, dropR_cons, Nat.reduceLT, List.cons_append, List.nil_append, List.elem_nil, List.elem_cons, Nat.reduceBEq, beq_self_eq_true, Bool.true_or, Bool.false_or, Bool.or_true, Bool.or_false, Bool.false_eq_true, ↓reduceIte, if_true, if_false, Nat.reduceEqDiff, and_self, and_true, true_and, eq_self]
      · simp (disch := first | assumption | omega) only [upd_same, upd_neq, vcells_N, w_zero]
        exact congrArg (fun l => some (AObj.cells l _ _)) (fk_upto (k := .u8) (n := 32) (f := outB fin) (g := fun _ => 0) rfl)
      · rw [upd_ne _ _ (by omega)]; exact f1
      · rw [upd_ne _ _ (by omega)]; exact f0
      · intro i hi; rw [upd_ne _ _ (by omega)]; exact fA i hi
    · have hi2 : i = 32 := by omega
      subst hi2
      refine AGo_turn ?_
      refine wk1 @hlt ?_
      refine AGo_markL ?_ (hK 32 _ _ ⟨by omega, ?_, f0, fA⟩)
      · simp only [subs_nil, subs_if, lk_if, lk_nil, dropR_nil, dropR_cons, Nat.reduceLT, List.cons_append, List.nil_append, List.elem_nil, List.elem_cons, Nat.reduceBEq, beq_self_eq_true, Bool.true_or, Bool.false_or, Bool.or_true, Bool.or_false, Bool.false_eq_true, ↓reduceIte, if_true, if_false, Nat.reduceEqDiff, and_self, and_true, true_and, eq_self]
      rw [f9, fk_upto_all]
  clear f0 f1 fA
  rintro i H4 n4 ⟨hn4, f9, f0, fA⟩
  simp only [List.cons_append, List.nil_append, dropR_nil, dropR_cons, Nat.reduceLT, ↓reduceIte]
  refine wl7 rL @f9 @f0 @fk_length @fk_all @fk_take @fk_splice_all ?_
  rw [sha_eq, hlm, ← hsha, hfin]
  exact ⟨rfl, agr⟩
end Go.Proofs.YtcjchcommaahdaaGreat
namespace Go.Ab
section app
variable {P : Program} {res : ALeave} {kk : List AItem} {tm : List Value} {H : Heap} {n n0 : Nat} {d : Bool} {R : Post} {dst : Option Nat} {ap : List Opd} {ops : List AOper}
/-- None yet, or a list of the function's own. -/
def Lst (nb n : Nat) (H : Heap) (v : Value) (l : List Value) (e : TypeId) (esz : Nat) : Prop := (v = .slice none 0 0 ∧ l = []) ∨ OwnB nb n H v l e esz
theorem Lst.upd {nb n n' q : Nat} {H : Heap} {v : Value} {l : List Value} {e : TypeId} {esz : Nat} {o : AObj} (h : Lst nb n H v l e esz) (hq : n ≤ q) (hn : n ≤ n') : Lst nb n' (Ab.upd H q o) v l e esz :=
  h.elim .inl fun h => .inr (h.upd hq hn)
theorem Lst.keep {nb n n' : Nat} {H H' : Heap} {v : Value} {l : List Value} {e : TypeId} {esz : Nat} (h : Lst nb n H v l e esz) (hA : ∀ j, nb ≤ j → j < n → H' j = H j) (hn : n ≤ n') : Lst nb n' H' v l e esz :=
  h.elim .inl fun h => .inr (h.keep hA hn)
theorem AGo_pushL {i : Nat} {e : TypeId} {z : List Value} {bytes : Nat} {s x : Opd} {nb n1 : Nat} {v w : Value} {l l2 : List Value} (hv : Lst nb n1 H v l e z.length) (hw : Src H w l2 z.length) (h0 : l2 ≠ [])
    (hn1 : n1 ≤ n0 + i + 1) (hnb : nb ≤ n0 + i) (hlen : l.length + l2.length ≤ 2 ^ 40) (hz : 0 < z.length) (hby : bytes ≤ 64) (hap : ap = [])
    (h : ∀ v' H', OwnB nb (n0 + i + 1) H' v' (l ++ l2) e z.length → (∀ j, j < nb → H' j = H j) → AGo P res (.inReg n0 d ops :: kk) (put tm dst v') H' n R) :
    AppV P res n0 d dst i e z bytes s x ap ops kk tm H n R v w := by
  rcases hv with ⟨rfl, rfl⟩ | hv
  · exact AGo_pushNil hw h0 hnb (by omega) hz hby h
  · exact AGo_push hv hw hn1 hnb hlen hz hby hap h
theorem AGo_pushLS {i : Nat} {e : TypeId} {z : List Value} {bytes : Nat} {s x : Opd} {nb n1 : Nat} {v w : Value} {l l2 : List Value} (hv : Lst nb n1 H v l e z.length) (hw : Src H w l2 z.length) (h0 : l2 ≠ [])
    (hn1 : n1 ≤ n0 + i + 1) (hnb : nb ≤ n0 + i) (hlen : l.length + l2.length ≤ 2 ^ 40) (hz : 0 < z.length) (hby : bytes ≤ 64) (hap : ap = [])
    (h : ∀ v' H', OwnB nb (n0 + i + 1) H' v' (l ++ l2) e z.length → (∀ j, (∀ k c, v ≠ .slice (some ⟨j, 0, none⟩) k c) → j ≠ n0 + i → H' j = H j) →
      (∀ b k c, v' = .slice (some ⟨b, 0, none⟩) k c → (∃ k c, v = .slice (some ⟨b, 0, none⟩) k c) ∨ b = n0 + i) → AGo P res (.inReg n0 d ops :: kk) (put tm dst v') H' n R) :
    AppV P res n0 d dst i e z bytes s x ap ops kk tm H n R v w := by
  rcases hv with ⟨rfl, rfl⟩ | hv
  · exact AGo_appNilS hw h0 hnb (by omega) hz hby fun v' H' h1 h2 h3 => h v' H' ⟨h1, fun b k c hb => by have := h3 b k c hb; omega⟩ (fun j _ hj => h2 j hj) fun b k c hb => .inr (h3 b k c hb)
  · exact AGo_pushS hv hw hn1 hnb hlen hz hby hap h
theorem AGo_appNone {i : Nat} {e : TypeId} {z : List Value} {bytes : Nat} {s x : Opd} {w : Value} (hw : Src H w [] z.length) (hz : 0 < z.length)
    (h : AGo P res (.inReg n0 d ops :: kk) (put tm dst (.slice none 0 0)) H n R) : AppV P res n0 d dst i e z bytes s x ap ops kk tm H n R (.slice none 0 0) w := by
  intro hs hx
  obtain ⟨sa, m, xc, rfl, hl, hsrc, -⟩ := hw
  have hm : m = 0 := by
    rcases Nat.eq_zero_or_pos m with h | h
    · exact h
    · have := Nat.mul_pos h hz; simp at hl; omega
  subst hm
  refine .appIn (v := .slice none 0 0) (eff := none) rfl rfl ?_ (fun _ => rfl) h
  rw [hs, hx]
  simp only [appIn]
  rw [if_pos (by omega), hsrc]
/-- A list, copied into one of the function's own. -/
theorem AGo_copyL {i : Nat} {e : TypeId} {z : List Value} {bytes : Nat} {s x : Opd} {nb : Nat} {w : Value} {l2 : List Value} (hw : Src H w l2 z.length)
    (hnb : nb ≤ n0 + i) (hlen : l2.length ≤ 2 ^ 40) (hz : 0 < z.length) (hby : bytes ≤ 64)
    (h : ∀ v' H', Lst nb (n0 + i + 1) H' v' l2 e z.length → (∀ j, j < nb → H' j = H j) → AGo P res (.inReg n0 d ops :: kk) (put tm dst v') H' n R) :
    AppV P res n0 d dst i e z bytes s x ap ops kk tm H n R (.slice none 0 0) w := by
  by_cases h0 : l2 = []
  · subst h0; exact AGo_appNone hw hz (h _ _ (.inl ⟨rfl, rfl⟩) fun _ _ => rfl)
  · exact AGo_pushNil hw h0 hnb hlen hz hby fun v' H' h1 h2 => h v' H' (.inr h1) h2
theorem op_strBytes (i : Nat) (e : TypeId) (t : ByteArray) (ht : t.size < 2 ^ 62) {R : Post}
    (h : ∀ cap, t.size ≤ cap → cap < 2 ^ 63 → AGo P res (.inReg n0 d ops :: kk) (put tm dst (.slice (some ⟨n0 + i, 0, none⟩) t.size cap))
        (upd H (n0 + i) (.cells (t.data.toList.map (fun b : UInt8 => Value.int .u8 b.toNat) ++ List.replicate (cap - t.size) (Value.int .u8 0)) e (cap, cap + 1))) n R) (x : Opd) (hx : x.ev tm = .string t) :
    AGo P res (.inReg n0 d (⟨dst, .strBytes i e x, none, ap⟩ :: ops) :: kk) tm H n R := .strBytes rfl rfl hx ht h
end app
/-- What is made, where it is, and that nothing that was there is changed. -/
def MakesB (n : Nat) (H : Heap) (l : List Value) (e : TypeId) (esz : Nat) : Post := fun r H' n' => ∃ v, r = .returned v ∧ OwnB n n' H' v l e esz ∧ Agree n H H'
theorem ACall.makesB {P : Program} {f : FuncId} {args : List Value} {H : Heap} {n : Nat} {l : List Value} {e : TypeId} {esz : Nat} (h : ACall P f args H n (Makes n H l e esz)) : ACall P f args H n (MakesB n H l e esz) := by
  refine h.mono ?_
  rintro r H' n' ⟨v, rfl, h1, h2⟩ hC _
  refine ⟨v, rfl, ⟨h1, ?_⟩, h2⟩
  intro b k c hv
  obtain ⟨b', k', cap, rest, e', hb, hB, _⟩ := h1
  rw [e'] at hv; cases hv
  rcases Nat.lt_or_ge b n' with h | h
  · exact h
  · rw [hC b h] at hB; cases hB
theorem AGo_makeB {P : Program} {res : ALeave} {k : List AItem} {tm : List Value} {H : Heap} {n n0 : Nat} {d : Bool} {R : Post} {dst : Option Nat} {f : Opd} {args ap : List Opd} {ops : List AOper} {xs : List Value} {g : FuncId} {first cap : Array Value}
    {l : List Value} {e : TypeId} {esz : Nat} (hc : ACall P g (first.toList ++ xs ++ cap.toList) H n (Makes n H l e esz))
    (h : ∀ v H' n', OwnB n n' H' v l e esz → Agree n H H' → n ≤ n' → AGo P res (.inReg n0 d ops :: k) (put tm dst v) H' n' R) : CallV P res n0 d dst f args ap ops k tm H n R (.func (.func g) first cap) xs :=
  AGo_callQV (fun v H' n' => OwnB n n' H' v l e esz ∧ Agree n H H') hc.makesB (fun _ v H' _ hq i hi => hq.2 i hi) (fun v H' n' hq hn => h v H' n' hq.1 hq.2 hn)
theorem OwnB.srcA {nb n : Nat} {H : Heap} {v : Value} {l : List Value} {e : TypeId} {esz : Nat} (h : OwnB nb n H v l e esz) (ho : l.all Value.oneCell' = true) : SrcA n H v l esz := by
  have hs := h.1.src ho
  obtain ⟨⟨b, k, cap, rest, rfl, hb, hH, hl, hr, hk, _⟩, hbn⟩ := h
  exact SrcA.of_block (c := l ++ rest) (hbn _ _ _ rfl) hH (by rw [List.length_append]; omega) (by rw [List.drop_zero, ← hl, List.take_left]) ho
theorem OwnB.weaken {nb nb' n : Nat} {H : Heap} {v : Value} {l : List Value} {e : TypeId} {esz : Nat} (h : OwnB nb n H v l e esz) (hn : nb' ≤ nb) : OwnB nb' n H v l e esz := ⟨h.1.weaken hn, h.2⟩
end Go.Ab
namespace Go.Proofs.YtcjchcommaahdaaGreat
open Go.Ab
/-- A number's lowest bytes, the highest first. -/
def bel (k x : Nat) : List Nat := (List.range k).map fun j => x / 2 ^ (8 * (k - 1 - j)) % 256
theorem bel_length (k x : Nat) : (bel k x).length = k := by simp [bel]
theorem bel_lt (k x : Nat) : ∀ c, c ∈ bel k x → c < 256 := by
  intro c hc
  simp only [bel, List.mem_map] at hc
  obtain ⟨_, _, rfl⟩ := hc
  exact Nat.mod_lt _ (by decide)
theorem bel_take (k x j : Nat) (h : j < k) : (bel k x).take (j + 1) = (bel k x).take j ++ [x / 2 ^ (8 * (k - 1 - j)) % 256] := by
  rw [List.take_add_one, List.getElem?_eq_getElem (by rw [bel_length]; exact h)]; simp [bel]
def us (l : List Nat) : List Value := l.map fun b => .int .u64 (b : Nat)
theorem us_get {l : List Nat} {i : Nat} (h : i < l.length) : (us l)[i]? = some (.int .u64 (l.getD i 0 : Nat)) := by
  simp [us, List.getElem?_eq_getElem h, List.getD_eq_getElem?_getD]
theorem words_take (ws : List Nat) (k i : Nat) (h : i < ws.length) : ((ws.take (i + 1)).map (bel k)).flatten = ((ws.take i).map (bel k)).flatten ++ bel k (ws.getD i 0) := by
  rw [List.take_add_one, List.getElem?_eq_getElem h, List.map_append, List.flatten_append]; simp [List.getD_eq_getElem?_getD, List.getElem?_eq_getElem h]
theorem words_length (ws : List Nat) (k : Nat) : (ws.map (bel k)).flatten.length = k * ws.length := by
  induction ws with
  | nil => simp
  | cons w ws ih => rw [List.map_cons, List.flatten_cons, List.length_append, ih, bel_length, List.length_cons, Nat.mul_add]; omega
theorem zer_length (c : Nat) : (List.replicate c [Value.int .u8 ((0 : Nat) : Int)]).flatten.length = c := by simp
theorem own_made (nb n b : Nat) (H : Heap) (l : List Nat) (c : Nat) (hb : nb ≤ b) (hn : b < n) (hl : l.length ≤ c) (hc : c < 2 ^ 63) : OwnB nb n (upd H b (.cells (splice (List.replicate c [Value.int .u8 ((0 : Nat) : Int)]).flatten 0 (bs l)) 5 (0, 0))) (.slice (some ⟨b, 0, none⟩) l.length c) (bs l) 5 1 := by
  refine ⟨⟨b, l.length, c, (List.replicate c [Value.int .u8 ((0 : Nat) : Int)]).flatten.drop l.length, rfl, hb, ?_, by rw [bs_length, Nat.mul_one], ?_, hl, hc⟩, fun b' k c e => by cases e; exact hn⟩
  · rw [upd_same]; unfold splice; rw [List.take_zero, List.nil_append, bs_length, Nat.zero_add]
  · rw [List.length_drop, zer_length, Nat.mul_one]
attribute [local irreducible] bs us bel
theorem nums_put (l ws : List Nat) (k : Nat) (v : Value) (bw cw : Nat) (e : TypeId) (fz : Nat × Nat) (H : Heap) (n : Nat) (hv : SrcA n H v (bs l) 1) (hbw : bw < n) (hH : H bw = some (.cells (us ws) e fz)) (hk : k ≤ 8) (hl : l.length < 2 ^ 38) (hws : ws.length < 2 ^ 30) (hw : ∀ w, w ∈ ws → w < B) : ACall Tryz.prog 57 [v, .int .i64 (k : Nat), .slice (some ⟨bw, 0, none⟩) ws.length cw] H n (Makes n H (bs (l ++ (ws.map (bel k)).flatten)) 5 1) := by
  refine acall_ofF mix Tryz.func57 ok57 (fun _ _ => Tryz.call57 _ _) rfl ?_
  have hv' := hv
  obtain ⟨sa, m, xc, rfl, hlm, hsrc, -⟩ := hv.here
  rw [bs_length, Nat.mul_one] at hlm
  have hkw : k * ws.length < 2 ^ 33 := Nat.lt_of_le_of_lt (Nat.mul_le_mul_right _ hk) (by omega)
  have q1 : m + k * ws.length < 9223372036854775808 := by omega
  have q2 : (((m + k * ws.length : Nat) : Int) < 2 ^ 62 ∧ ((1 : Nat) : Int) * ((m + k * ws.length : Nat) : Int) ≤ 2 ^ 48) = True := by
    apply propext; refine ⟨fun _ => trivial, fun _ => ⟨by omega, by omega⟩⟩
  have hsrc2 : ∀ H', Agree n H H' → srcCells H' m (.slice sa m xc) = some (bs l) := by
    intro H' hA
    obtain ⟨_, _, _, he, _, h2, _⟩ := hv' H' hA
    cases he; rw [Nat.mul_one] at h2; exact h2
  have hs3 := hsrc2 (upd H (n + 10) (.cells (List.replicate (m + k * ws.length) [Value.int .u8 ((0 : Nat) : Int)]).flatten 5 (0, 0))) agr
  have hml : l.length ≤ m + k * ws.length := by omega
  refine wl10 @c57.eq_1 rL @q1 @q2 @Nat.le_add_right @hs3 @zer_length @bs_length @bs_all @hml ?_
  have o0 := own_made n (n + 15) (n + 10) H l (m + k * ws.length) (by omega) (by omega) hml (by omega)
  rw [hlm] at o0
  generalize hG : upd H (n + 10) (.cells (splice (List.replicate (m + k * ws.length) [Value.int .u8 ((0 : Nat) : Int)]).flatten 0 (bs l)) 5 (0, 0)) = G at o0
  have hA0 : Agree n H G := by rw [← hG]; exact agr
  clear hs3 hsrc2 q2 hG hv hv' hsrc
  refine AGo_cycleD (α := (Nat × Value)) 27 48 (fun x => [(26, .int .i64 (x.1 : Nat)), (7, x.2)]) (fun x H' n' => x.1 ≤ ws.length ∧ n ≤ n' ∧ OwnB n n' H' x.2 (bs (l ++ ((ws.take x.1).map (bel k)).flatten)) 5 1 ∧ Agree n H H') (fun x H' n' => OwnB n n' H' x.2 (bs (l ++ (ws.map (bel k)).flatten)) 5 1 ∧ Agree n H H') (fun x => ws.length - x.1) ((0, .slice (some ⟨n + 10, 0, none⟩) m (m + k * ws.length))) ?_ (by simp only [subs_nil, subs_if, lk_if, lk_nil, dropR_nil, dropR_cons, Nat.reduceLT, List.cons_append, List.nil_append, List.elem_nil, List.elem_cons, Nat.reduceBEq, beq_self_eq_true, Bool.true_or, Bool.false_or, Bool.or_true, Bool.or_false, Bool.false_eq_true, ↓reduceIte, if_true, if_false, Nat.reduceEqDiff, and_self, and_true, true_and, eq_self]) ?_ ?_
  · refine ⟨Nat.zero_le _, by omega, ?_, hA0⟩
    rw [List.take_zero, List.map_nil, List.flatten_nil, List.append_nil]; exact o0.keep (fun _ _ _ => rfl) (by omega)
  · clear o0 hA0
    rintro ⟨i, v⟩ H' n' kk ⟨hi, hn, ho, fA⟩ hK hS
    simp only at hi ho
    simp only [List.cons_append, List.nil_append, dropR_nil, dropR_cons, Nat.reduceLT, ↓reduceIte]
    by_cases hlt : i < ws.length
    · have hH' : H' bw = some (.cells (us ws) e fz) := by rw [fA bw hbw]; exact hH
      have hwi : ws.getD i 0 < B := by
        rw [List.getD_eq_getElem?_getD, List.getElem?_eq_getElem hlt]; exact hw _ (List.getElem_mem hlt)
      have hwt := words_take ws k i hlt
      have hlen1 : (((ws.take i).map (bel k)).flatten).length ≤ k * ws.length := by rw [words_length, List.length_take]; exact Nat.mul_le_mul_left _ (Nat.min_le_right _ _)
      refine AGo_turn ?_
      refine wl4 rL @hlt @hH' @us_get ?_
      generalize ws.getD i 0 = w at hwi hwt
      generalize ((ws.take i).map (bel k)).flatten = pre at ho hwt hlen1
      refine AGo_cycleD (α := (Nat × Value)) 32 48 (fun x => [(31, .int .i64 (x.1 : Nat)), (7, x.2)]) (fun x H' n' => x.1 ≤ k ∧ n ≤ n' ∧ OwnB n n' H' x.2 (bs (l ++ pre ++ (bel k w).take x.1)) 5 1 ∧ Agree n H H') (fun x H' n' => n ≤ n' ∧ OwnB n n' H' x.2 (bs (l ++ pre ++ bel k w)) 5 1 ∧ Agree n H H') (fun x => k - x.1) ((0, v)) ?_ (by simp only [subs_nil, subs_if, lk_if, lk_nil, dropR_nil, dropR_cons, Nat.reduceLT, List.cons_append, List.nil_append, List.elem_nil, List.elem_cons, Nat.reduceBEq, beq_self_eq_true, Bool.true_or, Bool.false_or, Bool.or_true, Bool.or_false, Bool.false_eq_true, ↓reduceIte, if_true, if_false, Nat.reduceEqDiff, and_self, and_true, true_and, eq_self]) ?_ ?_
      · refine ⟨Nat.zero_le _, by omega, ?_, fA⟩
        rw [List.take_zero, List.append_nil]; exact ho.keep (fun _ _ _ => rfl) (by omega)
      · clear ho fA hH'
        rintro ⟨j, v⟩ H' n' kk ⟨hj, hn, ho, fA⟩ hK hS
        simp only at hj ho
        simp only [List.cons_append, List.nil_append, dropR_nil, dropR_cons, Nat.reduceLT, ↓reduceIte]
        by_cases hjk : j < k
        · have q3 : 8 * (k - 1 - j) ≤ 64 := by omega
          have q4 : 1 ≤ k := by omega
          refine AGo_turn ?_
          simp (disch := first | assumption | omega) only [ite_lt, ite_le, bin_rem_u64, bin_quo_u64, fl_get, fl_splice, fl_splice_all, fl_length, fl_all, fl_take, cell_wK, splice_one_zero, hjk, u8_wrap, Nat.min_eq_left q3, W1, sim, ↓reduceIte, Nat.reduceAdd, Nat.reduceSub, Nat.reduceMul, Nat.reduceLT, Nat.reduceLeDiff, Nat.reduceEqDiff, Nat.reduceBEq, Nat.reduceBNe, Nat.reduceMod, Nat.reduceDiv]
          refine AGo_push (n1 := n' + 12) (nb := n) (l := bs (l ++ pre ++ (bel k w).take j)) (OwnB.upd (ho.keep (n' := n' + 7) (fun _ _ _ => rfl) (by omega)) (by omega) (by omega)) (src_mk (upd_same _ _ _) rfl rfl) (by omega) (by omega) (by rw [bs_length]; simp only [List.length_cons, List.length_append, List.length_take, List.length_nil]; omega) (by decide) (by omega) rfl ?_
          intro v2 H2 o2 hA2
          rw [pushB, List.append_assoc, ← bel_take _ _ _ hjk] at o2
          refine wk0 ?_
          refine AGo_le ?_ (hS (j + 1, v2) _ _ ⟨by simp only; omega, by omega, ?_, ?_⟩ (by simp only; omega))
          · simp only [subs_nil, subs_if, lk_if, lk_nil, dropR_nil, dropR_cons, Nat.reduceLT, List.cons_append, List.nil_append, List.elem_nil, List.elem_cons, Nat.reduceBEq, beq_self_eq_true, Bool.true_or, Bool.false_or, Bool.or_true, Bool.or_false, Bool.false_eq_true, ↓reduceIte, if_true, if_false, Nat.reduceEqDiff, and_self, and_true, true_and, eq_self]
          · exact o2.keep (fun _ _ _ => rfl) (by omega)
          · intro i hi; rw [hA2 _ (by omega), upd_ne _ _ (by omega)]; exact fA i hi
        · have hjk2 : j = k := by omega
          subst hjk2
          refine AGo_turn ?_
          refine wk2 @hjk @Nat.lt_irrefl ?_
          rw [List.take_of_length_le (by rw [bel_length]; exact Nat.le_refl _)] at ho
          refine AGo_markL ?_ (hK (j, v) _ _ ⟨by omega, ho.keep (fun _ _ _ => rfl) (by omega), fA⟩)
          · simp only [subs_nil, subs_if, lk_if, lk_nil, dropR_nil, dropR_cons, Nat.reduceLT, List.cons_append, List.nil_append, List.elem_nil, List.elem_cons, Nat.reduceBEq, beq_self_eq_true, Bool.true_or, Bool.false_or, Bool.or_true, Bool.or_false, Bool.false_eq_true, ↓reduceIte, if_true, if_false, Nat.reduceEqDiff, and_self, and_true, true_and, eq_self]
      clear ho fA hH'
      rintro ⟨j, v2⟩ H2 n2 ⟨hn2, ho, fA⟩
      simp only at ho
      rw [List.append_assoc, ← hwt] at ho
      simp only [List.cons_append, List.nil_append, dropR_nil, dropR_cons, Nat.reduceLT, ↓reduceIte]
      refine wk0 ?_
      refine AGo_le ?_ (hS (i + 1, v2) _ _ ⟨by simp only; omega, by omega, ho.keep (fun _ _ _ => rfl) (by omega), fA⟩ (by simp only; omega))
      · simp only [subs_nil, subs_if, lk_if, lk_nil, dropR_nil, dropR_cons, Nat.reduceLT, List.cons_append, List.nil_append, List.elem_nil, List.elem_cons, Nat.reduceBEq, beq_self_eq_true, Bool.true_or, Bool.false_or, Bool.or_true, Bool.or_false, Bool.false_eq_true, ↓reduceIte, if_true, if_false, Nat.reduceEqDiff, and_self, and_true, true_and, eq_self]
    · have hiw : i = ws.length := by omega
      subst hiw
      refine AGo_turn ?_
      refine wk2 @hlt @Nat.lt_irrefl ?_
      rw [List.take_of_length_le (Nat.le_refl _)] at ho
      refine AGo_markL ?_ (hK (ws.length, v) _ _ ⟨ho.keep (fun _ _ _ => rfl) (by omega), fA⟩)
      · simp only [subs_nil, subs_if, lk_if, lk_nil, dropR_nil, dropR_cons, Nat.reduceLT, List.cons_append, List.nil_append, List.elem_nil, List.elem_cons, Nat.reduceBEq, beq_self_eq_true, Bool.true_or, Bool.false_or, Bool.or_true, Bool.or_false, Bool.false_eq_true, ↓reduceIte, if_true, if_false, Nat.reduceEqDiff, and_self, and_true, true_and, eq_self]
  rintro ⟨i, v⟩ H1 n1 ⟨ho, fA⟩
  simp only [List.cons_append, List.nil_append, dropR_nil, dropR_cons, Nat.reduceLT, ↓reduceIte]
  refine wk0 ?_
  exact Makes.of_agree ho.1 fA
end Go.Proofs.YtcjchcommaahdaaGreat

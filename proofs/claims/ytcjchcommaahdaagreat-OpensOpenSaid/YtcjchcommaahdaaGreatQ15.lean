/- Division of two words by one. Words and bits of long numbers; divisions bit by bit. Layer 3: divisions. Layer 3: divisions, bit by bit. No conditions. -/
import Derived.Test.YtcjchcommaahdaaGreatQ12
import Derived.Test.YtcjchcommaahdaaGreatQ14
set_option maxRecDepth 20000
set_option maxHeartbeats 4000000
set_option linter.all false
namespace Go.Proofs.YtcjchcommaahdaaGreat
open Go.Ab

theorem div64 (hi lo y : Nat) (hh : hi < y) (hl : lo < B) (hy : y < B) (H : Heap) (n : Nat) : ACall Tryz.prog 132 [.int .u64 (hi : Nat), .int .u64 (lo : Nat), .int .u64 (y : Nat)] H n
    (Ret (.tuple #[.int .u64 ((hi * B + lo) / y : Nat), .int .u64 ((hi * B + lo) % y : Nat)]) H n) := by
  refine acall_retF mix (low_pair Low.int Low.int) Tryz.func132 ok132 (fun _ _ => Tryz.call132 _ _) rfl ?_
  have hy0 : ¬ y = 0 := by omega
  have hyh : ¬ y ≤ hi := by omega
  by_cases h0 : hi = 0
  · subst h0
    have e1 : (0 * B + lo) / y = lo / y := by rw [Nat.zero_mul, Nat.zero_add]
    have e2 : (0 * B + lo) % y = lo % y := by rw [Nat.zero_mul, Nat.zero_add]
    have e3 : lo / y % B = lo / y := Nat.mod_eq_of_lt (Nat.lt_of_le_of_lt (Nat.div_le_self _ _) hl)
    rw [e1, e2]
    simp (disch := first | assumption | omega) only [c132, hy0, hyh, bin_quo_u64 lo y hy0, bin_rem_u64 lo y hy0, e3, W, sim, ↓reduceIte, Nat.reduceAdd, Nat.reduceSub, Nat.reduceMul, Nat.reduceLT, Nat.reduceLeDiff, Nat.reduceEqDiff, Nat.reduceBEq, Nat.reduceBNe, Nat.reduceMod, Nat.reduceDiv]
    exact ⟨rfl, agr⟩
  have hn1 : ¬ nbits y ≤ 0 := by rw [nbits_le]; omega
  have hn2 : nbits y ≤ 64 := by rw [nbits_le]; rw [B_eq] at hy; omega
  have hn3 : ¬ nbits y ≤ nbits y - 1 := by omega
  have hn4 := lt_nbits y
  rw [nbits_le] at hn3
  have hp : 2 ^ nbits y * 2 ^ (64 - nbits y) = B := by rw [← Nat.pow_add, show nbits y + (64 - nbits y) = 64 by omega, B_eq]
  have hp1 : 2 ^ (nbits y - 1) * 2 ^ (64 - nbits y) = 9223372036854775808 := by rw [← Nat.pow_add, show nbits y - 1 + (64 - nbits y) = 63 by omega]
  obtain ⟨s, hs⟩ : ∃ s, 64 - nbits y = s := ⟨_, rfl⟩
  rw [hs] at hp hp1
  have ps : 0 < 2 ^ s := Nat.pow_pos (by decide)
  have hY1 : y * 2 ^ s < B := by rw [← hp]; exact Nat.mul_lt_mul_of_pos_right hn4 ps
  have hY2 : 9223372036854775808 ≤ y * 2 ^ s := by rw [← hp1]; exact Nat.mul_le_mul_right _ (by omega)
  obtain ⟨hu, huY, hN⟩ := moved hi lo y s hh hl (by omega) hY1
  have hsB : s % B = s := Nat.mod_eq_of_lt (by rw [B_eq]; omega)
  have hsm : min s 64 = s := Nat.min_eq_left (by omega)
  have h64 : (64 + (B - s)) % B = 64 - s := by rw [B_eq]; omega
  have h64m : min (64 - s) 64 = 64 - s := Nat.min_eq_left (by omega)
  generalize hi * 2 ^ s + lo / 2 ^ (64 - s) = u at *
  have hl0 : lo * 2 ^ s % B < B := Nat.mod_lt _ B_pos
  generalize hlm : lo * 2 ^ s % B = l at *
  have hYm : y * 2 ^ s % B = y * 2 ^ s := Nat.mod_eq_of_lt hY1
  obtain ⟨Y, hYe⟩ : ∃ Y, y * 2 ^ s = Y := ⟨_, rfl⟩
  rw [hYe] at hYm hY1 hY2 huY
  obtain ⟨y1, hy1⟩ : ∃ y1, Y / 2 ^ 32 = y1 := ⟨_, rfl⟩
  obtain ⟨y0, hy0'⟩ : ∃ y0, Y % 4294967296 = y0 := ⟨_, rfl⟩
  obtain ⟨d1, hd1⟩ : ∃ d1, l / 2 ^ 32 = d1 := ⟨_, rfl⟩
  obtain ⟨d0, hd0⟩ : ∃ d0, l % 4294967296 = d0 := ⟨_, rfl⟩
  have hYy : Y = y1 * 4294967296 + y0 := by omega
  have b1 : 2147483648 ≤ y1 := by omega
  have b2 : y1 < 4294967296 := by rw [B_eq] at hY1; omega
  have b3 : y0 < 4294967296 := by omega
  have b4 : d1 < 4294967296 := by rw [B_eq] at hl0; omega
  have b5 : d0 < 4294967296 := by omega
  have hle : l = d1 * 4294967296 + d0 := by omega
  have y1n : y1 ≠ 0 := by omega
  have huB : u < B := Nat.lt_trans huY hY1
  have hq1 : u / y1 % B = u / y1 := Nat.mod_eq_of_lt (Nat.lt_of_le_of_lt (Nat.div_le_self _ _) huB)
  have hr1 : (u + (B - u / y1 * y1 % B % B)) % B = u % y1 := by
    have := Nat.div_mul_le_self u y1
    have e := Nat.mod_add_div u y1
    rw [Nat.mul_comm y1] at e
    generalize u / y1 * y1 = m at *
    rw [Nat.mod_eq_of_lt (show m < B by omega), Nat.mod_eq_of_lt (show m < B by omega)]
    rw [show u + (B - m) = B + (u - m) by omega, Nat.add_mod_left, Nat.mod_eq_of_lt (by omega)]; omega
  refine wk4 @c132.eq_1 @hy0 @hyh @h0 ?_
  refine AGo_askV (leading64 y hy _ _) ?_
  simp (disch := first | assumption | omega) only [hs, hsB, hsm, h64, h64m, hYe, hYm, hu, hlm, hy1, and_mask, hy0', hd1, hd0, bin_quo_u64 u y1 y1n, hq1, hr1, W, sim, ↓reduceIte, Nat.reduceAdd, Nat.reduceSub, Nat.reduceMul, Nat.reduceLT, Nat.reduceLeDiff, Nat.reduceEqDiff, Nat.reduceBEq, Nat.reduceBNe, Nat.reduceMod, Nat.reduceDiv]
  have y1p : 0 < y1 := by omega
  have hqr : u / y1 * y1 + u % y1 = u := by rw [Nat.mul_comm]; exact Nat.div_add_mod _ _
  have hq2 : u / y1 ≤ 4294967297 := first_le b1 b3 (by omega)
  have hq3 := (digit_first (u := u) (d := d1) b1 b3 (by omega)).resolve_right (by omega)
  have hr2 : u % y1 < 4294967296 := Nat.lt_trans (Nat.mod_lt _ y1p) b2
  obtain ⟨t1, ht1⟩ : ∃ t, (u * 4294967296 + d1) / (y1 * 4294967296 + y0) = t := ⟨_, rfl⟩
  rw [ht1] at hq3
  clear hq1 hr1
  generalize u / y1 = q at *
  generalize u % y1 = r at *
  have hI : q * y1 + r = u ∧ t1 ≤ q ∧ q ≤ 4294967297 ∧ r < 4294967296 := ⟨hqr, hq3, hq2, hr2⟩
  clear hqr hq2 hq3 hr2
  refine AGo_cycleD (α := Nat × Nat) 67 86 (fun x => [(15, .int .u64 (x.1 : Nat)), (16, .int .u64 (x.2 : Nat))]) (fun x H' n' => H = H' ∧ x.1 * y1 + x.2 = u ∧ t1 ≤ x.1 ∧ x.1 ≤ 4294967297 ∧ x.2 < 4294967296) (fun x H' n' => H = H' ∧ x.1 = t1) (fun x => x.1 - t1) ((q, r)) ?_ (by simp only [subs_nil, subs_if, lk_if, lk_nil, dropR_nil, dropR_cons, Nat.reduceLT, List.cons_append, List.nil_append, List.elem_nil, List.elem_cons, Nat.reduceBEq, beq_self_eq_true, Bool.true_or, Bool.false_or, Bool.or_true, Bool.or_false, Bool.false_eq_true, ↓reduceIte, if_true, if_false, Nat.reduceEqDiff, and_self, and_true, true_and, eq_self]) ?_ ?_
  · exact ⟨rfl, hI⟩
  · rintro ⟨q, r⟩ H1 n kk ⟨rfl, i1, i2, i3, i4⟩ hK hS
    dsimp only at i1 i2 i3 i4
    simp only [List.cons_append, List.nil_append, dropR_nil, dropR_cons, Nat.reduceLT, ↓reduceIte]
    have hg := digit_gt (d := d1) (y0 := y0) y1p i1
    rw [ht1] at hg
    have hrm : (r + y1) % B = r + y1 := Nat.mod_eq_of_lt (by rw [B_eq]; omega)
    have go : t1 < q → (q + (B - 1 % B)) % B = q - 1 ∧ (q - 1) * y1 + (r + y1) = u ∧ t1 ≤ q - 1 ∧ q - 1 ≤ 4294967296 ∧ (4294967296 ≤ r + y1 → q - 1 = t1) := by
      intro h
      have e : (q - 1) * y1 + (r + y1) = u := by
        have : q * y1 = (q - 1) * y1 + y1 := by rw [← Nat.succ_mul]; congr 1; omega
        omega
      refine ⟨by rw [B_eq]; omega, e, by omega, by omega, fun hb => ?_⟩
      have := digit_le (d := d1) (y0 := y0) y1p e (by omega) b3 hb
      rw [ht1] at this; omega
    by_cases hc : 4294967296 ≤ q
    · have hlt : t1 < q := by
        have := qt_lt (u := u) (d := d1) (Y := y1 * 4294967296 + y0) (by omega) (by omega)
        rw [ht1] at this; omega
      obtain ⟨g1, g2, g3, g4, g5⟩ := go hlt
      by_cases hb : 4294967296 ≤ r + y1
      · refine AGo_turn ?_
        refine wk4 @hc @g1 @hrm @hb ?_
        refine AGo_markL ?_ (hK (q - 1, r + y1) H _ ⟨rfl, g5 hb⟩)
        · simp only [subs_nil, subs_if, lk_if, lk_nil, dropR_nil, dropR_cons, Nat.reduceLT, List.cons_append, List.nil_append, List.elem_nil, List.elem_cons, Nat.reduceBEq, beq_self_eq_true, Bool.true_or, Bool.false_or, Bool.or_true, Bool.or_false, Bool.false_eq_true, ↓reduceIte, if_true, if_false, Nat.reduceEqDiff, and_self, and_true, true_and, eq_self]
      · refine AGo_turn ?_
        refine wk4 @hc @g1 @hrm @hb ?_
        refine AGo_le ?_ (hS (q - 1, r + y1) H _ ⟨rfl, g2, g3, by show q - 1 ≤ _; omega, by show r + y1 < _; omega⟩ (by show q - 1 - _ < q - _; omega))
        · simp only [subs_nil, subs_if, lk_if, lk_nil, dropR_nil, dropR_cons, Nat.reduceLT, List.cons_append, List.nil_append, List.elem_nil, List.elem_cons, Nat.reduceBEq, beq_self_eq_true, Bool.true_or, Bool.false_or, Bool.or_true, Bool.or_false, Bool.false_eq_true, ↓reduceIte, if_true, if_false, Nat.reduceEqDiff, and_self, and_true, true_and, eq_self]
    · have e1 : q * y0 % B = q * y0 := by
        have := Nat.mul_le_mul (show q ≤ 4294967295 by omega) (show y0 ≤ 4294967295 by omega)
        exact Nat.mod_eq_of_lt (by rw [B_eq]; omega)
      have e2 : (4294967296 * r % B + d1) % B = r * 4294967296 + d1 := by rw [B_eq]; omega
      by_cases hgt : r * 4294967296 + d1 < q * y0
      · obtain ⟨g1, g2, g3, g4, g5⟩ := go (hg.2 hgt)
        by_cases hb : 4294967296 ≤ r + y1
        · refine AGo_turn ?_
          refine wk7 @hc @g1 @hrm @hb @e1 @e2 @hgt ?_
          refine AGo_markL ?_ (hK (q - 1, r + y1) H _ ⟨rfl, g5 hb⟩)
          · simp only [subs_nil, subs_if, lk_if, lk_nil, dropR_nil, dropR_cons, Nat.reduceLT, List.cons_append, List.nil_append, List.elem_nil, List.elem_cons, Nat.reduceBEq, beq_self_eq_true, Bool.true_or, Bool.false_or, Bool.or_true, Bool.or_false, Bool.false_eq_true, ↓reduceIte, if_true, if_false, Nat.reduceEqDiff, and_self, and_true, true_and, eq_self]
        · refine AGo_turn ?_
          refine wk7 @hc @g1 @hrm @hb @e1 @e2 @hgt ?_
          refine AGo_le ?_ (hS (q - 1, r + y1) H _ ⟨rfl, g2, g3, by show q - 1 ≤ _; omega, by show r + y1 < _; omega⟩ (by show q - 1 - _ < q - _; omega))
          · simp only [subs_nil, subs_if, lk_if, lk_nil, dropR_nil, dropR_cons, Nat.reduceLT, List.cons_append, List.nil_append, List.elem_nil, List.elem_cons, Nat.reduceBEq, beq_self_eq_true, Bool.true_or, Bool.false_or, Bool.or_true, Bool.or_false, Bool.false_eq_true, ↓reduceIte, if_true, if_false, Nat.reduceEqDiff, and_self, and_true, true_and, eq_self]
      · have hqt : q = t1 := by have := mt hg.1 hgt; omega
        refine AGo_turn ?_
        refine wk4 @hc @e1 @e2 @hgt ?_
        refine AGo_markL ?_ (hK (q, r) H _ ⟨rfl, hqt⟩)
        · simp only [subs_nil, subs_if, lk_if, lk_nil, dropR_nil, dropR_cons, Nat.reduceLT, List.cons_append, List.nil_append, List.elem_nil, List.elem_cons, Nat.reduceBEq, beq_self_eq_true, Bool.true_or, Bool.false_or, Bool.or_true, Bool.or_false, Bool.false_eq_true, ↓reduceIte, if_true, if_false, Nat.reduceEqDiff, and_self, and_true, true_and, eq_self]
  rintro ⟨q, r⟩ H1 n ⟨rfl, hJ⟩
  dsimp only at hJ
  simp only [hJ, List.cons_append, List.nil_append, dropR_nil, dropR_cons, Nat.reduceLT, ↓reduceIte]
  clear hJ
  have Yp : 0 < Y := by omega
  have hv := left_wrap (a := u) (d := d1) Yp hY1
  have hvY := Nat.mod_lt (u * 4294967296 + d1) Yp
  rw [← hYy] at ht1
  obtain ⟨hN1, hN2⟩ := two_digits u d1 d0 Y Yp
  rw [ht1] at hv hN1
  obtain ⟨v, hve⟩ : ∃ v, (u * 4294967296 + d1) % Y = v := ⟨_, rfl⟩
  rw [hve] at hv hvY hN1 hN2
  have hvB : v < B := Nat.lt_trans hvY hY1
  have hq1 : v / y1 % B = v / y1 := Nat.mod_eq_of_lt (Nat.lt_of_le_of_lt (Nat.div_le_self _ _) hvB)
  have hr1 : (v + (B - v / y1 * y1 % B % B)) % B = v % y1 := by
    have := Nat.div_mul_le_self v y1
    have e := Nat.mod_add_div v y1
    rw [Nat.mul_comm y1] at e
    generalize v / y1 * y1 = m at *
    rw [Nat.mod_eq_of_lt (show m < B by omega), Nat.mod_eq_of_lt (show m < B by omega)]
    rw [show v + (B - m) = B + (v - m) by omega, Nat.add_mod_left, Nat.mod_eq_of_lt (by omega)]; omega
  simp (disch := first | assumption | omega) only [hv, bin_quo_u64 v y1 y1n, hq1, hr1, W, sim, ↓reduceIte, Nat.reduceAdd, Nat.reduceSub, Nat.reduceMul, Nat.reduceLT, Nat.reduceLeDiff, Nat.reduceEqDiff, Nat.reduceBEq, Nat.reduceBNe, Nat.reduceMod, Nat.reduceDiv]
  have y1p : 0 < y1 := by omega
  have hqr : v / y1 * y1 + v % y1 = v := by rw [Nat.mul_comm]; exact Nat.div_add_mod _ _
  have hq2 : v / y1 ≤ 4294967297 := first_le b1 b3 (by omega)
  have hq3 := (digit_first (u := v) (d := d0) b1 b3 (by omega)).resolve_right (by omega)
  have hr2 : v % y1 < 4294967296 := Nat.lt_trans (Nat.mod_lt _ y1p) b2
  obtain ⟨t2, ht2⟩ : ∃ t, (v * 4294967296 + d0) / (y1 * 4294967296 + y0) = t := ⟨_, rfl⟩
  rw [ht2] at hq3
  clear hq1 hr1
  generalize v / y1 = q at *
  generalize v % y1 = r at *
  have hI : q * y1 + r = v ∧ t2 ≤ q ∧ q ≤ 4294967297 ∧ r < 4294967296 := ⟨hqr, hq3, hq2, hr2⟩
  clear hqr hq2 hq3 hr2
  refine AGo_cycleD (α := Nat × Nat) 102 121 (fun x => [(18, .int .u64 (x.1 : Nat)), (16, .int .u64 (x.2 : Nat))]) (fun x H' n' => H = H' ∧ x.1 * y1 + x.2 = v ∧ t2 ≤ x.1 ∧ x.1 ≤ 4294967297 ∧ x.2 < 4294967296) (fun x H' n' => H = H' ∧ x.1 = t2) (fun x => x.1 - t2) ((q, r)) ?_ (by simp only [subs_nil, subs_if, lk_if, lk_nil, dropR_nil, dropR_cons, Nat.reduceLT, List.cons_append, List.nil_append, List.elem_nil, List.elem_cons, Nat.reduceBEq, beq_self_eq_true, Bool.true_or, Bool.false_or, Bool.or_true, Bool.or_false, Bool.false_eq_true, ↓reduceIte, if_true, if_false, Nat.reduceEqDiff, and_self, and_true, true_and, eq_self]) ?_ ?_
  · exact ⟨rfl, hI⟩
  · rintro ⟨q, r⟩ H1 n kk ⟨rfl, i1, i2, i3, i4⟩ hK hS
    dsimp only at i1 i2 i3 i4
    simp only [List.cons_append, List.nil_append, dropR_nil, dropR_cons, Nat.reduceLT, ↓reduceIte]
    have hg := digit_gt (d := d0) (y0 := y0) y1p i1
    rw [ht2] at hg
    have hrm : (r + y1) % B = r + y1 := Nat.mod_eq_of_lt (by rw [B_eq]; omega)
    have go : t2 < q → (q + (B - 1 % B)) % B = q - 1 ∧ (q - 1) * y1 + (r + y1) = v ∧ t2 ≤ q - 1 ∧ q - 1 ≤ 4294967296 ∧ (4294967296 ≤ r + y1 → q - 1 = t2) := by
      intro h
      have e : (q - 1) * y1 + (r + y1) = v := by
        have : q * y1 = (q - 1) * y1 + y1 := by rw [← Nat.succ_mul]; congr 1; omega
        omega
      refine ⟨by rw [B_eq]; omega, e, by omega, by omega, fun hb => ?_⟩
      have := digit_le (d := d0) (y0 := y0) y1p e (by omega) b3 hb
      rw [ht2] at this; omega
    by_cases hc : 4294967296 ≤ q
    · have hlt : t2 < q := by
        have := qt_lt (u := v) (d := d0) (Y := y1 * 4294967296 + y0) (by omega) (by omega)
        rw [ht2] at this; omega
      obtain ⟨g1, g2, g3, g4, g5⟩ := go hlt
      by_cases hb : 4294967296 ≤ r + y1
      · refine AGo_turn ?_
        refine wk4 @hc @g1 @hrm @hb ?_
        refine AGo_markL ?_ (hK (q - 1, r + y1) H _ ⟨rfl, g5 hb⟩)
        · simp only [subs_nil, subs_if, lk_if, lk_nil, dropR_nil, dropR_cons, Nat.reduceLT, List.cons_append, List.nil_append, List.elem_nil, List.elem_cons, Nat.reduceBEq, beq_self_eq_true, Bool.true_or, Bool.false_or, Bool.or_true, Bool.or_false, Bool.false_eq_true, ↓reduceIte, if_true, if_false, Nat.reduceEqDiff, and_self, and_true, true_and, eq_self]
      · refine AGo_turn ?_
        refine wk4 @hc @g1 @hrm @hb ?_
        refine AGo_le ?_ (hS (q - 1, r + y1) H _ ⟨rfl, g2, g3, by show q - 1 ≤ _; omega, by show r + y1 < _; omega⟩ (by show q - 1 - _ < q - _; omega))
        · simp only [subs_nil, subs_if, lk_if, lk_nil, dropR_nil, dropR_cons, Nat.reduceLT, List.cons_append, List.nil_append, List.elem_nil, List.elem_cons, Nat.reduceBEq, beq_self_eq_true, Bool.true_or, Bool.false_or, Bool.or_true, Bool.or_false, Bool.false_eq_true, ↓reduceIte, if_true, if_false, Nat.reduceEqDiff, and_self, and_true, true_and, eq_self]
    · have e1 : q * y0 % B = q * y0 := by
        have := Nat.mul_le_mul (show q ≤ 4294967295 by omega) (show y0 ≤ 4294967295 by omega)
        exact Nat.mod_eq_of_lt (by rw [B_eq]; omega)
      have e2 : (4294967296 * r % B + d0) % B = r * 4294967296 + d0 := by rw [B_eq]; omega
      by_cases hgt : r * 4294967296 + d0 < q * y0
      · obtain ⟨g1, g2, g3, g4, g5⟩ := go (hg.2 hgt)
        by_cases hb : 4294967296 ≤ r + y1
        · refine AGo_turn ?_
          refine wk7 @hc @g1 @hrm @hb @e1 @e2 @hgt ?_
          refine AGo_markL ?_ (hK (q - 1, r + y1) H _ ⟨rfl, g5 hb⟩)
          · simp only [subs_nil, subs_if, lk_if, lk_nil, dropR_nil, dropR_cons, Nat.reduceLT, List.cons_append, List.nil_append, List.elem_nil, List.elem_cons, Nat.reduceBEq, beq_self_eq_true, Bool.true_or, Bool.false_or, Bool.or_true, Bool.or_false, Bool.false_eq_true, ↓reduceIte, if_true, if_false, Nat.reduceEqDiff, and_self, and_true, true_and, eq_self]
        · refine AGo_turn ?_
          refine wk7 @hc @g1 @hrm @hb @e1 @e2 @hgt ?_
          refine AGo_le ?_ (hS (q - 1, r + y1) H _ ⟨rfl, g2, g3, by show q - 1 ≤ _; omega, by show r + y1 < _; omega⟩ (by show q - 1 - _ < q - _; omega))
          · simp only [subs_nil, subs_if, lk_if, lk_nil, dropR_nil, dropR_cons, Nat.reduceLT, List.cons_append, List.nil_append, List.elem_nil, List.elem_cons, Nat.reduceBEq, beq_self_eq_true, Bool.true_or, Bool.false_or, Bool.or_true, Bool.or_false, Bool.false_eq_true, ↓reduceIte, if_true, if_false, Nat.reduceEqDiff, and_self, and_true, true_and, eq_self]
      · have hqt : q = t2 := by have := mt hg.1 hgt; omega
        refine AGo_turn ?_
        refine wk4 @hc @e1 @e2 @hgt ?_
        refine AGo_markL ?_ (hK (q, r) H _ ⟨rfl, hqt⟩)
        · simp only [subs_nil, subs_if, lk_if, lk_nil, dropR_nil, dropR_cons, Nat.reduceLT, List.cons_append, List.nil_append, List.elem_nil, List.elem_cons, Nat.reduceBEq, beq_self_eq_true, Bool.true_or, Bool.false_or, Bool.or_true, Bool.or_false, Bool.false_eq_true, ↓reduceIte, if_true, if_false, Nat.reduceEqDiff, and_self, and_true, true_and, eq_self]
  rintro ⟨q, r⟩ H1 n ⟨rfl, hJ⟩
  dsimp only at hJ
  simp only [hJ, List.cons_append, List.nil_append, dropR_nil, dropR_cons, Nat.reduceLT, ↓reduceIte]
  clear hJ
  rw [← hYy] at ht2
  have hw := left_wrap (a := v) (d := d0) Yp hY1
  rw [ht2] at hw hN1
  have hNN : (u * 4294967296 + d1) * 4294967296 + d0 = (hi * B + lo) * 2 ^ s := by rw [← hN, B_eq, hle]; omega
  rw [hNN, ← hYe, Nat.mul_div_mul_right _ _ ps] at hN1
  rw [hNN, ← hYe, Nat.mul_mod_mul_right, hYe] at hN2
  have ht1B : (t1 * 4294967296 % B + t2) % B = t1 * 4294967296 + t2 := by
    have := qt_lt (u := u) (d := d1) (Y := Y) huY b4
    have h2 := qt_lt (u := v) (d := d0) (Y := Y) hvY b5
    rw [ht1] at this; rw [ht2] at h2
    rw [B_eq]; omega
  have hs2 : (v * 4294967296 + d0) % Y / 2 ^ s = (hi * B + lo) % y := by rw [← hN2, Nat.mul_div_cancel _ ps]
  refine wk5 @hw @ht1B @hsm @hs2 @hN1 ?_
  exact ⟨rfl, agr⟩
end Go.Proofs.YtcjchcommaahdaaGreat
namespace Go.Ab
def wK (x k : Nat) : Nat := x / 2 ^ (64 * k) % B
theorem B_pow : B = 2 ^ 64 := by rw [B_eq]
theorem BB_pow : BB = 2 ^ 256 := by rw [BB_eq]
theorem wK0 (x : Nat) : wK x 0 = w0 x := by rw [w0_def, wK]; simp
theorem wK1 (x : Nat) : wK x 1 = w1 x := by rw [w1_def, wK, B_eq]
theorem wK2 (x : Nat) : wK x 2 = w2 x := by rw [w2_def, wK, B_eq]
theorem wK3 (x : Nat) : wK x 3 = w3 x := by rw [w3_def, wK, B_eq]
theorem w_zero : w0 0 = 0 ∧ w1 0 = 0 ∧ w2 0 = 0 ∧ w3 0 = 0 := by simp [w0_def, w1_def, w2_def, w3_def]
theorem wK_lt (x k : Nat) : wK x k < B := Nat.mod_lt _ B_pos
theorem wK_or (x y k : Nat) : wK (x ||| y) k = wK x k ||| wK y k := by
  unfold wK; rw [B_pow]
  apply Nat.eq_of_testBit_eq; intro j
  simp only [Nat.testBit_mod_two_pow, Nat.testBit_or, Nat.testBit_div_two_pow]
  cases decide (j < 64) <;> simp
theorem wK_bit (s i k : Nat) (hs : s ≤ 1) : wK (s * 2 ^ i) k = if k = i / 64 then s * 2 ^ (i % 64) else 0 := by
  unfold wK; rw [B_pow]
  apply Nat.eq_of_testBit_eq; intro j
  have hs' : s = 0 ∨ s = 1 := by omega
  rcases hs' with rfl | rfl
  · simp
  · simp only [Nat.one_mul, Nat.testBit_mod_two_pow, Nat.testBit_div_two_pow, Nat.testBit_two_pow]
    split
    · rename_i h; simp only [Nat.testBit_two_pow]
      rw [Bool.eq_iff_iff]; simp; omega
    · rename_i h; simp; omega
theorem add_or_bit {q i s : Nat} (hd : q % 2 ^ (i + 1) = 0) (hs : s ≤ 1) : q + s * 2 ^ i = q ||| s * 2 ^ i := by
  have e : q = 2 ^ (i + 1) * (q / 2 ^ (i + 1)) := by have := Nat.div_add_mod q (2 ^ (i + 1)); omega
  rw [e]
  apply Nat.two_pow_add_eq_or_of_lt
  have := Nat.pow_pos (n := i) (show 0 < 2 by decide)
  rw [Nat.pow_succ]
  rcases (show s = 0 ∨ s = 1 by omega) with rfl | rfl <;> omega
/-- A bit more, of which nothing is there yet: in its own word. -/
theorem q_or {q i s : Nat} (hd : q % 2 ^ (i + 1) = 0) (hs : s ≤ 1) (k : Nat) :
    wK (q + s * 2 ^ i) k = if k = i / 64 then (wK q k ||| s * 2 ^ (i % 64) % B) % B else wK q k := by
  rw [add_or_bit hd hs, wK_or, wK_bit s i k hs]
  split
  · have hlt : s * 2 ^ (i % 64) < B := by
      rw [B_pow]
      have h1 : 2 ^ (i % 64) ≤ 2 ^ 63 := Nat.pow_le_pow_right (by decide) (by omega)
      rcases (show s = 0 ∨ s = 1 by omega) with rfl | rfl <;> omega
    rw [Nat.mod_eq_of_lt hlt]
    have h1 := wK_lt q k
    have h2 : wK q k ||| s * 2 ^ (i % 64) < B := by
      rw [B_pow] at h1 hlt ⊢
      exact Nat.or_lt_two_pow h1 hlt
    exact (Nat.mod_eq_of_lt h2).symm
  · simp
/-- A number, its bits come one by one: what it was, twice, and the bit. -/
theorem top_step (a n k : Nat) (hk : k < n) : a / 2 ^ (n - (k + 1)) = 2 * (a / 2 ^ (n - k)) + a / 2 ^ (n - 1 - k) % 2 := by
  rw [show n - (k + 1) = n - 1 - k by omega, show n - k = (n - 1 - k) + 1 by omega, Nat.pow_succ, ← Nat.div_div_eq_div_mul]
  omega
theorem div_step {A b bit : Nat} (hb : 0 < b) : (2 * A + bit) % b = (2 * (A % b) + bit) % b ∧ (2 * A + bit) / b = 2 * (A / b) + (2 * (A % b) + bit) / b := by
  have e := Nat.div_add_mod A b
  have e2 : 2 * A + bit = 2 * (A % b) + bit + b * (2 * (A / b)) := by
    have : 2 * A = 2 * (b * (A / b)) + 2 * (A % b) := by omega
    rw [this, Nat.mul_left_comm]; omega
  refine ⟨?_, ?_⟩
  · rw [e2, Nat.add_mul_mod_self_left]
  · rw [e2, Nat.add_mul_div_left _ _ hb]; omega
theorem next_cases {r bit m : Nat} (hr : r < m) (hb : bit ≤ 1) (hm : m < BB) : ∃ X d, (r + r) % BB = X ∧ (r + r) / BB = d ∧ X + bit < BB ∧ X % 2 = 0 ∧
    ((d = 1 ∧ (X + bit + BB - m) % BB = (2 * r + bit) % m ∧ (2 * r + bit) / m = 1) ∨ (d = 0 ∧ ¬ X + bit < m ∧ (X + bit + BB - m) % BB = (2 * r + bit) % m ∧ (2 * r + bit) / m = 1) ∨
      (d = 0 ∧ X + bit < m ∧ X + bit = (2 * r + bit) % m ∧ (2 * r + bit) / m = 0)) := by
  have hlt : 2 * r + bit < 2 * m := by omega
  have q1 : m ≤ 2 * r + bit → (2 * r + bit) % m = 2 * r + bit - m ∧ (2 * r + bit) / m = 1 := by
    intro h
    have : 2 * r + bit = (2 * r + bit - m) + m * 1 := by omega
    rw [this, Nat.add_mul_mod_self_left, Nat.add_mul_div_left _ _ (by omega), Nat.mod_eq_of_lt (by omega), Nat.div_eq_of_lt (by omega)]; omega
  by_cases h1 : BB ≤ r + r
  · have e1 : (r + r) % BB = r + r - BB := by
      rw [Nat.mod_eq_sub_mod h1, Nat.mod_eq_of_lt (by omega)]
    have e2 : (r + r) / BB = 1 := by
      rw [show r + r = (r + r - BB) + BB * 1 by omega, Nat.add_mul_div_left _ _ BB_pos, Nat.div_eq_of_lt (by omega)]
    have hev : BB % 2 = 0 := by rw [BB_eq]
    obtain ⟨g1, g2⟩ := q1 (by omega)
    refine ⟨_, _, e1, e2, by omega, by omega, .inl ⟨rfl, ?_, g2⟩⟩
    rw [g1, Nat.mod_eq_of_lt (by omega)]; omega
  · have hev : BB % 2 = 0 := by rw [BB_eq]
    refine ⟨r + r, 0, Nat.mod_eq_of_lt (by omega), Nat.div_eq_of_lt (by omega), by omega, by omega, .inr ?_⟩
    by_cases h2 : r + r + bit < m
    · exact .inr ⟨rfl, h2, by rw [Nat.mod_eq_of_lt (by omega)]; omega, Nat.div_eq_of_lt (by omega)⟩
    · obtain ⟨g1, g2⟩ := q1 (by omega)
      refine .inl ⟨rfl, h2, ?_, g2⟩
      rw [g1, show r + r + bit + BB - m = (2 * r + bit - m) + BB by omega, Nat.add_mod_right, Nat.mod_eq_of_lt (by omega)]
theorem even_or {X bit : Nat} (h : X % 2 = 0) (hb : bit ≤ 1) : (w0 X ||| bit) % B = w0 (X + bit) ∧ w1 X = w1 (X + bit) ∧ w2 X = w2 (X + bit) ∧ w3 X = w3 (X + bit) := by
  have key := fun k => q_or (q := X) (i := 0) (s := bit) (by simpa using h) hb k
  simp only [Nat.pow_zero, Nat.mul_one] at key
  refine ⟨?_, ?_, ?_, ?_⟩
  · have := key 0; rw [wK0, wK0] at this; rw [this]; simp
    have hb2 : bit % B = bit := Nat.mod_eq_of_lt (by rw [B_eq]; omega)
    rw [hb2]
  · have := key 1; rw [wK1, wK1] at this; rw [this]; simp
  · have := key 2; rw [wK2, wK2] at this; rw [this]; simp
  · have := key 3; rw [wK3, wK3] at this; rw [this]; simp
end Go.Ab
namespace Go.Proofs.YtcjchcommaahdaaGreat
open Go.Ab

theorem div_short (a : Nat) (ha : a < BB) (H : Heap) (n : Nat) : ACall Tryz.prog 131 [N a] H n (Ret (.bool (decide (a < B))) H n) := by
  refine acall_retF mix lw Tryz.func131 ok131 (fun _ _ => Tryz.call131 _ _) rfl ?_
  have e : decide (nbits a ≤ 64) = decide (a < B) := by rw [B_pow]; exact decide_eq_decide.2 nbits_le
  refine wk2 @c131.eq_1 rN ?_
  refine AGo_askV (limbs_Bits a ha _ _) ?_
  refine wk2 rN @e ?_
  exact ⟨rfl, agr⟩

theorem div_next (r bit m : Nat) (hr : r < m) (hb : bit ≤ 1) (hm : m < BB) (H : Heap) (n : Nat) : ACall Tryz.prog 133 [N r, .int .u64 (bit : Nat), N m] H n (Ret (.tuple #[N ((2 * r + bit) % m), .int .u64 ((2 * r + bit) / m : Nat)]) H n) := by
  refine acall_retF mix lw Tryz.func133 ok133 (fun _ _ => Tryz.call133 _ _) rfl ?_
  have hrB : r < BB := Nat.lt_trans hr hm
  obtain ⟨X, d, hX, hd, hX1, hX2, hc⟩ := next_cases hr hb hm
  obtain ⟨o0, o1, o2, o3⟩ := even_or hX2 hb
  generalize hq : (2 * r + bit) % m = q at *
  generalize hs : (2 * r + bit) / m = s at *
  generalize hY : X + bit = Y at *
  refine wk2 @c133.eq_1 rN ?_
  refine AGo_askV (limbs_Add r r hrB hrB _ _) ?_
  refine wk7 rN @hX @hd @o0 @o1 @o2 @o3 ?_
  refine AGo_askV (limbs_Sub Y m hX1 hm _ _) ?_
  refine wk1 rN ?_
  rcases hc with ⟨rfl, h1, rfl⟩ | ⟨rfl, h0, h1, rfl⟩ | ⟨rfl, h0, rfl, rfl⟩
  · refine wk2 rN @h1 ?_
    exact ⟨rfl, agr⟩
  · refine wk3 rN @h0 @h1 ?_
    exact ⟨rfl, agr⟩
  · refine wk2 rN @h0 ?_
    exact ⟨rfl, agr⟩

theorem div_short_law {a b : Nat} (ha : a < BB) (hb : 0 < b) (hbB : b < B) :
    let r3 := w3 a % b; let r2 := (r3 * B + w2 a) % b; let r1 := (r2 * B + w1 a) % b
    N (a / b) = .agg #[.int .u64 ((r1 * B + w0 a) / b : Nat), .int .u64 ((r2 * B + w1 a) / b : Nat), .int .u64 ((r3 * B + w2 a) / b : Nat), .int .u64 (w3 a / b : Nat)] ∧ a % b = (r1 * B + w0 a) % b ∧
      r3 < b ∧ r2 < b ∧ r1 < b := by
  have h0 := w0_lt a; have h1 := w1_lt a; have h2 := w2_lt a; have h3 := w3_lt a
  have px := pack_w a
  rw [Nat.mod_eq_of_lt ha] at px
  generalize w0 a = a0 at *; generalize w1 a = a1 at *; generalize w2 a = a2 at *; generalize w3 a = a3 at *
  intro r3 r2 r1
  have l3 : r3 < b := Nat.mod_lt _ hb
  have l2 : r2 < b := Nat.mod_lt _ hb
  have l1 : r1 < b := Nat.mod_lt _ hb
  have e3 : b * (a3 / b) + r3 = a3 := Nat.div_add_mod _ _
  have e2 : b * ((r3 * B + a2) / b) + r2 = r3 * B + a2 := Nat.div_add_mod _ _
  have e1 : b * ((r2 * B + a1) / b) + r1 = r2 * B + a1 := Nat.div_add_mod _ _
  have e0 := Nat.div_add_mod (r1 * B + a0) b
  have d := fun (r w : Nat) (hr : r < b) (hw : w < B) => (Nat.div_lt_iff_lt_mul (x := r * B + w) (y := B) hb).2 (by
    have := Nat.mul_le_mul_right B (show r + 1 ≤ b from hr); rw [Nat.add_mul] at this; rw [Nat.mul_comm B b]; omega)
  have q3 : a3 / b < B := Nat.lt_of_le_of_lt (Nat.div_le_self _ _) h3
  have q2 := d r3 a2 l3 h2
  have q1 := d r2 a1 l2 h1
  have q0 := d r1 a0 l1 h0
  generalize a3 / b = x3 at *; generalize (r3 * B + a2) / b = x2 at *; generalize (r2 * B + a1) / b = x1 at *; generalize (r1 * B + a0) / b = x0 at *
  generalize hr0 : (r1 * B + a0) % b = r0 at *
  have l0 : r0 < b := by rw [← hr0]; exact Nat.mod_lt _ hb
  have key : a = b * pack x0 x1 x2 x3 + r0 := by
    rw [← px, pack_def, pack_def]
    simp only [Nat.mul_add, Nat.mul_left_comm b B]
    rw [B_eq] at *
    omega
  refine ⟨?_, ?_, l3, l2, l1⟩
  · rw [key, Nat.mul_add_div hb, Nat.div_eq_of_lt l0, Nat.add_zero, N_pack q0 q1 q2 q3]
  · rw [key, Nat.mul_add_mod, Nat.mod_eq_of_lt l0]
/-- Where the divisor is none. -/
theorem div_zero (a : Nat) (ha : a < BB) (H : Heap) (n : Nat) : ACall Tryz.prog 89 [N a, N 0] H n (Ret (.tuple #[N 0, N 0, .int .i64 (1 : Nat)]) H n) := by
  refine acall_retF mix lw Tryz.func89 ok89 (fun _ _ => Tryz.call89 _ _) rfl ?_
  have bbp := BB_pos
  refine wk2 @c89.eq_1 rN ?_
  exact ⟨rfl, agr⟩
theorem w_small {b : Nat} (h : b < B) : w0 b = b ∧ w1 b = 0 ∧ w2 b = 0 ∧ w3 b = 0 := by
  rw [w0_def, w1_def, w2_def, w3_def]
  refine ⟨Nat.mod_eq_of_lt h, ?_, ?_, ?_⟩
  · rw [Nat.div_eq_of_lt h]; rfl
  · rw [Nat.div_eq_of_lt (Nat.lt_of_lt_of_le h (by rw [B_eq]; decide))]; rfl
  · rw [Nat.div_eq_of_lt (Nat.lt_of_lt_of_le h (by rw [B_eq]; decide))]; rfl
theorem div_one (a b : Nat) (ha : a < BB) (hb0 : b ≠ 0) (hb : b < B) (H : Heap) (n : Nat) : ACall Tryz.prog 89 [N a, N b] H n (Ret (.tuple #[N (a / b), N (a % b), .int .i64 (0 : Nat)]) H n) := by
  refine acall_retF mix lw Tryz.func89 ok89 (fun _ _ => Tryz.call89 _ _) rfl ?_
  have bbp := BB_pos
  have hbB : b < BB := Nat.lt_trans hb (by rw [B_eq, BB_eq]; decide)
  have hb1 : 0 < b := by omega
  obtain ⟨g1, g2, l3, l2, l1⟩ := div_short_law ha hb1 hb
  have l0 : (((w3 a % b * B + w2 a) % b * B + w1 a) % b * B + w0 a) % b < B := Nat.lt_trans (Nat.mod_lt _ hb1) hb
  rw [g1, g2, N_small l0]
  obtain ⟨s0, s1, s2, s3⟩ := w_small hb
  refine wk4 @c89.eq_1 @N_fold @N_zero @hb0 ?_
  refine AGo_askV (div_short b hbB _ _) ?_
  refine wk1 @hb ?_
  refine AGo_turn ?_
  refine wk1 @s0 ?_
  refine AGo_askV (div64 0 (w3 a) b hb1 (w3_lt _) hb _ _) ?_
  refine wk0 ?_
  refine AGo_turn ?_
  refine wk1 @s0 ?_
  refine AGo_askV (div64 (w3 a % b) (w2 a) b l3 (w2_lt _) hb _ _) ?_
  refine wk0 ?_
  refine AGo_turn ?_
  refine wk1 @s0 ?_
  refine AGo_askV (div64 ((w3 a % b * B + w2 a) % b) (w1 a) b l2 (w1_lt _) hb _ _) ?_
  refine wk0 ?_
  refine AGo_turn ?_
  refine wk1 @s0 ?_
  refine AGo_askV (div64 (((w3 a % b * B + w2 a) % b * B + w1 a) % b) (w0 a) b l1 (w0_lt _) hb _ _) ?_
  refine wk0 ?_
  refine AGo_turn ?_
  refine wk1 @s0 ?_
  exact ⟨rfl, agr⟩
end Go.Proofs.YtcjchcommaahdaaGreat
namespace Go.Proofs.YtcjchcommaahdaaGreat
open Go.Ab

/-- What is there after 'k' of 'm' bits. -/
def topA (a m k : Nat) : Nat := a / 2 ^ (m - k)
theorem topA_zero (a : Nat) : topA a (nbits a) 0 = 0 := by unfold topA; rw [Nat.sub_zero]; exact Nat.div_eq_of_lt (lt_nbits a)
theorem topA_all (a m : Nat) : topA a m m = a := by unfold topA; simp
theorem wAt_wK (x k : Nat) (hk : k < 4) : wAt x k = wK x k := by
  have hd : k = 0 ∨ k = 1 ∨ k = 2 ∨ k = 3 := by omega
  rcases hd with rfl | rfl | rfl | rfl
  · exact (wK0 x).symm
  · exact (wK1 x).symm
  · exact (wK2 x).symm
  · exact (wK3 x).symm
theorem q_step (a b m k : Nat) (hb : 0 < b) (ham : a < 2 ^ m) (hm : m ≤ 256) (hk : k < m) :
    let A := topA a m k; let bit := bitOf a (m - 1 - k); let q := A / b * 2 ^ (m - k); let s := (2 * (A % b) + bit) / b; let i := m - 1 - k
    bit ≤ 1 ∧ s ≤ 1 ∧ topA a m (k + 1) % b = (2 * (A % b) + bit) % b ∧ topA a m (k + 1) / b * 2 ^ (m - (k + 1)) = q + s * 2 ^ i ∧ q % 2 ^ (i + 1) = 0 ∧ q + s * 2 ^ i < BB := by
  intro A bit q s i
  have hb1 : bit ≤ 1 := by show a / 2 ^ i % 2 ≤ 1; omega
  have ht : topA a m (k + 1) = 2 * A + bit := top_step a m k hk
  obtain ⟨d1, d2⟩ := div_step (A := A) (bit := bit) hb
  have hr := Nat.mod_lt A hb
  have hs : s ≤ 1 := by
    show (2 * (A % b) + bit) / b ≤ 1
    have : (2 * (A % b) + bit) / b < 2 := (Nat.div_lt_iff_lt_mul hb).2 (by omega)
    omega
  have hi : m - (k + 1) = i := by show m - (k + 1) = m - 1 - k; omega
  have hi2 : m - k = i + 1 := by show m - k = m - 1 - k + 1; omega
  have e : topA a m (k + 1) / b * 2 ^ (m - (k + 1)) = q + s * 2 ^ i := by
    show topA a m (k + 1) / b * 2 ^ (m - (k + 1)) = A / b * 2 ^ (m - k) + s * 2 ^ i
    rw [ht, d2, hi, hi2, Nat.pow_succ, Nat.add_mul, Nat.mul_comm 2 (A / b), Nat.mul_assoc, Nat.mul_comm 2]
  refine ⟨hb1, hs, by rw [ht, d1], e, ?_, ?_⟩
  · show A / b * 2 ^ (m - k) % 2 ^ (i + 1) = 0
    rw [hi2]; exact Nat.mul_mod_left _ _
  · rw [← e]
    have h1 : topA a m (k + 1) / b * 2 ^ (m - (k + 1)) ≤ a := by
      have h2 : topA a m (k + 1) / b ≤ topA a m (k + 1) := Nat.div_le_self _ _
      have h3 : topA a m (k + 1) * 2 ^ (m - (k + 1)) ≤ a := Nat.div_mul_le_self _ _
      exact Nat.le_trans (Nat.mul_le_mul_right _ h2) h3
    have h4 : 2 ^ m ≤ 2 ^ 256 := Nat.pow_le_pow_right (by decide) hm
    rw [BB_pow]; omega
theorem bin_or_w (a b : Nat) : True := trivial
set_option linter.all false in
theorem div_long (a b : Nat) (ha : a < BB) (hb : b < BB) (hbB : ¬ b < B) (H : Heap) (n : Nat) : ACall Tryz.prog 89 [N a, N b] H n (Ret (.tuple #[N (a / b), N (a % b), .int .i64 (0 : Nat)]) H n) := by
  refine acall_retF mix lw Tryz.func89 ok89 (fun _ _ => Tryz.call89 _ _) rfl ?_
  have bbp := BB_pos
  have hb0 : b ≠ 0 := by have := B_pos; omega
  have hb1 : 0 < b := by omega
  have hm : nbits a ≤ 256 := nbits_le.2 (by rw [← BB_pow]; exact ha)
  have ham := lt_nbits a
  generalize hmm : nbits a = m at *
  have t0 : topA a m 0 = 0 := by rw [← hmm]; exact topA_zero a
  refine wk3 @c89.eq_1 rN @hb0 ?_
  refine AGo_askV (div_short b hb _ _) ?_
  refine wk1 @hbB ?_
  refine AGo_askV (limbs_Bits a ha _ _) ?_
  refine wk2 rN @hmm ?_
  refine AGo_cycleD (α := Nat) 45 71 (fun k => [(44, .int .i64 (k : Nat))]) (fun k H' n' => k ≤ m ∧ n + 4 ≤ n' ∧ Agree n H H' ∧ vcells (N a) = vcells (N a) ∧ H' n = some (.cells (vcells (N a)) 24 (0, 0)) ∧ H' (n + 1) = some (.cells (vcells (N b)) 24 (0, 0)) ∧ H' (n + 2) = some (.cells (vcells (N (topA a m k / b * 2 ^ (m - k)))) 24 (0, 0)) ∧ H' (n + 3) = some (.cells (vcells (N (topA a m k % b))) 24 (0, 0))) (fun k H' n' => n + 4 ≤ n' ∧ Agree n H H' ∧ H' (n + 2) = some (.cells (vcells (N (a / b))) 24 (0, 0)) ∧ H' (n + 3) = some (.cells (vcells (N (a % b))) 24 (0, 0))) (fun k => m - k) (0) ?_ (by simp only [subs_nil, subs_if, lk_if, lk_nil, dropR_nil, dropR_cons, Nat.reduceLT, List.cons_append, List.nil_append, List.elem_nil, List.elem_cons, Nat.reduceBEq, beq_self_eq_true, Bool.true_or, Bool.false_or, Bool.or_true, Bool.or_false, Bool.false_eq_true, ↓reduceIte, if_true, if_false, Nat.reduceEqDiff, and_self, and_true, true_and, eq_self]) ?_ ?_
  · refine ⟨Nat.zero_le _, by omega, agr, rfl, ?_, ?_, ?_, ?_⟩
    · exact up0
    · exact up0
    · simp (disch := first | assumption | omega) only [t0, Nat.zero_div, Nat.zero_mul, upd_same, upd_neq, vcells_N, w_zero]
    · simp (disch := first | assumption | omega) only [t0, Nat.zero_mod, upd_same, upd_neq, vcells_N, w_zero]
  · rintro k H' n' kk ⟨hk, hn, hA, -, f0, f1, f2, f3⟩ hK hS
    simp only [List.cons_append, List.nil_append, dropR_nil, dropR_cons, Nat.reduceLT, ↓reduceIte]
    simp only [vcells_N] at f0 f1 f2 f3
    by_cases hlt : k < m
    · obtain ⟨b1, s1, e1, e2, e3, e4⟩ := q_step a b m k hb1 ham hm hlt
      have hr := Nat.mod_lt (topA a m k) hb1
      have hi : m - 1 - k < 256 := by omega
      have qw := fun c => q_or (q := topA a m k / b * 2 ^ (m - k)) (i := m - 1 - k) (s := (2 * (topA a m k % b) + bitOf a (m - 1 - k)) / b) e3 s1 c
      have q0 := qw 0; have q1 := qw 1; have q2 := qw 2; have q3 := qw 3
      rw [wK0, wK0] at q0; rw [wK1, wK1] at q1; rw [wK2, wK2] at q2; rw [wK3, wK3] at q3
      rw [← e2] at q0 q1 q2 q3
      generalize topA a m k / b * 2 ^ (m - k) = q at *
      refine AGo_turn ?_
      refine wk6 rN @hlt @f0 @f1 @f2 @f3 ?_
      refine AGo_askV (limbs_Bit a (m - 1 - k) ha hi _ _) ?_
      refine wk5 rN @f0 @f1 @f2 @f3 ?_
      refine AGo_askV (div_next _ _ _ hr b1 hb _ _) ?_
      simp (disch := first | assumption | omega) only [N_fold, N_zero, N_one, f0, f1, f2, f3, ← e1, W, sim, ↓reduceIte, Nat.reduceAdd, Nat.reduceSub, Nat.reduceMul, Nat.reduceLT, Nat.reduceLeDiff, Nat.reduceEqDiff, Nat.reduceBEq, Nat.reduceBNe, Nat.reduceMod, Nat.reduceDiv]
      have hc : (m - 1 - k) / 64 = 0 ∨ (m - 1 - k) / 64 = 1 ∨ (m - 1 - k) / 64 = 2 ∨ (m - 1 - k) / 64 = 3 := by omega
      rcases hc with hc | hc | hc | hc
      · rw [hc] at q0 q1 q2 q3
        simp only [Nat.reduceEqDiff, ↓reduceIte] at q0 q1 q2 q3
        refine wk5 @f0 @f1 @f2 @f3 @hc ?_
        refine AGo_le ?_ (hS (k + 1) _ _ ⟨by omega, by omega, agr, rfl, ?_, ?_, ?_, ?_⟩ (by omega))
        · simp only [subs_nil, subs_if, lk_if, lk_nil, dropR_nil, dropR_cons, Nat.reduceLT, List.cons_append, List.nil_append, List.elem_nil, List.elem_cons, Nat.reduceBEq, beq_self_eq_true, Bool.true_or, Bool.false_or, Bool.or_true, Bool.or_false, Bool.false_eq_true, ↓reduceIte, if_true, if_false, Nat.reduceEqDiff, and_self, and_true, true_and, eq_self]
        · exact up1 @f0
        · exact up1 @f1
        · exact up5 @f2 @q0 @q1 @q2 @q3
        · exact up1 @f3
      · rw [hc] at q0 q1 q2 q3
        simp only [Nat.reduceEqDiff, ↓reduceIte] at q0 q1 q2 q3
        refine wk5 @f0 @f1 @f2 @f3 @hc ?_
        refine AGo_le ?_ (hS (k + 1) _ _ ⟨by omega, by omega, agr, rfl, ?_, ?_, ?_, ?_⟩ (by omega))
        · simp only [subs_nil, subs_if, lk_if, lk_nil, dropR_nil, dropR_cons, Nat.reduceLT, List.cons_append, List.nil_append, List.elem_nil, List.elem_cons, Nat.reduceBEq, beq_self_eq_true, Bool.true_or, Bool.false_or, Bool.or_true, Bool.or_false, Bool.false_eq_true, ↓reduceIte, if_true, if_false, Nat.reduceEqDiff, and_self, and_true, true_and, eq_self]
        · exact up1 @f0
        · exact up1 @f1
        · exact up5 @f2 @q0 @q1 @q2 @q3
        · exact up1 @f3
      · rw [hc] at q0 q1 q2 q3
        simp only [Nat.reduceEqDiff, ↓reduceIte] at q0 q1 q2 q3
        refine wk5 @f0 @f1 @f2 @f3 @hc ?_
        refine AGo_le ?_ (hS (k + 1) _ _ ⟨by omega, by omega, agr, rfl, ?_, ?_, ?_, ?_⟩ (by omega))
        · simp only [subs_nil, subs_if, lk_if, lk_nil, dropR_nil, dropR_cons, Nat.reduceLT, List.cons_append, List.nil_append, List.elem_nil, List.elem_cons, Nat.reduceBEq, beq_self_eq_true, Bool.true_or, Bool.false_or, Bool.or_true, Bool.or_false, Bool.false_eq_true, ↓reduceIte, if_true, if_false, Nat.reduceEqDiff, and_self, and_true, true_and, eq_self]
        · exact up1 @f0
        · exact up1 @f1
        · exact up5 @f2 @q0 @q1 @q2 @q3
        · exact up1 @f3
      · rw [hc] at q0 q1 q2 q3
        simp only [Nat.reduceEqDiff, ↓reduceIte] at q0 q1 q2 q3
        refine wk5 @f0 @f1 @f2 @f3 @hc ?_
        refine AGo_le ?_ (hS (k + 1) _ _ ⟨by omega, by omega, agr, rfl, ?_, ?_, ?_, ?_⟩ (by omega))
        · simp only [subs_nil, subs_if, lk_if, lk_nil, dropR_nil, dropR_cons, Nat.reduceLT, List.cons_append, List.nil_append, List.elem_nil, List.elem_cons, Nat.reduceBEq, beq_self_eq_true, Bool.true_or, Bool.false_or, Bool.or_true, Bool.or_false, Bool.false_eq_true, ↓reduceIte, if_true, if_false, Nat.reduceEqDiff, and_self, and_true, true_and, eq_self]
        · exact up1 @f0
        · exact up1 @f1
        · exact up5 @f2 @q0 @q1 @q2 @q3
        · exact up1 @f3
    · have hkm : k = m := by omega
      subst hkm
      rw [topA_all, Nat.sub_self, Nat.pow_zero, Nat.mul_one] at f2
      rw [topA_all] at f3
      refine AGo_turn ?_
      refine wk6 rN @hlt @f0 @f1 @f2 @f3 ?_
      refine AGo_markL ?_ (hK k _ _ ⟨by omega, agr, ?_, ?_⟩)
      · simp only [subs_nil, subs_if, lk_if, lk_nil, dropR_nil, dropR_cons, Nat.reduceLT, List.cons_append, List.nil_append, List.elem_nil, List.elem_cons, Nat.reduceBEq, beq_self_eq_true, Bool.true_or, Bool.false_or, Bool.or_true, Bool.or_false, Bool.false_eq_true, ↓reduceIte, if_true, if_false, Nat.reduceEqDiff, and_self, and_true, true_and, eq_self]
      · exact up1 @f2
      · exact up1 @f3
  rintro k H' n' ⟨hn, hA, f2, f3⟩
  simp only [List.cons_append, List.nil_append, dropR_nil, dropR_cons, Nat.reduceLT, ↓reduceIte]
  simp only [vcells_N] at f2 f3
  refine wk3 rN @f2 @f3 ?_
  exact ⟨rfl, agr⟩
end Go.Proofs.YtcjchcommaahdaaGreat

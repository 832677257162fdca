/- The document's divisions. The document's wide remainders, and the greatest common divisor. No conditions. -/
import Derived.Test.YtcjchcommaahdaaGreatQ12
import Derived.Test.YtcjchcommaahdaaGreatQ19
set_option maxRecDepth 20000
set_option maxHeartbeats 4000000
set_option linter.all false
namespace Go.Proofs.YtcjchcommaahdaaGreat
open Go.Ab
theorem w0_add (X bit : Nat) : (w0 X + bit) % B = w0 (X + bit) := by rw [w0_def, w0_def, Nat.mod_add_mod]
theorem word_iff {a : Nat} (ha : a < BB) : decide (a < B) = (decide (w1 a = 0) && (decide (w2 a = 0) && decide (w3 a = 0))) := by
  have e := pack_w a; rw [Nat.mod_eq_of_lt ha] at e
  by_cases h : a < B
  · obtain ⟨-, h1, h2, h3⟩ := w_small h
    simp [h, h1, h2, h3]
  · rw [decide_eq_false h]
    by_cases h1 : w1 a = 0
    · by_cases h2 : w2 a = 0
      · by_cases h3 : w3 a = 0
        · rw [h1, h2, h3, pack_def] at e
          have := w0_lt a
          exact absurd (show a < B by omega) h
        · simp [h3]
      · simp [h2]
    · simp [h1]
theorem fl4 (f : Nat → Nat) : fl 4 f = [.int .u64 (f 0 : Nat), .int .u64 (f 1 : Nat), .int .u64 (f 2 : Nat), .int .u64 (f 3 : Nat)] := rfl
theorem q_add {q i : Nat} (hd : q % 2 ^ (i + 1) = 0) (k : Nat) : wK (q + 2 ^ i) k = if k = i / 64 then (wK q k + 2 ^ (i % 64) % B) % B else wK q k := by
  by_cases h : k = i / 64
  · rw [if_pos h]
    unfold wK
    rw [← Nat.add_mod]
    have e : 2 ^ i = 2 ^ (64 * k) * 2 ^ (i % 64) := by rw [← Nat.pow_add]; congr 1; omega
    rw [e, Nat.add_mul_div_left _ _ (Nat.pow_pos (by decide))]
  · have := q_or hd (Nat.le_refl 1) k
    rw [Nat.one_mul] at this
    rw [this, if_neg h, if_neg h]
theorem q_fl {q i : Nat} (hd : q % 2 ^ (i + 1) = 0) : fl 4 (fun j => if j = i / 64 then (wK q (i / 64) + 2 ^ (i % 64) % B) % B else wK q j) = fl 4 (wK (q + 2 ^ i)) := by
  refine fl_congr fun j _ => ?_
  rw [q_add hd]
  by_cases h : j = i / 64
  · rw [if_pos h, if_pos h, h]
  · rw [if_neg h, if_neg h]
theorem q_stepJ (a b j : Nat) (hb : 0 < b) (ha : a < BB) (hj : j < 256) :
    let A := a / 2 ^ (j + 1); let bit := bitOf a j; let q := A / b * 2 ^ (j + 1); let s := (2 * (A % b) + bit) / b
    bit ≤ 1 ∧ s ≤ 1 ∧ a / 2 ^ j % b = (2 * (A % b) + bit) % b ∧ a / 2 ^ j / b * 2 ^ j = q + s * 2 ^ j ∧ q % 2 ^ (j + 1) = 0 ∧ q + s * 2 ^ j < BB := by
  have h := q_step a b 256 (255 - j) hb (by rw [← BB_pow]; exact ha) (Nat.le_refl _) (by omega)
  simp only [topA, show 256 - (255 - j) = j + 1 by omega, show 256 - 1 - (255 - j) = j by omega, show 256 - (255 - j + 1) = j by omega] at h
  exact h
theorem top256 {a : Nat} (ha : a < BB) : a / 2 ^ 256 = 0 := Nat.div_eq_of_lt (by rw [← BB_pow]; exact ha)

theorem r3_Word (a : Nat) (ha : a < BB) (H : Heap) (n : Nat) : ACall Tryz.prog 111 [N a] H n (Ret (.bool (decide (a < B))) H n) := by
  refine acall_retF mix lw Tryz.func111 ok111 (fun _ _ => Tryz.call111 _ _) rfl ?_
  rw [word_iff ha]
  by_cases h1 : w1 a = 0
  · by_cases h2 : w2 a = 0
    · by_cases h3 : w3 a = 0
      · refine wk4 @c111.eq_1 @h1 @h2 @h3 ?_
        exact ⟨rfl, agr⟩
      · refine wk4 @c111.eq_1 @h1 @h2 @h3 ?_
        exact ⟨rfl, agr⟩
    · refine wk3 @c111.eq_1 @h1 @h2 ?_
      exact ⟨rfl, agr⟩
  · refine wk2 @c111.eq_1 @h1 ?_
    exact ⟨rfl, agr⟩

theorem r3_twice (r bit m : Nat) (hr : r < m) (hb : bit ≤ 1) (hm : m < BB) (H : Heap) (n : Nat) : ACall Tryz.prog 150 [N r, .int .u64 (bit : Nat), N m] H n (Ret (N ((2 * r + bit) % m)) H n) := by
  refine acall_retF mix lw Tryz.func150 ok150 (fun _ _ => Tryz.call150 _ _) rfl ?_
  have hrB : r < BB := Nat.lt_trans hr hm
  obtain ⟨X, d, hX, hd, hX1, hX2, hc⟩ := next_cases hr hb hm
  obtain ⟨-, o1, o2, o3⟩ := even_or hX2 hb
  have o0 := w0_add X bit
  generalize hq : (2 * r + bit) % m = q at *
  generalize hs : (2 * r + bit) / m = s at *
  generalize hY : X + bit = Y at *
  refine wk2 @c150.eq_1 rN ?_
  refine AGo_askV (r2_Add r r hrB hrB _ _) ?_
  refine wk7 rN @hX @hd @o0 @o1 @o2 @o3 ?_
  rcases hc with ⟨rfl, h1, rfl⟩ | ⟨rfl, h0, h1, rfl⟩ | ⟨rfl, h0, rfl, rfl⟩
  · refine wk5 rN @o0 @o1 @o2 @o3 ?_
    refine AGo_askV (r2_Sub Y m hX1 hm _ _) ?_
    refine wk6 rN @o0 @o1 @o2 @o3 @h1 ?_
    exact ⟨rfl, agr⟩
  · refine wk5 rN @o0 @o1 @o2 @o3 ?_
    refine AGo_askV (r2_Cmp Y m hX1 hm _ _) ?_
    simp (disch := first | assumption | omega) only [N_fold, N_zero, N_one, cmp_geq, Nat.le_of_not_lt h0, o0, o1, o2, o3, W, sim, ↓reduceIte, Nat.reduceAdd, Nat.reduceSub, Nat.reduceMul, Nat.reduceLT, Nat.reduceLeDiff, Nat.reduceEqDiff, Nat.reduceBEq, Nat.reduceBNe, Nat.reduceMod, Nat.reduceDiv]
    refine AGo_askV (r2_Sub Y m hX1 hm _ _) ?_
    refine wk6 rN @o0 @o1 @o2 @o3 @h1 ?_
    exact ⟨rfl, agr⟩
  · have h2 : ¬ m ≤ Y := by omega
    refine wk5 rN @o0 @o1 @o2 @o3 ?_
    refine AGo_askV (r2_Cmp Y m hX1 hm _ _) ?_
    refine wk7 rN @cmp_geq @h2 @o0 @o1 @o2 @o3 ?_
    exact ⟨rfl, agr⟩

theorem r3_div_zero (a : Nat) (ha : a < BB) (H : Heap) (n : Nat) : ACall Tryz.prog 118 [N a, N 0] H n (Ret (.tuple #[N 0, N 0, .int .i64 (1 : Nat)]) H n) := by
  refine acall_retF mix lw Tryz.func118 ok118 (fun _ _ => Tryz.call118 _ _) rfl ?_
  have bbp := BB_pos
  refine wk2 @c118.eq_1 rN ?_
  exact ⟨rfl, agr⟩
theorem bin_quo_lt {a b : Nat} (h : b ≠ 0) (ha : a < B) : binInt .quo .u64 a .u64 b = some (.int .u64 (a / b : Nat)) := by
  rw [bin_quo_u64 _ _ h, Nat.mod_eq_of_lt (Nat.lt_of_le_of_lt (Nat.div_le_self _ _) ha)]
theorem r3_div_one (a b : Nat) (hb0 : b ≠ 0) (ha : a < B) (hb : b < B) (H : Heap) (n : Nat) : ACall Tryz.prog 118 [N a, N b] H n (Ret (.tuple #[N (a / b), N (a % b), .int .i64 (0 : Nat)]) H n) := by
  refine acall_retF mix lw Tryz.func118 ok118 (fun _ _ => Tryz.call118 _ _) rfl ?_
  have hBB : B < BB := by rw [B_eq, BB_eq]; decide
  have haB : a < BB := Nat.lt_trans ha hBB
  have hbB : b < BB := Nat.lt_trans hb hBB
  have hq : a / b < B := Nat.lt_of_le_of_lt (Nat.div_le_self _ _) ha
  have hr : a % b < B := Nat.lt_of_le_of_lt (Nat.mod_le _ _) ha
  obtain ⟨s0, -⟩ := w_small ha
  obtain ⟨t0, -⟩ := w_small hb
  refine wk3 @c118.eq_1 rN @hb0 ?_
  refine AGo_askV (r3_Word a haB _ _) ?_
  refine wk2 rN @ha ?_
  refine AGo_askV (r3_Word b hbB _ _) ?_
  refine wk6 rN @hb @s0 @t0 @bin_quo_lt @bin_rem_u64 ?_
  repeat (first | (refine AGo_askV (r2_Of (a / b) hq _ _ ) ?_; refine wk1 rN ?_) | (refine AGo_askV (r2_Of (a % b) hr _ _ ) ?_; refine wk1 rN ?_))
  exact ⟨rfl, agr⟩
theorem r3_div_long (a b : Nat) (ha : a < BB) (hb : b < BB) (hb0 : b ≠ 0) (hw : ¬ (a < B ∧ b < B)) (H : Heap) (n : Nat) : ACall Tryz.prog 118 [N a, N b] H n (Ret (.tuple #[N (a / b), N (a % b), .int .i64 (0 : Nat)]) H n) := by
  refine acall_retF mix lw Tryz.func118 ok118 (fun _ _ => Tryz.call118 _ _) rfl ?_
  have bbp := BB_pos
  have hb1 : 0 < b := by omega
  have t0 := top256 ha
  by_cases haw : a < B
  · have hbw : ¬ b < B := fun h => hw ⟨haw, h⟩
    refine wk3 @c118.eq_1 rN @hb0 ?_
    refine AGo_askV (r3_Word a ha _ _) ?_
    refine wk2 rN @haw ?_
    refine AGo_askV (r3_Word b hb _ _) ?_
    refine wk2 rN @hbw ?_
    refine AGo_cycleD (α := Nat) 10 80 (fun j => [(9, .int .i64 (predV j))]) (fun j H' n' => j ≤ 256 ∧ n + 16 ≤ n' ∧ Agree n H H' ∧ H' n = some (.cells (vcells (N a)) 24 (0, 0)) ∧ H' (n + 1) = some (.cells (vcells (N b)) 24 (0, 0)) ∧ H' (n + 2) = some (.cells (vcells (N 0)) 24 (0, 0)) ∧ H' (n + 3) = some (.cells (vcells (N 0)) 24 (0, 0)) ∧ H' (n + 14) = some (.cells (fl 4 (wK (a / 2 ^ j / b * 2 ^ j))) 24 (0, 0)) ∧ H' (n + 15) = some (.cells (vcells (N (a / 2 ^ j % b))) 24 (0, 0))) (fun j H' n' => n + 16 ≤ n' ∧ Agree n H H' ∧ H' (n + 2) = some (.cells (vcells (N 0)) 24 (0, 0)) ∧ H' (n + 3) = some (.cells (vcells (N 0)) 24 (0, 0)) ∧ H' (n + 14) = some (.cells (vcells (N (a / b))) 24 (0, 0)) ∧ H' (n + 15) = some (.cells (vcells (N (a % b))) 24 (0, 0))) (fun j => j) (256) ?_ (by simp only [pv256, subs_nil, subs_if, lk_if, lk_nil, dropR_nil, dropR_cons, Nat.reduceLT, List.cons_append, List.nil_append, List.elem_nil, List.elem_cons, Nat.reduceBEq, beq_self_eq_true, Bool.true_or, Bool.false_or, Bool.or_true, Bool.or_false, Bool.false_eq_true, ↓reduceIte, if_true, if_false, Nat.reduceEqDiff, and_self, and_true, true_and, eq_self]) ?_ ?_
    · refine ⟨Nat.le_refl _, by omega, agr, ?_, ?_, ?_, ?_, ?_, ?_⟩
      · exact up0
      · exact up0
      · exact up1 @vcells_N0
      · exact up1 @vcells_N0
      · simp (disch := first | assumption | omega) only [t0, Nat.zero_div, Nat.zero_mul, fl_N, vcells_N0, upd_same, upd_neq, vcells_N, w_zero]
      · simp (disch := first | assumption | omega) only [t0, Nat.zero_mod, vcells_N0, upd_same, upd_neq, vcells_N, w_zero]
    · rintro j H' n' kk ⟨hj, hn, hA, f0, f1, f2, f3, f4, f5⟩ hK hS
      simp only [List.cons_append, List.nil_append, dropR_nil, dropR_cons, Nat.reduceLT, ↓reduceIte]
      simp only [vcells_N] at f0 f1 f5
      cases j with
      | zero =>
        refine AGo_turn ?_
        refine wk1 @predV_zero ?_
        refine AGo_markL ?_ (hK 0 _ _ ⟨by omega, agr, f2, f3, ?_, ?_⟩)
        · simp only [predV_zero, subs_nil, subs_if, lk_if, lk_nil, dropR_nil, dropR_cons, Nat.reduceLT, List.cons_append, List.nil_append, List.elem_nil, List.elem_cons, Nat.reduceBEq, beq_self_eq_true, Bool.true_or, Bool.false_or, Bool.or_true, Bool.or_false, Bool.false_eq_true, ↓reduceIte, if_true, if_false, Nat.reduceEqDiff, and_self, and_true, true_and, eq_self]
        · rw [f4, fl_N]; simp
        · rw [f5]; simp [vcells_N]
      | succ j =>
        obtain ⟨b1, s1, e1, e2, e3, e4⟩ := q_stepJ a b j hb1 ha (by omega)
        have hr := Nat.mod_lt (a / 2 ^ (j + 1)) hb1
        have hrB : a / 2 ^ (j + 1) % b < BB := by omega
        have hj2 : j < 1024 := by omega
        have hj4 : j / 64 < 4 := by omega
        have hqf := q_fl e3
        obtain ⟨X, d, hX, hd, hX1, hX2, hc⟩ := next_cases hr b1 hb
        obtain ⟨-, o1, o2, o3⟩ := even_or hX2 b1
        have o0 := w0_add X (bitOf a j)
        rw [← e1] at hc
        have e1' := e1
        generalize a / 2 ^ (j + 1) / b * 2 ^ (j + 1) = q at *
        generalize a / 2 ^ (j + 1) % b = r at *
        generalize (2 * r + bitOf a j) / b = s at *
        generalize hr2 : a / 2 ^ j % b = r2 at *
        generalize hq2 : a / 2 ^ j / b * 2 ^ j = q2 at *
        refine AGo_turn ?_
        refine wk7 rN @predV_succ @Nat.zero_le @f0 @f1 @f4 @f5 ?_
        refine AGo_askV (r2_Add r r hrB hrB _ _) ?_
        refine wk7 rN @hX @hd @f0 @f1 @f4 @f5 ?_
        refine AGo_askV (r2_Bit a j (by omega) _ _) ?_
        refine wk9 rN @f0 @f1 @f4 @f5 @o0 @o1 @o2 @o3 ?_
        generalize hY : X + bitOf a j = Y at *
        rcases hc with ⟨rfl, h1, rfl⟩ | ⟨rfl, h0, h1, rfl⟩ | ⟨rfl, h0, h1, rfl⟩
        · refine wk3 rN @f0 @f1 ?_
          refine AGo_askV (r2_Sub Y b hX1 hb _ _) ?_
          refine wl10 rN rL @hj4 @f0 @f1 @f4 @h1 @bin_sub_pred @min_lt @Nat.one_mul ?_
          refine AGo_le ?_ (hS j _ _ ⟨by omega, by omega, agr, ?_, ?_, ?_, ?_, ?_, ?_⟩ (by omega))
          · simp only [subs_nil, subs_if, lk_if, lk_nil, dropR_nil, dropR_cons, Nat.reduceLT, List.cons_append, List.nil_append, List.elem_nil, List.elem_cons, Nat.reduceBEq, beq_self_eq_true, Bool.true_or, Bool.false_or, Bool.or_true, Bool.or_false, Bool.false_eq_true, ↓reduceIte, if_true, if_false, Nat.reduceEqDiff, and_self, and_true, true_and, eq_self]
          · exact up1 @f0
          · exact up1 @f1
          · exact up1 @f2
          · exact up1 @f3
          · simp (disch := first | assumption | omega) only [hq2, e2, hqf, Nat.one_mul, upd_same, upd_neq, vcells_N, w_zero]
          · simp (disch := first | assumption | omega) only [hr2, upd_same, upd_neq, vcells_N, w_zero]
            rfl
        · refine wk3 rN @f0 @f1 ?_
          refine AGo_askV (r2_Cmp Y b hX1 hb _ _) ?_
          simp (disch := first | assumption | omega) only [N_fold, N_zero, N_one, cmp_geq, Nat.le_of_not_lt h0, f0, f1, W, sim, ↓reduceIte, Nat.reduceAdd, Nat.reduceSub, Nat.reduceMul, Nat.reduceLT, Nat.reduceLeDiff, Nat.reduceEqDiff, Nat.reduceBEq, Nat.reduceBNe, Nat.reduceMod, Nat.reduceDiv]
          refine AGo_askV (r2_Sub Y b hX1 hb _ _) ?_
          refine wl10 rN rL @hj4 @f0 @f1 @f4 @h1 @bin_sub_pred @min_lt @Nat.one_mul ?_
          refine AGo_le ?_ (hS j _ _ ⟨by omega, by omega, agr, ?_, ?_, ?_, ?_, ?_, ?_⟩ (by omega))
          · simp only [subs_nil, subs_if, lk_if, lk_nil, dropR_nil, dropR_cons, Nat.reduceLT, List.cons_append, List.nil_append, List.elem_nil, List.elem_cons, Nat.reduceBEq, beq_self_eq_true, Bool.true_or, Bool.false_or, Bool.or_true, Bool.or_false, Bool.false_eq_true, ↓reduceIte, if_true, if_false, Nat.reduceEqDiff, and_self, and_true, true_and, eq_self]
          · exact up1 @f0
          · exact up1 @f1
          · exact up1 @f2
          · exact up1 @f3
          · simp (disch := first | assumption | omega) only [hq2, e2, hqf, Nat.one_mul, upd_same, upd_neq, vcells_N, w_zero]
          · simp (disch := first | assumption | omega) only [hr2, upd_same, upd_neq, vcells_N, w_zero]
            rfl
        · have h2 : ¬ b ≤ Y := by omega
          refine wk3 rN @f0 @f1 ?_
          refine AGo_askV (r2_Cmp Y b hX1 hb _ _) ?_
          refine wk6 rN @cmp_geq @h2 @f0 @f1 @bin_sub_pred ?_
          refine AGo_le ?_ (hS j _ _ ⟨by omega, by omega, agr, ?_, ?_, ?_, ?_, ?_, ?_⟩ (by omega))
          · simp only [subs_nil, subs_if, lk_if, lk_nil, dropR_nil, dropR_cons, Nat.reduceLT, List.cons_append, List.nil_append, List.elem_nil, List.elem_cons, Nat.reduceBEq, beq_self_eq_true, Bool.true_or, Bool.false_or, Bool.or_true, Bool.or_false, Bool.false_eq_true, ↓reduceIte, if_true, if_false, Nat.reduceEqDiff, and_self, and_true, true_and, eq_self]
          · exact up1 @f0
          · exact up1 @f1
          · exact up1 @f2
          · exact up1 @f3
          · simp (disch := first | assumption | omega) only [f4, hq2, e2, Nat.zero_mul, Nat.add_zero, upd_same, upd_neq, vcells_N, w_zero]
          · exact up2 @hr2 @h1
    rintro j H' n' ⟨hn, hA, f2, f3, f4, f5⟩
    simp only [List.cons_append, List.nil_append, dropR_nil, dropR_cons, Nat.reduceLT, ↓reduceIte]
    simp only [vcells_N, w_zero] at f2 f3 f4 f5
    refine wk5 rN @f2 @f3 @f4 @f5 ?_
    exact ⟨rfl, agr⟩

  · refine wk3 @c118.eq_1 rN @hb0 ?_
    refine AGo_askV (r3_Word a ha _ _) ?_
    refine wk2 rN @haw ?_
    refine AGo_cycleD (α := Nat) 10 80 (fun j => [(9, .int .i64 (predV j))]) (fun j H' n' => j ≤ 256 ∧ n + 16 ≤ n' ∧ Agree n H H' ∧ H' n = some (.cells (vcells (N a)) 24 (0, 0)) ∧ H' (n + 1) = some (.cells (vcells (N b)) 24 (0, 0)) ∧ H' (n + 2) = some (.cells (vcells (N 0)) 24 (0, 0)) ∧ H' (n + 3) = some (.cells (vcells (N 0)) 24 (0, 0)) ∧ H' (n + 14) = some (.cells (fl 4 (wK (a / 2 ^ j / b * 2 ^ j))) 24 (0, 0)) ∧ H' (n + 15) = some (.cells (vcells (N (a / 2 ^ j % b))) 24 (0, 0))) (fun j H' n' => n + 16 ≤ n' ∧ Agree n H H' ∧ H' (n + 2) = some (.cells (vcells (N 0)) 24 (0, 0)) ∧ H' (n + 3) = some (.cells (vcells (N 0)) 24 (0, 0)) ∧ H' (n + 14) = some (.cells (vcells (N (a / b))) 24 (0, 0)) ∧ H' (n + 15) = some (.cells (vcells (N (a % b))) 24 (0, 0))) (fun j => j) (256) ?_ (by simp only [pv256, subs_nil, subs_if, lk_if, lk_nil, dropR_nil, dropR_cons, Nat.reduceLT, List.cons_append, List.nil_append, List.elem_nil, List.elem_cons, Nat.reduceBEq, beq_self_eq_true, Bool.true_or, Bool.false_or, Bool.or_true, Bool.or_false, Bool.false_eq_true, ↓reduceIte, if_true, if_false, Nat.reduceEqDiff, and_self, and_true, true_and, eq_self]) ?_ ?_
    · refine ⟨Nat.le_refl _, by omega, agr, ?_, ?_, ?_, ?_, ?_, ?_⟩
      · exact up0
      · exact up0
      · exact up1 @vcells_N0
      · exact up1 @vcells_N0
      · simp (disch := first | assumption | omega) only [t0, Nat.zero_div, Nat.zero_mul, fl_N, vcells_N0, upd_same, upd_neq, vcells_N, w_zero]
      · simp (disch := first | assumption | omega) only [t0, Nat.zero_mod, vcells_N0, upd_same, upd_neq, vcells_N, w_zero]
    · rintro j H' n' kk ⟨hj, hn, hA, f0, f1, f2, f3, f4, f5⟩ hK hS
      simp only [List.cons_append, List.nil_append, dropR_nil, dropR_cons, Nat.reduceLT, ↓reduceIte]
      simp only [vcells_N] at f0 f1 f5
      cases j with
      | zero =>
        refine AGo_turn ?_
        refine wk1 @predV_zero ?_
        refine AGo_markL ?_ (hK 0 _ _ ⟨by omega, agr, f2, f3, ?_, ?_⟩)
        · simp only [predV_zero, subs_nil, subs_if, lk_if, lk_nil, dropR_nil, dropR_cons, Nat.reduceLT, List.cons_append, List.nil_append, List.elem_nil, List.elem_cons, Nat.reduceBEq, beq_self_eq_true, Bool.true_or, Bool.false_or, Bool.or_true, Bool.or_false, Bool.false_eq_true, ↓reduceIte, if_true, if_false, Nat.reduceEqDiff, and_self, and_true, true_and, eq_self]
        · rw [f4, fl_N]; simp
        · rw [f5]; simp [vcells_N]
      | succ j =>
        obtain ⟨b1, s1, e1, e2, e3, e4⟩ := q_stepJ a b j hb1 ha (by omega)
        have hr := Nat.mod_lt (a / 2 ^ (j + 1)) hb1
        have hrB : a / 2 ^ (j + 1) % b < BB := by omega
        have hj2 : j < 1024 := by omega
        have hj4 : j / 64 < 4 := by omega
        have hqf := q_fl e3
        obtain ⟨X, d, hX, hd, hX1, hX2, hc⟩ := next_cases hr b1 hb
        obtain ⟨-, o1, o2, o3⟩ := even_or hX2 b1
        have o0 := w0_add X (bitOf a j)
        rw [← e1] at hc
        have e1' := e1
        generalize a / 2 ^ (j + 1) / b * 2 ^ (j + 1) = q at *
        generalize a / 2 ^ (j + 1) % b = r at *
        generalize (2 * r + bitOf a j) / b = s at *
        generalize hr2 : a / 2 ^ j % b = r2 at *
        generalize hq2 : a / 2 ^ j / b * 2 ^ j = q2 at *
        refine AGo_turn ?_
        refine wk7 rN @predV_succ @Nat.zero_le @f0 @f1 @f4 @f5 ?_
        refine AGo_askV (r2_Add r r hrB hrB _ _) ?_
        refine wk7 rN @hX @hd @f0 @f1 @f4 @f5 ?_
        refine AGo_askV (r2_Bit a j (by omega) _ _) ?_
        refine wk9 rN @f0 @f1 @f4 @f5 @o0 @o1 @o2 @o3 ?_
        generalize hY : X + bitOf a j = Y at *
        rcases hc with ⟨rfl, h1, rfl⟩ | ⟨rfl, h0, h1, rfl⟩ | ⟨rfl, h0, h1, rfl⟩
        · refine wk3 rN @f0 @f1 ?_
          refine AGo_askV (r2_Sub Y b hX1 hb _ _) ?_
          refine wl10 rN rL @hj4 @f0 @f1 @f4 @h1 @bin_sub_pred @min_lt @Nat.one_mul ?_
          refine AGo_le ?_ (hS j _ _ ⟨by omega, by omega, agr, ?_, ?_, ?_, ?_, ?_, ?_⟩ (by omega))
          · simp only [subs_nil, subs_if, lk_if, lk_nil, dropR_nil, dropR_cons, Nat.reduceLT, List.cons_append, List.nil_append, List.elem_nil, List.elem_cons, Nat.reduceBEq, beq_self_eq_true, Bool.true_or, Bool.false_or, Bool.or_true, Bool.or_false, Bool.false_eq_true, ↓reduceIte, if_true, if_false, Nat.reduceEqDiff, and_self, and_true, true_and, eq_self]
          · exact up1 @f0
          · exact up1 @f1
          · exact up1 @f2
          · exact up1 @f3
          · simp (disch := first | assumption | omega) only [hq2, e2, hqf, Nat.one_mul, upd_same, upd_neq, vcells_N, w_zero]
          · simp (disch := first | assumption | omega) only [hr2, upd_same, upd_neq, vcells_N, w_zero]
            rfl
        · refine wk3 rN @f0 @f1 ?_
          refine AGo_askV (r2_Cmp Y b hX1 hb _ _) ?_
          simp (disch := first | assumption | omega) only [N_fold, N_zero, N_one, cmp_geq, Nat.le_of_not_lt h0, f0, f1, W, sim, ↓reduceIte, Nat.reduceAdd, Nat.reduceSub, Nat.reduceMul, Nat.reduceLT, Nat.reduceLeDiff, Nat.reduceEqDiff, Nat.reduceBEq, Nat.reduceBNe, Nat.reduceMod, Nat.reduceDiv]
          refine AGo_askV (r2_Sub Y b hX1 hb _ _) ?_
          refine wl10 rN rL @hj4 @f0 @f1 @f4 @h1 @bin_sub_pred @min_lt @Nat.one_mul ?_
          refine AGo_le ?_ (hS j _ _ ⟨by omega, by omega, agr, ?_, ?_, ?_, ?_, ?_, ?_⟩ (by omega))
          · simp only [subs_nil, subs_if, lk_if, lk_nil, dropR_nil, dropR_cons, Nat.reduceLT, List.cons_append, List.nil_append, List.elem_nil, List.elem_cons, Nat.reduceBEq, beq_self_eq_true, Bool.true_or, Bool.false_or, Bool.or_true, Bool.or_false, Bool.false_eq_true, ↓reduceIte, if_true, if_false, Nat.reduceEqDiff, and_self, and_true, true_and, eq_self]
          · exact up1 @f0
          · exact up1 @f1
          · exact up1 @f2
          · exact up1 @f3
          · simp (disch := first | assumption | omega) only [hq2, e2, hqf, Nat.one_mul, upd_same, upd_neq, vcells_N, w_zero]
          · simp (disch := first | assumption | omega) only [hr2, upd_same, upd_neq, vcells_N, w_zero]
            rfl
        · have h2 : ¬ b ≤ Y := by omega
          refine wk3 rN @f0 @f1 ?_
          refine AGo_askV (r2_Cmp Y b hX1 hb _ _) ?_
          refine wk6 rN @cmp_geq @h2 @f0 @f1 @bin_sub_pred ?_
          refine AGo_le ?_ (hS j _ _ ⟨by omega, by omega, agr, ?_, ?_, ?_, ?_, ?_, ?_⟩ (by omega))
          · simp only [subs_nil, subs_if, lk_if, lk_nil, dropR_nil, dropR_cons, Nat.reduceLT, List.cons_append, List.nil_append, List.elem_nil, List.elem_cons, Nat.reduceBEq, beq_self_eq_true, Bool.true_or, Bool.false_or, Bool.or_true, Bool.or_false, Bool.false_eq_true, ↓reduceIte, if_true, if_false, Nat.reduceEqDiff, and_self, and_true, true_and, eq_self]
          · exact up1 @f0
          · exact up1 @f1
          · exact up1 @f2
          · exact up1 @f3
          · simp (disch := first | assumption | omega) only [f4, hq2, e2, Nat.zero_mul, Nat.add_zero, upd_same, upd_neq, vcells_N, w_zero]
          · exact up2 @hr2 @h1
    rintro j H' n' ⟨hn, hA, f2, f3, f4, f5⟩
    simp only [List.cons_append, List.nil_append, dropR_nil, dropR_cons, Nat.reduceLT, ↓reduceIte]
    simp only [vcells_N, w_zero] at f2 f3 f4 f5
    refine wk5 rN @f2 @f3 @f4 @f5 ?_
    exact ⟨rfl, agr⟩

theorem r3_div (a b : Nat) (ha : a < BB) (hb : b < BB) (hb0 : b ≠ 0) (H : Heap) (n : Nat) : ACall Tryz.prog 118 [N a, N b] H n (Ret (.tuple #[N (a / b), N (a % b), .int .i64 (0 : Nat)]) H n) := by
  by_cases h : a < B ∧ b < B
  · exact r3_div_one a b hb0 h.1 h.2 H n
  · exact r3_div_long a b ha hb hb0 h H n
end Go.Proofs.YtcjchcommaahdaaGreat
namespace Go.Proofs.YtcjchcommaahdaaGreat
open Go.Ab
theorem predV_pos {j : Nat} (h : 1 ≤ j) : predV j = ((j - 1 : Nat) : Int) := by unfold predV; omega
theorem pv8 : predV 8 = ((7 : Nat) : Int) := rfl
theorem r3_wide_one (lo hi m : Nat) (hl : lo < BB) (hh : hi < BB) (hm0 : m ≠ 0) (hm : m < B) (H : Heap) (n : Nat) : ACall Tryz.prog 125 [N lo, N hi, N m] H n (Ret (.tuple #[N ((hi * BB + lo) % m), .int .i64 (0 : Nat)]) H n) := by
  refine acall_retF mix lw Tryz.func125 ok125 (fun _ _ => Tryz.call125 _ _) rfl ?_
  have bbp := BB_pos
  have hm1 : 0 < m := by omega
  have hmB : m < BB := Nat.lt_trans hm (by rw [B_eq, BB_eq]; decide)
  obtain ⟨s0, -⟩ := w_small hm
  have hlast := rW_all lo hi m
  have hlB : (hi * BB + lo) % m < B := Nat.lt_trans (Nat.mod_lt _ hm1) hm
  have x0 := rW_zero (m := m) hl hh
  rw [← hlast] at hlB ⊢
  refine wk3 @c125.eq_1 rN @hm0 ?_
  refine AGo_askV (r3_Word m hmB _ _) ?_
  refine wk2 rN @hm ?_
  refine AGo_cycleD (α := Nat) 10 65 (fun j => [(9, .int .i64 (predV j)), (8, .int .u64 (rW lo hi m (8 - j) : Nat))]) (fun j H' n' => j ≤ 8 ∧ n + 4 ≤ n' ∧ Agree n H H' ∧ H' n = some (.cells (vcells (N lo)) 24 (0, 0)) ∧ H' (n + 1) = some (.cells (vcells (N hi)) 24 (0, 0)) ∧ H' (n + 2) = some (.cells (vcells (N m)) 24 (0, 0)) ∧ H' (n + 3) = some (.cells (vcells (N 0)) 24 (0, 0))) (fun j H' n' => j = 0 ∧ n + 4 ≤ n' ∧ Agree n H H' ∧ H' (n + 3) = some (.cells (vcells (N 0)) 24 (0, 0))) (fun j => j) (8) ?_ (by simp only [pv8, Nat.sub_self, x0, subs_nil, subs_if, lk_if, lk_nil, dropR_nil, dropR_cons, Nat.reduceLT, List.cons_append, List.nil_append, List.elem_nil, List.elem_cons, Nat.reduceBEq, beq_self_eq_true, Bool.true_or, Bool.false_or, Bool.or_true, Bool.or_false, Bool.false_eq_true, ↓reduceIte, if_true, if_false, Nat.reduceEqDiff, and_self, and_true, true_and, eq_self]) ?_ ?_
  · refine ⟨Nat.le_refl _, by omega, agr, ?_, ?_, ?_, ?_⟩
    · exact up0
    · exact up0
    · exact up0
    · exact up1 @vcells_N0
  · rintro j H' n' kk ⟨hj, hn, hA, f0, f1, f2, f3⟩ hK hS
    simp only [List.cons_append, List.nil_append, dropR_nil, dropR_cons, Nat.reduceLT, ↓reduceIte]
    simp only [vcells_N] at f0 f1 f2
    cases j with
    | zero =>
      refine AGo_turn ?_
      refine wk1 @predV_zero ?_
      refine AGo_markL ?_ (hK 0 _ _ ⟨rfl, by omega, agr, f3⟩)
      · simp only [predV_zero, subs_nil, subs_if, lk_if, lk_nil, dropR_nil, dropR_cons, Nat.reduceLT, List.cons_append, List.nil_append, List.elem_nil, List.elem_cons, Nat.reduceBEq, beq_self_eq_true, Bool.true_or, Bool.false_or, Bool.or_true, Bool.or_false, Bool.false_eq_true, ↓reduceIte, if_true, if_false, Nat.reduceEqDiff, and_self, and_true, true_and, eq_self]
    | succ j =>
      have hj2 : j < 1024 := by omega
      have hrl : rW lo hi m (8 - (j + 1)) < m := Nat.mod_lt _ hm1
      have hst := rW_step (m := m) (i := 8 - (j + 1)) hl (hi := hi) (by omega)
      rw [show 8 - (j + 1) + 1 = 8 - j by omega, show 7 - (8 - (j + 1)) = j by omega] at hst
      by_cases h4 : 4 ≤ j
      · have hw : wK hi (j - 4) = lwK lo hi j := by rw [lwK, if_neg (by omega)]
        have hj4 : j - 4 < 4 := by omega
        refine AGo_turn ?_
        refine wl10 rN rL @predV_succ @Nat.zero_le @f0 @f1 @f2 @s0 @h4 @hw ?_
        refine AGo_askV (div64 (rW lo hi m (8 - (j + 1))) (lwK lo hi j) m hrl (lwK_lt _ _ _) hm _ _) ?_
        simp (disch := first | assumption | omega) only [bin_sub_pred, ← hst, W, sim, ↓reduceIte, Nat.reduceAdd, Nat.reduceSub, Nat.reduceMul, Nat.reduceLT, Nat.reduceLeDiff, Nat.reduceEqDiff, Nat.reduceBEq, Nat.reduceBNe, Nat.reduceMod, Nat.reduceDiv]
        refine AGo_le ?_ (hS j _ _ ⟨by omega, by omega, agr, f0, f1, f2, f3⟩ (by omega))
        · simp only [predV_pos (show 1 ≤ j by omega), subs_nil, subs_if, lk_if, lk_nil, dropR_nil, dropR_cons, Nat.reduceLT, List.cons_append, List.nil_append, List.elem_nil, List.elem_cons, Nat.reduceBEq, beq_self_eq_true, Bool.true_or, Bool.false_or, Bool.or_true, Bool.or_false, Bool.false_eq_true, ↓reduceIte, if_true, if_false, Nat.reduceEqDiff, and_self, and_true, true_and, eq_self]
      · have hw : wK lo j = lwK lo hi j := by rw [lwK, if_pos (by omega)]
        have hj4 : j % 4 = j := Nat.mod_eq_of_lt (by omega)
        refine AGo_turn ?_
        refine wl11 rN rL @predV_succ @Nat.zero_le @f0 @f1 @f2 @s0 @h4 @hj4 @hw ?_
        refine AGo_askV (div64 (rW lo hi m (8 - (j + 1))) (lwK lo hi j) m hrl (lwK_lt _ _ _) hm _ _) ?_
        simp (disch := first | assumption | omega) only [bin_sub_pred, ← hst, W, sim, ↓reduceIte, Nat.reduceAdd, Nat.reduceSub, Nat.reduceMul, Nat.reduceLT, Nat.reduceLeDiff, Nat.reduceEqDiff, Nat.reduceBEq, Nat.reduceBNe, Nat.reduceMod, Nat.reduceDiv]
        refine AGo_le ?_ (hS j _ _ ⟨by omega, by omega, agr, f0, f1, f2, f3⟩ (by omega))
        · simp only [subs_nil, subs_if, lk_if, lk_nil, dropR_nil, dropR_cons, Nat.reduceLT, List.cons_append, List.nil_append, List.elem_nil, List.elem_cons, Nat.reduceBEq, beq_self_eq_true, Bool.true_or, Bool.false_or, Bool.or_true, Bool.or_false, Bool.false_eq_true, ↓reduceIte, if_true, if_false, Nat.reduceEqDiff, and_self, and_true, true_and, eq_self]
  rintro j H' n' ⟨rfl, hn, hA, f3⟩
  simp only [List.cons_append, List.nil_append, dropR_nil, dropR_cons, Nat.reduceLT, ↓reduceIte]
  simp only [vcells_N0] at f3
  refine wk2 rN @f3 ?_
  refine AGo_askV (r2_Of _ hlB _ _) ?_
  refine wk2 rN @f3 ?_
  exact ⟨rfl, agr⟩
theorem wstep {X m e : Nat} (hm : 0 < m) : X / 2 ^ e % m = (2 * (X / 2 ^ (e + 1) % m) + X / 2 ^ e % 2) % m := by
  have h : X / 2 ^ e = 2 * (X / 2 ^ (e + 1)) + X / 2 ^ e % 2 := by
    rw [Nat.pow_succ, ← Nat.div_div_eq_div_mul]; generalize X / 2 ^ e = z; omega
  conv => lhs; rw [h]
  rw [(div_step hm).1]
theorem bit_hiJ {lo hi j : Nat} (hl : lo < BB) (hj : j < 256) : (hi * BB + lo) / 2 ^ (256 + j) % 2 = bitOf hi j := by
  have := bit_hi (hi := hi) hl (show 255 - j < 256 by omega)
  rw [show 512 - 1 - (255 - j) = 256 + j by omega, show 255 - (255 - j) = j by omega] at this; exact this
theorem bit_loJ {lo hi j : Nat} (hj : j < 256) : (hi * BB + lo) / 2 ^ j % 2 = bitOf lo j := by
  have := bit_lo (hi := hi) (lo := lo) (show 255 - j < 256 by omega)
  rw [show 512 - 1 - (256 + (255 - j)) = j by omega, show 255 - (255 - j) = j by omega] at this; exact this
theorem r3_wide_long (lo hi m : Nat) (hl : lo < BB) (hh : hi < BB) (hm : m < BB) (hmB : ¬ m < B) (H : Heap) (n : Nat) : ACall Tryz.prog 125 [N lo, N hi, N m] H n (Ret (.tuple #[N ((hi * BB + lo) % m), .int .i64 (0 : Nat)]) H n) := by
  refine acall_retF mix lw Tryz.func125 ok125 (fun _ _ => Tryz.call125 _ _) rfl ?_
  have bbp := BB_pos
  have hm0 : m ≠ 0 := by have := B_pos; omega
  have hm1 : 0 < m := by omega
  have x0 : (hi * BB + lo) / 2 ^ (256 + 256) % m = 0 := by
    rw [Nat.div_eq_of_lt, Nat.zero_mod]
    have := Nat.mul_le_mul_right BB (show hi + 1 ≤ BB from hh)
    rw [Nat.add_mul] at this
    have e : (2 : Nat) ^ (256 + 256) = BB * BB := by rw [BB_pow, ← Nat.pow_add]
    rw [e]; omega
  have sh : ∀ j, j < 256 → (hi * BB + lo) / 2 ^ (256 + j) % m = (2 * ((hi * BB + lo) / 2 ^ (256 + (j + 1)) % m) + bitOf hi j) % m := fun j hj => by
    rw [← bit_hiJ hl hj, ← Nat.add_assoc]; exact wstep hm1
  have sl : ∀ j, j < 256 → (hi * BB + lo) / 2 ^ j % m = (2 * ((hi * BB + lo) / 2 ^ (j + 1) % m) + bitOf lo j) % m := fun j hj => by
    rw [← bit_loJ (hi := hi) hj]; exact wstep hm1
  generalize hX : hi * BB + lo = X at *
  refine wk3 @c125.eq_1 rN @hm0 ?_
  refine AGo_askV (r3_Word m hm _ _) ?_
  refine wk2 rN @hmB ?_
  refine AGo_cycleD (α := Nat) 13 65 (fun j => [(12, .int .i64 (predV j))]) (fun j H' n' => j ≤ 256 ∧ n + 11 ≤ n' ∧ Agree n H H' ∧ H' n = some (.cells (vcells (N lo)) 24 (0, 0)) ∧ H' (n + 1) = some (.cells (vcells (N hi)) 24 (0, 0)) ∧ H' (n + 2) = some (.cells (vcells (N m)) 24 (0, 0)) ∧ H' (n + 3) = some (.cells (vcells (N 0)) 24 (0, 0)) ∧ H' (n + 10) = some (.cells (vcells (N (X / 2 ^ (256 + j) % m))) 24 (0, 0))) (fun j H' n' => j = 0 ∧ j ≤ 256 ∧ n + 11 ≤ n' ∧ Agree n H H' ∧ H' n = some (.cells (vcells (N lo)) 24 (0, 0)) ∧ H' (n + 1) = some (.cells (vcells (N hi)) 24 (0, 0)) ∧ H' (n + 2) = some (.cells (vcells (N m)) 24 (0, 0)) ∧ H' (n + 3) = some (.cells (vcells (N 0)) 24 (0, 0)) ∧ H' (n + 10) = some (.cells (vcells (N (X / 2 ^ 256 % m))) 24 (0, 0))) (fun j => j) (256) ?_ (by simp only [pv256, subs_nil, subs_if, lk_if, lk_nil, dropR_nil, dropR_cons, Nat.reduceLT, List.cons_append, List.nil_append, List.elem_nil, List.elem_cons, Nat.reduceBEq, beq_self_eq_true, Bool.true_or, Bool.false_or, Bool.or_true, Bool.or_false, Bool.false_eq_true, ↓reduceIte, if_true, if_false, Nat.reduceEqDiff, and_self, and_true, true_and, eq_self]) ?_ ?_
  · refine ⟨Nat.le_refl _, by omega, agr, ?_, ?_, ?_, ?_, ?_⟩
    · exact up0
    · exact up0
    · exact up0
    · exact up1 @vcells_N0
    · exact up2 @x0 @vcells_N0
  · rintro j H' n' kk ⟨hj, hn, hA, f0, f1, f2, f3, f4⟩ hK hS
    simp only [List.cons_append, List.nil_append, dropR_nil, dropR_cons, Nat.reduceLT, ↓reduceIte]
    simp only [vcells_N] at f0 f1 f2 f4
    cases j with
    | zero =>
      refine AGo_turn ?_
      refine wk1 @predV_zero ?_
      refine AGo_markL ?_ (hK 0 _ _ ⟨rfl, by omega, by omega, agr, f0, f1, f2, f3, f4⟩)
      · simp only [predV_zero, subs_nil, subs_if, lk_if, lk_nil, dropR_nil, dropR_cons, Nat.reduceLT, List.cons_append, List.nil_append, List.elem_nil, List.elem_cons, Nat.reduceBEq, beq_self_eq_true, Bool.true_or, Bool.false_or, Bool.or_true, Bool.or_false, Bool.false_eq_true, ↓reduceIte, if_true, if_false, Nat.reduceEqDiff, and_self, and_true, true_and, eq_self]
    | succ j =>
      have hj2 : j < 1024 := by omega
      have hst := sh j (by omega)
      have hb1 : bitOf hi j ≤ 1 := by unfold bitOf; omega
      have hr := Nat.mod_lt (X / 2 ^ (256 + (j + 1))) hm1
      refine AGo_turn ?_
      refine wk7 rN @predV_succ @Nat.zero_le @f0 @f1 @f2 @f4 ?_
      refine AGo_askV (r2_Bit hi j (by omega) _ _) ?_
      refine wk5 rN @f0 @f1 @f2 @f4 ?_
      refine AGo_askV (r3_twice _ _ _ hr hb1 hm _ _) ?_
      simp (disch := first | assumption | omega) only [N_fold, N_zero, N_one, f0, f1, f2, f4, bin_sub_pred, ← hst, W, sim, ↓reduceIte, Nat.reduceAdd, Nat.reduceSub, Nat.reduceMul, Nat.reduceLT, Nat.reduceLeDiff, Nat.reduceEqDiff, Nat.reduceBEq, Nat.reduceBNe, Nat.reduceMod, Nat.reduceDiv]
      refine AGo_le ?_ (hS j _ _ ⟨by omega, by omega, agr, ?_, ?_, ?_, ?_, ?_⟩ (by omega))
      · simp only [subs_nil, subs_if, lk_if, lk_nil, dropR_nil, dropR_cons, Nat.reduceLT, List.cons_append, List.nil_append, List.elem_nil, List.elem_cons, Nat.reduceBEq, beq_self_eq_true, Bool.true_or, Bool.false_or, Bool.or_true, Bool.or_false, Bool.false_eq_true, ↓reduceIte, if_true, if_false, Nat.reduceEqDiff, and_self, and_true, true_and, eq_self]
      · exact up1 @f0
      · exact up1 @f1
      · exact up1 @f2
      · exact up1 @f3
      · exact up0
  rintro j H1 n1 ⟨rfl, -, hn, hA, f0, f1, f2, f3, f4⟩
  simp only [List.cons_append, List.nil_append, dropR_nil, dropR_cons, Nat.reduceLT, ↓reduceIte]
  refine wk1 rN ?_
  refine AGo_cycleD (α := Nat) 14 65 (fun j => [(13, .int .i64 (predV j))]) (fun j H' n' => j ≤ 256 ∧ n + 11 ≤ n' ∧ Agree n H H' ∧ H' n = some (.cells (vcells (N lo)) 24 (0, 0)) ∧ H' (n + 1) = some (.cells (vcells (N hi)) 24 (0, 0)) ∧ H' (n + 2) = some (.cells (vcells (N m)) 24 (0, 0)) ∧ H' (n + 3) = some (.cells (vcells (N 0)) 24 (0, 0)) ∧ H' (n + 10) = some (.cells (vcells (N (X / 2 ^ j % m))) 24 (0, 0))) (fun j H' n' => j = 0 ∧ j ≤ 256 ∧ n + 11 ≤ n' ∧ Agree n H H' ∧ H' n = some (.cells (vcells (N lo)) 24 (0, 0)) ∧ H' (n + 1) = some (.cells (vcells (N hi)) 24 (0, 0)) ∧ H' (n + 2) = some (.cells (vcells (N m)) 24 (0, 0)) ∧ H' (n + 3) = some (.cells (vcells (N 0)) 24 (0, 0)) ∧ H' (n + 10) = some (.cells (vcells (N (X % m))) 24 (0, 0))) (fun j => j) (256) ?_ (by simp only [pv256, subs_nil, subs_if, lk_if, lk_nil, dropR_nil, dropR_cons, Nat.reduceLT, List.cons_append, List.nil_append, List.elem_nil, List.elem_cons, Nat.reduceBEq, beq_self_eq_true, Bool.true_or, Bool.false_or, Bool.or_true, Bool.or_false, Bool.false_eq_true, ↓reduceIte, if_true, if_false, Nat.reduceEqDiff, and_self, and_true, true_and, eq_self]) ?_ ?_
  · refine ⟨Nat.le_refl _, by omega, hA, f0, f1, f2, f3, f4⟩
  · rintro j H' n' kk ⟨hj, hn, hA, f0, f1, f2, f3, f4⟩ hK hS
    simp only [List.cons_append, List.nil_append, dropR_nil, dropR_cons, Nat.reduceLT, ↓reduceIte]
    simp only [vcells_N] at f0 f1 f2 f4
    cases j with
    | zero =>
      refine AGo_turn ?_
      refine wk1 @predV_zero ?_
      refine AGo_markL ?_ (hK 0 _ _ ⟨rfl, by omega, by omega, agr, f0, f1, f2, f3, by rw [f4]; simp [vcells_N]⟩)
      · simp only [predV_zero, subs_nil, subs_if, lk_if, lk_nil, dropR_nil, dropR_cons, Nat.reduceLT, List.cons_append, List.nil_append, List.elem_nil, List.elem_cons, Nat.reduceBEq, beq_self_eq_true, Bool.true_or, Bool.false_or, Bool.or_true, Bool.or_false, Bool.false_eq_true, ↓reduceIte, if_true, if_false, Nat.reduceEqDiff, and_self, and_true, true_and, eq_self]
    | succ j =>
      have hj2 : j < 1024 := by omega
      have hst := sl j (by omega)
      have hb1 : bitOf lo j ≤ 1 := by unfold bitOf; omega
      have hr := Nat.mod_lt (X / 2 ^ (j + 1)) hm1
      refine AGo_turn ?_
      refine wk7 rN @predV_succ @Nat.zero_le @f0 @f1 @f2 @f4 ?_
      refine AGo_askV (r2_Bit lo j (by omega) _ _) ?_
      refine wk5 rN @f0 @f1 @f2 @f4 ?_
      refine AGo_askV (r3_twice _ _ _ hr hb1 hm _ _) ?_
      simp (disch := first | assumption | omega) only [N_fold, N_zero, N_one, f0, f1, f2, f4, bin_sub_pred, ← hst, W, sim, ↓reduceIte, Nat.reduceAdd, Nat.reduceSub, Nat.reduceMul, Nat.reduceLT, Nat.reduceLeDiff, Nat.reduceEqDiff, Nat.reduceBEq, Nat.reduceBNe, Nat.reduceMod, Nat.reduceDiv]
      refine AGo_le ?_ (hS j _ _ ⟨by omega, by omega, agr, ?_, ?_, ?_, ?_, ?_⟩ (by omega))
      · simp only [subs_nil, subs_if, lk_if, lk_nil, dropR_nil, dropR_cons, Nat.reduceLT, List.cons_append, List.nil_append, List.elem_nil, List.elem_cons, Nat.reduceBEq, beq_self_eq_true, Bool.true_or, Bool.false_or, Bool.or_true, Bool.or_false, Bool.false_eq_true, ↓reduceIte, if_true, if_false, Nat.reduceEqDiff, and_self, and_true, true_and, eq_self]
      · exact up1 @f0
      · exact up1 @f1
      · exact up1 @f2
      · exact up1 @f3
      · exact up0
  rintro j H2 n2 ⟨rfl, -, hn, hA, f0, f1, f2, f3, f4⟩
  simp only [List.cons_append, List.nil_append, dropR_nil, dropR_cons, Nat.reduceLT, ↓reduceIte]
  simp only [vcells_N, w_zero] at f3 f4
  refine wk3 rN @f3 @f4 ?_
  exact ⟨rfl, agr⟩
theorem r3_Wide (lo hi m : Nat) (hl : lo < BB) (hh : hi < BB) (hm : m < BB) (hm0 : m ≠ 0) (H : Heap) (n : Nat) : ACall Tryz.prog 125 [N lo, N hi, N m] H n (Ret (.tuple #[N ((hi * BB + lo) % m), .int .i64 (0 : Nat)]) H n) := by
  by_cases h : m < B
  · exact r3_wide_one lo hi m hl hh hm0 h H n
  · exact r3_wide_long lo hi m hl hh hm h H n
theorem r3_Common (a b : Nat) (ha : a < BB) (hb : b < BB) (H : Heap) (n : Nat) : ACall Tryz.prog 117 [N a, N b] H n (Ret (N (Nat.gcd a b)) H n) := by
  refine acall_retF mix lw Tryz.func117 ok117 (fun _ _ => Tryz.call117 _ _) rfl ?_
  have bbp := BB_pos
  refine wk2 @c117.eq_1 rN ?_
  refine AGo_cycleD (α := Nat × Nat) 5 20 (fun _ => []) (fun x H' n' => x.1 < BB ∧ x.2 < BB ∧ Nat.gcd x.1 x.2 = Nat.gcd a b ∧ n + 3 ≤ n' ∧ Agree n H H' ∧ H' n = some (.cells (vcells (N x.1)) 24 (0, 0)) ∧ H' (n + 1) = some (.cells (vcells (N x.2)) 24 (0, 0)) ∧ H' (n + 2) = some (.cells (vcells (N 0)) 24 (0, 0))) (fun _ H' n' => n + 3 ≤ n' ∧ Agree n H H' ∧ H' n = some (.cells (vcells (N (Nat.gcd a b))) 24 (0, 0)) ∧ H' (n + 2) = some (.cells (vcells (N 0)) 24 (0, 0))) (fun x => x.2) ((a, b)) ?_ (by simp only [subs_nil, subs_if, lk_if, lk_nil, dropR_nil, dropR_cons, Nat.reduceLT, List.cons_append, List.nil_append, List.elem_nil, List.elem_cons, Nat.reduceBEq, beq_self_eq_true, Bool.true_or, Bool.false_or, Bool.or_true, Bool.or_false, Bool.false_eq_true, ↓reduceIte, if_true, if_false, Nat.reduceEqDiff, and_self, and_true, true_and, eq_self]) ?_ ?_
  · refine ⟨ha, hb, rfl, by omega, agr, ?_, ?_, ?_⟩ <;> (simp (disch := first | assumption | omega) only [upd_same, upd_neq, vcells_N, w_zero])
  · rintro ⟨x, y⟩ H' n' kk ⟨hx, hy, hg, hn, hA, f0, f1, f2⟩ hK hS
    dsimp only at hx hy hg f0 f1
    simp only [List.cons_append, List.nil_append, dropR_nil, dropR_cons, Nat.reduceLT, ↓reduceIte]
    simp only [vcells_N] at f0 f1 f2
    by_cases h0 : y = 0
    · subst h0
      rw [Nat.gcd_zero_right] at hg
      subst hg
      refine AGo_turn ?_
      refine wk5 rN @f0 @f1 @f2 @w_zero ?_
      refine AGo_markL ?_ (hK (Nat.gcd a b, 0) _ _ ⟨by omega, agr, ?_, ?_⟩)
      · simp only [subs_nil, subs_if, lk_if, lk_nil, dropR_nil, dropR_cons, Nat.reduceLT, List.cons_append, List.nil_append, List.elem_nil, List.elem_cons, Nat.reduceBEq, beq_self_eq_true, Bool.true_or, Bool.false_or, Bool.or_true, Bool.or_false, Bool.false_eq_true, ↓reduceIte, if_true, if_false, Nat.reduceEqDiff, and_self, and_true, true_and, eq_self]
      · exact up1 @f0
      · exact up1 @f2
    · refine AGo_turn ?_
      refine wk5 rN @f0 @f1 @f2 @h0 ?_
      have hlt := Nat.mod_lt x (show 0 < y by omega)
      refine AGo_askV (r3_div x y hx hy h0 _ _) ?_
      refine wk4 rN @f0 @f1 @f2 ?_
      refine AGo_le ?_ (hS (y, x % y) _ _ ⟨hy, by show x % y < BB; omega, ?_, by omega, agr, ?_, ?_, ?_⟩ (by show x % y < y; omega))
      · simp only [subs_nil, subs_if, lk_if, lk_nil, dropR_nil, dropR_cons, Nat.reduceLT, List.cons_append, List.nil_append, List.elem_nil, List.elem_cons, Nat.reduceBEq, beq_self_eq_true, Bool.true_or, Bool.false_or, Bool.or_true, Bool.or_false, Bool.false_eq_true, ↓reduceIte, if_true, if_false, Nat.reduceEqDiff, and_self, and_true, true_and, eq_self]
      · dsimp only; rw [← hg, Nat.gcd_comm x y, Nat.gcd_rec y x, Nat.gcd_comm]
      · exact up0
      · exact up0
      · exact up1 @f2
  rintro ⟨x, y⟩ H' n' ⟨hn, hA, f0, f2⟩
  simp only [List.cons_append, List.nil_append, dropR_nil, dropR_cons, Nat.reduceLT, ↓reduceIte]
  simp only [vcells_N] at f0 f2
  refine wk3 rN @f0 @f2 ?_
  exact ⟨rfl, agr⟩
end Go.Proofs.YtcjchcommaahdaaGreat

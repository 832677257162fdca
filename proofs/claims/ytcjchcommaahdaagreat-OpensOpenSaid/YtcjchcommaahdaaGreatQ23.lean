/- The document's sums of bytes: a block, taken in. Sums of bytes: the table. Bytes as lists, and sums of bytes that are fed one by one. Sums of bytes that come in parts: New, Write. No conditions. -/
import Derived.Test.YtcjchcommaahdaaGreatQ12
import Derived.Test.YtcjchcommaahdaaGreatQ22
set_option maxRecDepth 20000
set_option maxHeartbeats 4000000
set_option linter.all false
namespace Go.Proofs.YtcjchcommaahdaaGreat
open Go.Ab
theorem S2_def (x a b : Nat) : xr (rotr x a) (rotr x b) = S2 x a b := rfl
theorem S3_def (x a b c : Nat) : xr (xr (rotr x a) (rotr x b)) (rotr x c) = S3 x a b c := rfl
theorem ch_ref2 (e f g : Nat) : xr (an e f) (an (nt e) g) = ch e f g := by
  unfold ch
  apply Nat.eq_of_testBit_eq; intro j
  simp only [tb_xr, tb_an, tb_nt]
  cases decide (j < 32) <;> cases e.testBit j <;> cases f.testBit j <;> cases g.testBit j <;> rfl
theorem un_x (a : Nat) : (BitVec.ofInt IntKind.u32.bits (if IntKind.u32.signed = true then -1 else IntKind.u32.max) ^^^ BitVec.ofInt IntKind.u32.bits (a : Int)).toNat % 4294967296 = nt a := by
  have h := un_xor32 a
  rw [u32_wrap, Int.natCast_inj] at h
  exact h
theorem ax_rds (t u : Nat) (S m : Nat) : ax t (ax S m) = ax (ax t S) m := (ax_assoc t S m).symm
theorem r5_block (h b : Nat → Nat) (cs : List Value) (p off q c c2 : Nat) (ty ty2 : TypeId) (fz fz2 : Nat × Nat) (H : Heap) (n : Nat) (hg : ∀ i, b i < 256) (hm : ∀ j, j < 64 → cs[off + j]? = some (.int .u8 (b j : Nat))) (hp : p < n) (hq : q < n) (hH : H p = some (.cells cs ty fz)) (hQ : H q = some (.cells (fk .u32 64 kc) ty2 fz2)) : ACall Tryz.prog 121 [.agg ⟨fk .u32 8 h⟩, .slice (some ⟨p, off, none⟩) 64 c, .slice (some ⟨q, 0, none⟩) 64 c2] H n (Ret (.agg ⟨fk .u32 8 (cmpr h b)⟩) H n) := by
  refine acall_retF mix lw Tryz.func121 ok121 (fun _ _ => Tryz.call121 _ _) rfl ?_
  have hb32 : ∀ i, b i % 4294967296 = b i := fun i => Nat.mod_eq_of_lt (by have := hg i; omega)
  refine wl3 @c121.eq_1 rK @zero8 ?_
  refine AGo_cycleD (α := Nat) 19 195 (fun i => [(8, .int .i64 (i : Nat))]) (fun i H' n' => i ≤ 16 ∧ n + 3 ≤ n' ∧ Agree n H H' ∧ H' p = some (.cells cs ty fz) ∧ H' q = some (.cells (fk .u32 64 kc) ty2 fz2) ∧ H' n = some (.cells (fk .u32 8 h) 123 (0, 0)) ∧ H' (n + 1) = some (.cells (fk .u32 8 (fun _ => 0)) 123 (0, 0)) ∧ H' (n + 2) = some (.cells (fk .u32 64 (wN b i)) 162 (0, 0))) (fun i H' n' => n + 3 ≤ n' ∧ Agree n H H' ∧ H' q = some (.cells (fk .u32 64 kc) ty2 fz2) ∧ H' n = some (.cells (fk .u32 8 h) 123 (0, 0)) ∧ H' (n + 1) = some (.cells (fk .u32 8 (fun _ => 0)) 123 (0, 0)) ∧ H' (n + 2) = some (.cells (fk .u32 64 (wN b 16)) 162 (0, 0))) (fun i => 16 - i) (0) ?_ (by simp only [subs_nil, subs_if, lk_if, lk_nil, dropR_nil, dropR_cons, Nat.reduceLT, List.cons_append, List.nil_append, List.elem_nil, List.elem_cons, Nat.reduceBEq, beq_self_eq_true, Bool.true_or, Bool.false_or, Bool.or_true, Bool.or_false, Bool.false_eq_true, ↓reduceIte, if_true, if_false, Nat.reduceEqDiff, and_self, and_true, true_and, eq_self]) ?_ ?_
  · refine ⟨Nat.zero_le _, by omega, agr, ?_, ?_, ?_, ?_, ?_⟩
    · exact up1 @hH
    · exact up1 @hQ
    · exact up0
    · exact up0
    · simp (disch := first | assumption | omega) only [upd_same, upd_neq, vcells_N, w_zero]
      exact congrArg (fun l => some (AObj.cells l _ _)) (fk_congr (k := .u32) (n := 64) (f := fun _ => 0) (g := wN b 0) fun _ _ => (wN_zero b _).symm)
  · rintro i H' n' kk ⟨hi, hn, hA, f0, f1, f2, f3, f4⟩ hK hS
    simp only [List.cons_append, List.nil_append, dropR_nil, dropR_cons, Nat.reduceLT, ↓reduceIte]
    by_cases hlt : i < 16
    · have q0 := hm (4 * i) (by omega)
      have q1 := hm (4 * i + 1) (by omega)
      have q2 := hm (4 * i + 2) (by omega)
      have q3 := hm (4 * i + 3) (by omega)
      have r0 : 4 * i < 64 := by omega
      have r1 : 4 * i + 1 < 64 := by omega
      have r2 : 4 * i + 2 < 64 := by omega
      have r3 : 4 * i + 3 < 64 := by omega
      have r4 : i < 64 := by omega
      refine AGo_turn ?_
      refine wl11 rK @hlt @f0 @f4 @u32_wrap @q0 @q1 @q2 @q3 @hb32 @wordB_fold ?_
      refine AGo_le ?_ (hS (i + 1) _ _ ⟨by omega, by omega, agr, ?_, ?_, ?_, ?_, ?_⟩ (by omega))
      · simp only [subs_nil, subs_if, lk_if, lk_nil, dropR_nil, dropR_cons, Nat.reduceLT, List.cons_append, List.nil_append, List.elem_nil, List.elem_cons, Nat.reduceBEq, beq_self_eq_true, Bool.true_or, Bool.false_or, Bool.or_true, Bool.or_false, Bool.false_eq_true, ↓reduceIte, if_true, if_false, Nat.reduceEqDiff, and_self, and_true, true_and, eq_self]
      · exact up1 @f0
      · exact up1 @f1
      · exact up1 @f2
      · exact up1 @f3
      · simp (disch := first | assumption | omega) only [w_word hlt, upd_same, upd_neq, vcells_N, w_zero]
    · have hi2 : i = 16 := by omega
      subst hi2
      refine AGo_turn ?_
      refine wl2 rK @hlt ?_
      refine AGo_markL ?_ (hK 16 _ _ ⟨by omega, agr, f1, f2, f3, f4⟩)
      · simp only [subs_nil, subs_if, lk_if, lk_nil, dropR_nil, dropR_cons, Nat.reduceLT, List.cons_append, List.nil_append, List.elem_nil, List.elem_cons, Nat.reduceBEq, beq_self_eq_true, Bool.true_or, Bool.false_or, Bool.or_true, Bool.or_false, Bool.false_eq_true, ↓reduceIte, if_true, if_false, Nat.reduceEqDiff, and_self, and_true, true_and, eq_self]
  rintro i H1 n1 ⟨hn, hA, f1, f2, f3, f4⟩
  simp only [List.cons_append, List.nil_append, dropR_nil, dropR_cons, Nat.reduceLT, ↓reduceIte]
  refine wl1 rK ?_
  refine AGo_cycleD (α := Nat) 10 195 (fun i => [(9, .int .i64 (i : Nat))]) (fun i H' n' => 16 ≤ i ∧ i ≤ 64 ∧ n1 ≤ n' ∧ Agree n H H' ∧ H' q = some (.cells (fk .u32 64 kc) ty2 fz2) ∧ H' n = some (.cells (fk .u32 8 h) 123 (0, 0)) ∧ H' (n + 1) = some (.cells (fk .u32 8 (fun _ => 0)) 123 (0, 0)) ∧ H' (n + 2) = some (.cells (fk .u32 64 (wN b i)) 162 (0, 0))) (fun i H' n' => n1 ≤ n' ∧ Agree n H H' ∧ H' q = some (.cells (fk .u32 64 kc) ty2 fz2) ∧ H' n = some (.cells (fk .u32 8 h) 123 (0, 0)) ∧ H' (n + 1) = some (.cells (fk .u32 8 (fun _ => 0)) 123 (0, 0)) ∧ H' (n + 2) = some (.cells (fk .u32 64 (wN b 64)) 162 (0, 0))) (fun i => 64 - i) (16) ?_ (by simp only [subs_nil, subs_if, lk_if, lk_nil, dropR_nil, dropR_cons, Nat.reduceLT, List.cons_append, List.nil_append, List.elem_nil, List.elem_cons, Nat.reduceBEq, beq_self_eq_true, Bool.true_or, Bool.false_or, Bool.or_true, Bool.or_false, Bool.false_eq_true, ↓reduceIte, if_true, if_false, Nat.reduceEqDiff, and_self, and_true, true_and, eq_self]) ?_ ?_
  · exact ⟨Nat.le_refl _, by omega, by omega, hA, f1, f2, f3, f4⟩
  · clear f1 f2 f3 f4 hA
    rintro i H' n' kk ⟨h16, hi, hn', hA, f1, f2, f3, f4⟩ hK hS
    simp only [List.cons_append, List.nil_append, dropR_nil, dropR_cons, Nat.reduceLT, ↓reduceIte]
    by_cases hlt : i < 64
    · have q0 : i - 16 < 64 := by omega
      have q1 : i - 7 < 64 := by omega
      have q2 : i - 15 < 64 := by omega
      have q3 : i - 2 < 64 := by omega
      have q4 : ¬ i < 16 := by omega
      have s2a : xr (rotr (wN b i (i - 15)) 7) (rotr (wN b i (i - 15)) 18) = S2 (wN b i (i - 15)) 7 18 := S2_def _ _ _
      have s2b : xr (rotr (wN b i (i - 2)) 17) (rotr (wN b i (i - 2)) 19) = S2 (wN b i (i - 2)) 17 19 := S2_def _ _ _
      refine AGo_turn ?_
      refine wl3 rK @hlt @f4 ?_
      refine AGo_askV (r5_round (wN b i (i - 15)) 7 (by decide) (by decide) _ _) ?_
      refine wl3 rK @f4 @s2a ?_
      refine AGo_askV (r5_round (wN b i (i - 15)) 18 (by decide) (by decide) _ _) ?_
      refine wl3 rK @f4 @s2a ?_
      refine AGo_askV (r5_round (wN b i (i - 2)) 17 (by decide) (by decide) _ _) ?_
      refine wl4 rK @f4 @s2b @nextW_fold ?_
      refine AGo_askV (r5_round (wN b i (i - 2)) 19 (by decide) (by decide) _ _) ?_
      refine wl4 rK @f4 @s2b @nextW_fold ?_
      refine AGo_le ?_ (hS (i + 1) _ _ ⟨by omega, by omega, by omega, agr, ?_, ?_, ?_, ?_⟩ (by omega))
      · simp only [subs_nil, subs_if, lk_if, lk_nil, dropR_nil, dropR_cons, Nat.reduceLT, List.cons_append, List.nil_append, List.elem_nil, List.elem_cons, Nat.reduceBEq, beq_self_eq_true, Bool.true_or, Bool.false_or, Bool.or_true, Bool.or_false, Bool.false_eq_true, ↓reduceIte, if_true, if_false, Nat.reduceEqDiff, and_self, and_true, true_and, eq_self]
      · exact up1 @f1
      · exact up1 @f2
      · exact up1 @f3
      · simp (disch := first | assumption | omega) only [w_next q4, upd_same, upd_neq, vcells_N, w_zero]
    · have hi2 : i = 64 := by omega
      subst hi2
      refine AGo_turn ?_
      refine wl2 rK @hlt ?_
      refine AGo_markL ?_ (hK 64 _ _ ⟨by omega, agr, f1, f2, f3, f4⟩)
      · simp only [subs_nil, subs_if, lk_if, lk_nil, dropR_nil, dropR_cons, Nat.reduceLT, List.cons_append, List.nil_append, List.elem_nil, List.elem_cons, Nat.reduceBEq, beq_self_eq_true, Bool.true_or, Bool.false_or, Bool.or_true, Bool.or_false, Bool.false_eq_true, ↓reduceIte, if_true, if_false, Nat.reduceEqDiff, and_self, and_true, true_and, eq_self]
  clear f1 f2 f3 f4 hA
  rintro i2 H2 n2 ⟨hn2, hA, f1, f2, f3, f4⟩
  simp only [List.cons_append, List.nil_append, dropR_nil, dropR_cons, Nat.reduceLT, ↓reduceIte]
  refine wl3 rK @f2 @zero8 ?_
  refine AGo_cycleD (α := Nat) 14 195 (fun k => [(13, .int .i64 (k : Nat))]) (fun k H' n' => k ≤ 64 ∧ n2 + 2 ≤ n' ∧ Agree n H H' ∧ H' q = some (.cells (fk .u32 64 kc) ty2 fz2) ∧ H' n = some (.cells (fk .u32 8 h) 123 (0, 0)) ∧ H' (n + 1) = some (.cells (fk .u32 8 (fun _ => 0)) 123 (0, 0)) ∧ H' (n + 2) = some (.cells (fk .u32 64 (wN b 64)) 162 (0, 0)) ∧ H' (n2 + 1) = some (.cells (fk .u32 8 (rds h b k)) 123 (0, 0))) (fun k H' n' => n2 + 2 ≤ n' ∧ Agree n H H' ∧ H' n = some (.cells (fk .u32 8 h) 123 (0, 0)) ∧ H' (n + 1) = some (.cells (fk .u32 8 (fun _ => 0)) 123 (0, 0)) ∧ H' (n2 + 1) = some (.cells (fk .u32 8 (rds h b 64)) 123 (0, 0))) (fun k => 64 - k) (0) ?_ (by simp only [subs_nil, subs_if, lk_if, lk_nil, dropR_nil, dropR_cons, Nat.reduceLT, List.cons_append, List.nil_append, List.elem_nil, List.elem_cons, Nat.reduceBEq, beq_self_eq_true, Bool.true_or, Bool.false_or, Bool.or_true, Bool.or_false, Bool.false_eq_true, ↓reduceIte, if_true, if_false, Nat.reduceEqDiff, and_self, and_true, true_and, eq_self]) ?_ ?_
  · refine ⟨Nat.zero_le _, by omega, agr, ?_, ?_, ?_, ?_, ?_⟩
    · exact up1 @f1
    · exact up1 @f2
    · exact up1 @f3
    · exact up1 @f4
    · simp (disch := first | assumption | omega) only [upd_same, upd_neq, vcells_N, w_zero]
      exact congrArg (fun l => some (AObj.cells l _ _)) (fk_congr (k := .u32) (n := 8) (f := h) (g := rds h b 0) fun _ _ => (rds_zero h b _).symm)
  · clear f1 f2 f3 f4 hA
    rintro k H' n' kk ⟨hk, hn', hA, f1, f2, f3, f4, f5⟩ hK hS
    simp only [List.cons_append, List.nil_append, dropR_nil, dropR_cons, Nat.reduceLT, ↓reduceIte]
    by_cases hlt : k < 64
    · refine AGo_turn ?_
      refine wl7 rK @hlt @f1 @f4 @f5 @un_x @ch_ref2 ?_
      refine AGo_askV (r5_round (rds h b k 4) 6 (by decide) (by decide) _ _) ?_
      refine wl9 rK @f1 @f4 @f5 @S3_def @stepT_fold @un_x @ch_ref2 @mj_ref ?_
      refine AGo_askV (r5_round (rds h b k 4) 11 (by decide) (by decide) _ _) ?_
      refine wl9 rK @f1 @f4 @f5 @S3_def @stepT_fold @un_x @ch_ref2 @mj_ref ?_
      refine AGo_askV (r5_round (rds h b k 4) 25 (by decide) (by decide) _ _) ?_
      refine wl9 rK @f1 @f4 @f5 @S3_def @stepT_fold @un_x @ch_ref2 @mj_ref ?_
      refine AGo_askV (r5_round (rds h b k 0) 2 (by decide) (by decide) _ _) ?_
      refine wl6 rK @f1 @f4 @f5 @S3_def @mj_ref ?_
      refine AGo_askV (r5_round (rds h b k 0) 13 (by decide) (by decide) _ _) ?_
      refine wl6 rK @f1 @f4 @f5 @S3_def @mj_ref ?_
      refine AGo_askV (r5_round (rds h b k 0) 22 (by decide) (by decide) _ _) ?_
      refine wl6 rK @f1 @f4 @f5 @S3_def @mj_ref ?_
      refine AGo_le ?_ (hS (k + 1) _ _ ⟨by omega, by omega, agr, ?_, ?_, ?_, ?_, ?_⟩ (by omega))
      · simp only [subs_nil, subs_if, lk_if, lk_nil, dropR_nil, dropR_cons, Nat.reduceLT, List.cons_append, List.nil_append, List.elem_nil, List.elem_cons, Nat.reduceBEq, beq_self_eq_true, Bool.true_or, Bool.false_or, Bool.or_true, Bool.or_false, Bool.false_eq_true, ↓reduceIte, if_true, if_false, Nat.reduceEqDiff, and_self, and_true, true_and, eq_self]
      · exact up1 @f1
      · exact up1 @f2
      · exact up1 @f3
      · exact up1 @f4
      · simp (disch := first | assumption | omega) only [upd_same, upd_neq, vcells_N, w_zero]
        rw [← stepS_fold, ax_assoc (stepT _ _ _), fk8]; simp only [Nat.reduceEqDiff, ↓reduceIte]
    · have hk2 : k = 64 := by omega
      subst hk2
      refine AGo_turn ?_
      refine wl2 rK @hlt ?_
      refine AGo_markL ?_ (hK 64 _ _ ⟨by omega, agr, f2, f3, f5⟩)
      · simp only [subs_nil, subs_if, lk_if, lk_nil, dropR_nil, dropR_cons, Nat.reduceLT, List.cons_append, List.nil_append, List.elem_nil, List.elem_cons, Nat.reduceBEq, beq_self_eq_true, Bool.true_or, Bool.false_or, Bool.or_true, Bool.or_false, Bool.false_eq_true, ↓reduceIte, if_true, if_false, Nat.reduceEqDiff, and_self, and_true, true_and, eq_self]
  clear f1 f2 f3 f4 hA
  rintro k H3 n3 ⟨hn3, hA, f0, f2, f4⟩
  simp only [List.cons_append, List.nil_append, dropR_nil, dropR_cons, Nat.reduceLT, ↓reduceIte]
  refine wl1 rK ?_
  refine AGo_cycleD (α := Nat) 19 195 (fun k => [(18, .int .i64 (k : Nat))]) (fun k H' n' => k ≤ 8 ∧ n2 + 2 ≤ n' ∧ Agree n H H' ∧ H' n = some (.cells (fk .u32 8 h) 123 (0, 0)) ∧ H' (n + 1) = some (.cells (fk .u32 8 (fun _ => 0)) 123 (0, 0)) ∧ H' (n2 + 1) = some (.cells (fk .u32 8 (fun j => if j < k then cmpr h b j else rds h b 64 j)) 123 (0, 0))) (fun k H' n' => n2 + 2 ≤ n' ∧ Agree n H H' ∧ H' (n + 1) = some (.cells (fk .u32 8 (fun _ => 0)) 123 (0, 0)) ∧ H' (n2 + 1) = some (.cells (fk .u32 8 (cmpr h b)) 123 (0, 0))) (fun k => 8 - k) (0) ?_ (by simp only [subs_nil, subs_if, lk_if, lk_nil, dropR_nil, dropR_cons, Nat.reduceLT, List.cons_append, List.nil_append, List.elem_nil, List.elem_cons, Nat.reduceBEq, beq_self_eq_true, Bool.true_or, Bool.false_or, Bool.or_true, Bool.or_false, Bool.false_eq_true, ↓reduceIte, if_true, if_false, Nat.reduceEqDiff, and_self, and_true, true_and, eq_self]) ?_ ?_
  · refine ⟨Nat.zero_le _, by omega, agr, f0, f2, ?_⟩
    rw [f4, fk_upto0]
  · clear f0 f2 f4 hA
    rintro k H' n' kk ⟨hk, hn', hA, f0, f2, f4⟩ hK hS
    simp only [List.cons_append, List.nil_append, dropR_nil, dropR_cons, Nat.reduceLT, ↓reduceIte]
    by_cases hlt : k < 8
    · refine AGo_turn ?_
      refine wl5 rK @hlt @f0 @f4 @Nat.lt_irrefl ?_
      refine AGo_le ?_ (hS (k + 1) _ _ ⟨by omega, by omega, agr, ?_, ?_, ?_⟩ (by omega))
      · simp only [subs_nil, subs_if, lk_if, lk_nil, dropR_nil, dropR_cons, Nat.reduceLT, List.cons_append, List.nil_append, List.elem_nil, List.elem_cons, Nat.reduceBEq, beq_self_eq_true, Bool.true_or, Bool.false_or, Bool.or_true, Bool.or_false, Bool.false_eq_true, ↓reduceIte, if_true, if_false, Nat.reduceEqDiff, and_self, and_true, true_and, eq_self]
      · exact up1 @f0
      · exact up1 @f2
      · simp (disch := first | assumption | omega) only [fk_upto (cmpr_fold h b k), upd_same, upd_neq, vcells_N, w_zero]
    · have hk2 : k = 8 := by omega
      subst hk2
      refine AGo_turn ?_
      refine wl2 rK @hlt ?_
      refine AGo_markL ?_ (hK 8 _ _ ⟨by omega, agr, f2, ?_⟩)
      · simp only [subs_nil, subs_if, lk_if, lk_nil, dropR_nil, dropR_cons, Nat.reduceLT, List.cons_append, List.nil_append, List.elem_nil, List.elem_cons, Nat.reduceBEq, beq_self_eq_true, Bool.true_or, Bool.false_or, Bool.or_true, Bool.or_false, Bool.false_eq_true, ↓reduceIte, if_true, if_false, Nat.reduceEqDiff, and_self, and_true, true_and, eq_self]
      rw [f4, fk_upto_all]
  clear f0 f2 f4 hA
  rintro k H4 n4 ⟨hn4, hA, f2, f4⟩
  simp only [List.cons_append, List.nil_append, dropR_nil, dropR_cons, Nat.reduceLT, ↓reduceIte]
  refine wl3 rK @f2 @f4 ?_
  exact ⟨rfl, agr⟩
end Go.Proofs.YtcjchcommaahdaaGreat
namespace Go.Proofs.YtcjchcommaahdaaGreat
open Go.Ab
theorem r5_table (H : Heap) (n : Nat) : ACall Tryz.prog 120 [] H n (fun r H' n' => ∃ p, r = .returned (.slice (some ⟨p, 0, none⟩) 64 64) ∧ H' p = some (.cells (fk .u32 64 kc) 122 (0, 0)) ∧ n ≤ p ∧ p < n' ∧ Agree n H H') := by
  refine acall_ofF mix Tryz.func120 ok120 (fun _ _ => Tryz.call120 _ _) rfl ?_
  refine wk1 @c120.eq_1 ?_
  refine ⟨_, rfl, ?_, by omega, by omega, agr⟩
  simp (disch := first | assumption | omega) only [upd_same, upd_neq, vcells_N, w_zero]
  rfl
end Go.Proofs.YtcjchcommaahdaaGreat
namespace Go.Proofs.YtcjchcommaahdaaGreat
open Go.Ab

/-- Bytes, as cells. -/
def bs (l : List Nat) : List Value := l.map fun b => .int .u8 (b : Nat)
theorem bs_length (l : List Nat) : (bs l).length = l.length := by simp [bs]
theorem bs_append (a b : List Nat) : bs (a ++ b) = bs a ++ bs b := by simp [bs]
theorem bs_all (l : List Nat) : (bs l).all Value.oneCell' = true := by simp [bs, Value.oneCell']
theorem bs_take (l : List Nat) (k : Nat) : (bs l).take k = bs (l.take k) := by simp [bs, List.map_take]
theorem bs_drop (l : List Nat) (k : Nat) : (bs l).drop k = bs (l.drop k) := by simp [bs, List.map_drop]
theorem bs_get {l : List Nat} {i : Nat} (h : i < l.length) : (bs l)[i]? = some (.int .u8 (l.getD i 0 : Nat)) := by
  simp [bs, List.getElem?_eq_getElem h, List.getD_eq_getElem?_getD]
theorem fk_bs (n : Nat) (f : Nat → Nat) : fk .u8 n f = bs ((List.range n).map f) := by simp [fk, bs]
theorem bs_fk (l : List Nat) : bs l = fk .u8 l.length (fun i => l.getD i 0) := by
  apply List.ext_getElem?
  intro i
  by_cases h : i < l.length
  · rw [bs_get h, fk_get _ h]
  · rw [List.getElem?_eq_none (by rw [bs_length]; omega), List.getElem?_eq_none (by rw [fk_length]; omega)]
theorem bs_congr {l : List Nat} {f : Nat → Nat} {n : Nat} (hn : l.length = n) (h : ∀ i, i < n → l.getD i 0 = f i) : bs l = fk .u8 n f := by
  rw [bs_fk, hn]; exact fk_congr h
theorem bs_inj {a b : List Nat} (h : bs a = bs b) : a = b := by
  unfold bs at h
  induction a generalizing b with
  | nil => cases b with
    | nil => rfl
    | cons y b => simp at h
  | cons x a ih => cases b with
    | nil => simp at h
    | cons y b =>
      simp only [List.map_cons, List.cons.injEq, Value.int.injEq, true_and, Int.natCast_inj] at h
      rw [h.1, ih h.2]

/-- A running sum. -/
structure St where
  now : Nat → Nat
  rest : Nat → Nat
  many : Nat
def St.one (s : St) (c : Nat) : St :=
  ⟨if s.many % 64 = 63 then cmpr s.now (fun j => if j = s.many % 64 then c else s.rest j) else s.now, fun j => if j = s.many % 64 then c else s.rest j, s.many + 1⟩
def St.feed (s : St) (l : List Nat) : St := l.foldl St.one s
theorem feed_nil (s : St) : s.feed [] = s := rfl
theorem feed_cons (s : St) (c : Nat) (l : List Nat) : s.feed (c :: l) = (s.one c).feed l := rfl
theorem feed_append (s : St) (a b : List Nat) : s.feed (a ++ b) = (s.feed a).feed b := by simp [St.feed, List.foldl_append]
theorem feed_many : ∀ (l : List Nat) (s : St), (s.feed l).many = s.many + l.length
  | [], s => rfl
  | c :: l, s => by rw [feed_cons, feed_many l]; simp only [St.one, List.length_cons]; omega
def putR (r : Nat → Nat) (i : Nat) (c : List Nat) : Nat → Nat := fun j => if i ≤ j ∧ j < i + c.length then c.getD (j - i) 0 else r j
theorem putR_one (r : Nat → Nat) (i x : Nat) : putR r i [x] = fun j => if j = i then x else r j := by
  funext j
  unfold putR
  by_cases h : j = i
  · subst h; rw [if_pos (by simp), if_pos rfl]; simp
  · rw [if_neg (by simp only [List.length_cons, List.length_nil]; omega), if_neg h]
theorem putR_cons (r : Nat → Nat) (i x : Nat) (c : List Nat) : putR (fun j => if j = i then x else r j) (i + 1) c = putR r i (x :: c) := by
  funext j
  unfold putR
  simp only [List.length_cons]
  by_cases h : j = i
  · subst h; rw [if_neg (by omega), if_pos rfl, if_pos (by omega), Nat.sub_self]; rfl
  · by_cases h2 : i + 1 ≤ j ∧ j < i + 1 + c.length
    · rw [if_pos h2, if_pos (by omega), show j - i = (j - (i + 1)) + 1 by omega]; rfl
    · rw [if_neg h2, if_neg h, if_neg (by omega)]
theorem feed_chunk : ∀ (c : List Nat) (s : St), s.many % 64 + c.length ≤ 64 → c ≠ [] →
    s.feed c = ⟨if s.many % 64 + c.length = 64 then cmpr s.now (putR s.rest (s.many % 64) c) else s.now, putR s.rest (s.many % 64) c, s.many + c.length⟩
  | [], s, _, h => absurd rfl h
  | [x], s, h, _ => by
    rw [feed_cons, feed_nil, St.one, putR_one]
    simp only [List.length_cons, List.length_nil]
    by_cases h2 : s.many % 64 = 63
    · rw [if_pos h2, if_pos (by omega)]
    · rw [if_neg h2, if_neg (by omega)]
  | x :: y :: c, s, h, _ => by
    simp only [List.length_cons] at h
    have hm : (s.one x).many % 64 = s.many % 64 + 1 := by simp only [St.one]; omega
    rw [feed_cons, feed_chunk (y :: c) (s.one x) (by rw [hm]; simp only [List.length_cons]; omega) (by simp), hm]
    have hr : (s.one x).rest = fun j => if j = s.many % 64 then x else s.rest j := rfl
    have hn : (s.one x).now = s.now := by simp only [St.one]; rw [if_neg (by omega)]
    rw [hr, hn, putR_cons]
    simp only [List.length_cons, St.one]
    have e1 : (s.many % 64 + 1 + (c.length + 1) = 64) = (s.many % 64 + (c.length + 1 + 1) = 64) := by apply propext; constructor <;> intro h <;> omega
    have e2 : s.many + 1 + (c.length + 1) = s.many + (c.length + 1 + 1) := by omega
    simp only [e1, e2]

/-- Only the block's bytes count. -/
theorem wordB_congr {b b' : Nat → Nat} (h : ∀ i, i < 64 → b i = b' i) {i : Nat} (hi : i < 16) : wordB b i = wordB b' i := by
  unfold wordB; rw [h _ (by omega), h _ (by omega), h _ (by omega), h _ (by omega)]
theorem wN_congr {b b' : Nat → Nat} (h : ∀ i, i < 64 → b i = b' i) : ∀ k j, wN b k j = wN b' k j
  | 0, j => rfl
  | k + 1, j => by
    have e : wN b k = wN b' k := funext (wN_congr h k)
    rw [wN, wN, e]
    by_cases h1 : j = k
    · rw [if_pos h1, if_pos h1]
      by_cases h2 : k < 16
      · rw [if_pos h2, if_pos h2]; exact wordB_congr h h2
      · rw [if_neg h2, if_neg h2]
    · rw [if_neg h1, if_neg h1]
theorem rds_congr {h b b' : Nat → Nat} (hb : ∀ i, i < 64 → b i = b' i) : ∀ k j, rds h b k j = rds h b' k j
  | 0, j => rfl
  | k + 1, j => by
    rw [rds, rds, show rds h b k = rds h b' k from funext (rds_congr hb k), wN_congr hb]
theorem cmpr_congr {h b b' : Nat → Nat} (hb : ∀ i, i < 64 → b i = b' i) : cmpr h b = cmpr h b' := by
  funext j; unfold cmpr; rw [rds_congr hb]
/-- A whole block. -/
theorem feed_block {s : St} {c : List Nat} (hm : s.many % 64 = 0) (hc : c.length = 64) {g : Nat → Nat} (hg : ∀ j, j < 64 → g j = c.getD j 0) : (s.feed c).now = cmpr s.now g := by
  rw [feed_chunk c s (by omega) (by intro e; rw [e] at hc; simp at hc)]
  simp only [hm, hc, Nat.zero_add, if_true]
  refine cmpr_congr fun j hj => ?_
  unfold putR
  rw [if_pos (by omega), hg j hj, Nat.sub_zero]
def St.Ok (s : St) : Prop := ∀ j, s.rest j < 256
theorem putR_lt {r : Nat → Nat} {i : Nat} {c : List Nat} (hr : ∀ j, r j < 256) (hc : ∀ x, x ∈ c → x < 256) (j : Nat) : putR r i c j < 256 := by
  unfold putR
  split
  · rw [List.getD_eq_getElem?_getD]
    cases h : c[j - i]? with
    | none => simp
    | some v => exact hc _ (List.mem_of_getElem? h)
  · exact hr j
theorem feed_ok : ∀ (l : List Nat) (s : St), s.Ok → (∀ x, x ∈ l → x < 256) → (s.feed l).Ok
  | [], s, h, _ => h
  | c :: l, s, h, hl => by
    rw [feed_cons]
    refine feed_ok l _ (fun j => ?_) (fun x hx => hl x (by simp [hx]))
    simp only [St.one]
    split
    · exact hl c (by simp)
    · exact h j

/-- What stands behind so many bytes. -/
def padZ (m : Nat) : Nat := (119 - m % 64) % 64
def padB (m : Nat) : List Nat := (List.range 8).map fun i => 8 * m % B / 2 ^ (56 - 8 * i) % 256
def pad (m : Nat) : List Nat := 128 :: (List.replicate (padZ m) 0 ++ padB m)
theorem pad_lt (m : Nat) : ∀ x, x ∈ pad m → x < 256 := by
  intro x hx
  simp only [pad, List.mem_cons, List.mem_append, List.mem_replicate, padB, List.mem_map] at hx
  rcases hx with rfl | ⟨_, rfl⟩ | ⟨i, _, rfl⟩
  · omega
  · omega
  · exact Nat.mod_lt _ (by decide)
theorem pad_length (m : Nat) : (pad m).length = padZ m + 9 := by simp [pad, padB]; 
theorem pad_whole (m : Nat) : (m + (pad m).length) % 64 = 0 := by rw [pad_length]; unfold padZ; omega
def outB (f : Nat → Nat) (i : Nat) : Nat := f (i / 4) / 2 ^ (24 - i % 4 * 8) % 256
def St.out (s : St) : Nat → Nat := outB (s.feed (pad s.many)).now
def s0 : St := ⟨h0, fun _ => 0, 0⟩
theorem s0_ok : s0.Ok := fun _ => by show 0 < 256; omega
/-- The sum of bytes. -/
def sha (l : List Nat) : Nat → Nat := (s0.feed l).out
theorem outB_lt (f : Nat → Nat) (i : Nat) : outB f i < 256 := Nat.mod_lt _ (by decide)
theorem sha_lt (l : List Nat) (i : Nat) : sha l i < 256 := outB_lt _ _

/-- The cells of a running sum. -/
def SM (s : St) : List Value := .int .i64 ((1 : Nat) : Int) :: (fk .u32 8 s.now ++ (fk .u8 64 s.rest ++ [.int .u64 (s.many : Nat)]))
theorem SM_len (s : St) : (SM s).length = 74 := by simp [SM, fk_length]
theorem SM_get0 (s : St) : (SM s)[0]? = some (.int .i64 ((1 : Nat) : Int)) := rfl
theorem SM_many (s : St) : (SM s)[73]? = some (.int .u64 (s.many : Nat)) := by
  unfold SM
  rw [List.getElem?_cons_succ, List.getElem?_append_right (by simp [fk_length]), List.getElem?_append_right (by simp [fk_length])]
  simp [fk_length]
theorem SM_now (s : St) : List.take 8 (List.drop 1 (SM s)) = fk .u32 8 s.now := by
  unfold SM
  rw [List.drop_succ_cons, List.drop_zero, List.take_append_of_le_length (by simp [fk_length]), List.take_of_length_le (by simp [fk_length])]
theorem SM_nowk (s : St) {k : Nat} (h : k < 8) : (SM s)[1 + k]? = some (.int .u32 (s.now k : Nat)) := by
  unfold SM
  rw [Nat.add_comm, List.getElem?_cons_succ, List.getElem?_append_left (by rw [fk_length]; exact h), fk_get _ h]
theorem SM_rest (s : St) : List.take 64 (List.drop 9 (SM s)) = fk .u8 64 s.rest := by
  unfold SM
  rw [List.drop_succ_cons, List.drop_append, fk_length, List.drop_eq_nil_of_le (by rw [fk_length]; omega)]
  simp only [Nat.sub_self, List.drop_zero, List.nil_append]
  rw [List.take_append_of_le_length (by simp [fk_length]), List.take_of_length_le (by simp [fk_length])]
theorem SM_all (s : St) : List.take 74 (SM s) = SM s := List.take_of_length_le (by rw [SM_len]; exact Nat.le_refl _)
theorem SM_put_many (s : St) (m : Nat) : splice (SM s) 73 [.int .u64 (m : Nat)] = SM ⟨s.now, s.rest, m⟩ := by
  unfold splice SM
  rw [List.take_succ_cons, List.take_append, fk_length, List.take_of_length_le (by rw [fk_length]; omega), List.take_append, fk_length, List.take_of_length_le (by rw [fk_length]; omega)]
  rw [List.drop_eq_nil_of_le (by simp [fk_length])]
  simp
theorem SM_put_now (s : St) (f : Nat → Nat) : splice (SM s) 1 (fk .u32 8 f) = SM ⟨f, s.rest, s.many⟩ := by
  unfold splice SM
  rw [List.take_succ_cons, List.take_zero, fk_length, List.drop_succ_cons, List.drop_append, fk_length, List.drop_eq_nil_of_le (by rw [fk_length]; omega)]
  simp
theorem putR_fk (r : Nat → Nat) (i : Nat) (c : List Nat) (h : i + c.length ≤ 64) : splice (fk .u8 64 r) i (bs c) = fk .u8 64 (putR r i c) := by
  unfold splice
  apply List.ext_getElem?
  intro j
  rw [List.append_assoc, List.getElem?_append]
  simp only [List.length_take, fk_length, bs_length]
  rw [show min i 64 = i by omega]
  by_cases hj : j < i
  · rw [if_pos hj, List.getElem?_take, if_pos hj, fk_get _ (by omega), fk_get _ (by omega)]
    unfold putR; rw [if_neg (by omega)]
  · rw [if_neg hj, List.getElem?_append, bs_length]
    by_cases h2 : j - i < c.length
    · rw [if_pos h2, bs_get h2, fk_get _ (by omega)]
      unfold putR; rw [if_pos (by omega)]
    · rw [if_neg h2, List.getElem?_drop, show i + c.length + (j - i - c.length) = j by omega]
      by_cases h3 : j < 64
      · rw [fk_get _ h3, fk_get _ h3]; unfold putR; rw [if_neg (by omega)]
      · rw [List.getElem?_eq_none (by rw [fk_length]; omega), List.getElem?_eq_none (by rw [fk_length]; omega)]
theorem splice_app_right (a b l : List Value) (i : Nat) : splice (a ++ b) (a.length + i) l = a ++ splice b i l := by
  unfold splice
  rw [List.take_append, List.take_of_length_le (by omega), List.drop_append, List.drop_eq_nil_of_le (by omega)]
  simp [Nat.add_assoc]
theorem splice_app_left (a b l : List Value) (i : Nat) (h : i + l.length ≤ a.length) : splice (a ++ b) i l = splice a i l ++ b := by
  unfold splice
  rw [List.take_append_of_le_length (by omega), List.drop_append_of_le_length (by omega)]
  simp [List.append_assoc]
theorem SM_put_rest (s : St) (i : Nat) (c : List Nat) (h : i + c.length ≤ 64) : splice (SM s) (9 + i) (bs c) = SM ⟨s.now, putR s.rest i c, s.many⟩ := by
  have e : ∀ r m, SM ⟨s.now, r, m⟩ = (.int .i64 ((1 : Nat) : Int) :: fk .u32 8 s.now) ++ (fk .u8 64 r ++ [.int .u64 (m : Nat)]) := by intro r m; simp [SM]
  show splice (SM ⟨s.now, s.rest, s.many⟩) _ _ = _
  rw [e, e, show 9 + i = (Value.int .i64 ((1 : Nat) : Int) :: fk .u32 8 s.now).length + i by simp [fk_length], splice_app_right,
    splice_app_left _ _ _ _ (by rw [bs_length, fk_length]; exact h), putR_fk _ _ _ h]
theorem SM_one (s : St) : (SM s).all Value.oneCell' = true := by
  simp only [SM, List.all_cons, List.all_append, fk_all, List.all_nil, Value.oneCell', Bool.and_true]
end Go.Proofs.YtcjchcommaahdaaGreat
namespace Go.Proofs.YtcjchcommaahdaaGreat
open Go.Ab
theorem ite_nn {α : Sort _} {a b : Nat} {x y : α} (h : ¬ a = b) : (if a = b then x else y) = y := if_neg h
theorem ite_addr (c : Prop) [Decidable c] (b o o' : Nat) : (if c then (⟨b, o, none⟩ : Addr) else ⟨b, o', none⟩) = ⟨b, if c then o else o', none⟩ := by split <;> rfl
theorem SM_lit : Value.int .i64 ((1 : Nat) : Int) :: (fk .u32 8 (fun _ => 0) ++ (fk .u8 64 (fun _ => 0) ++ [Value.int .u64 ((0 : Nat) : Int)])) = SM ⟨fun _ => 0, fun _ => 0, 0⟩ := rfl
def SMty : TypeId := 128
/-- A slice that reads as bytes, in a block other than 'p'. -/
def Bys (H : Heap) (n p : Nat) (v : Value) (l : List Nat) : Prop := (∃ xc, v = .slice none 0 xc ∧ l = []) ∨ ∃ b off cap c e fz, v = .slice (some ⟨b, off, none⟩) l.length cap ∧ b ≠ p ∧ b < n ∧ H b = some (.cells c e fz) ∧ off + l.length ≤ c.length ∧ (c.drop off).take l.length = bs l ∧ l.length ≤ cap
/-- A sum is written on; the rest is as it was. -/
def Wrote (p : Nat) (l : List Value) (v : Value) (n : Nat) (H : Heap) : Post := fun r H' _ => r = .returned v ∧ H' p = some (.cells l SMty (0, 0)) ∧ ∀ i, i < n → i ≠ p → H' i = H i
theorem take_add_feed (s : St) (l : List Nat) (i k : Nat) : (s.feed (l.take i)).feed ((l.drop i).take k) = s.feed (l.take (i + k)) := by
  rw [← feed_append, List.take_add]
theorem src_bs {H : Heap} {b off o i k m cap : Nat} {c : List Value} {e : TypeId} {fz : Nat × Nat} {l : List Nat} (hH : H b = some (.cells c e fz)) (hle : off + l.length ≤ c.length) (ht : (c.drop off).take l.length = bs l) (ho : o = off + i) (hk : i + k ≤ l.length) :
    srcCells H k (.slice (some ⟨b, o, none⟩) m cap) = some (bs ((l.drop i).take k)) := by
  subst ho
  simp only [srcCells, hH]
  rw [if_pos (by omega), ← bs_take, ← bs_drop, ← ht, List.drop_take, List.drop_drop, List.take_take, Nat.min_eq_left (by omega)]

attribute [local irreducible] cmpr h0 SM fk bs
theorem sha_writes (s : St) (l : List Nat) (p : Nat) (v : Value) (H : Heap) (n : Nat) (hp : p < n) (hs : H p = some (.cells (SM s) SMty (0, 0))) (hok : s.Ok) (hl : ∀ c, c ∈ l → c < 256) (hm : s.many + l.length < 2 ^ 60) (hv : Bys H n p v l) : ACall Tryz.prog 102 [.pointer (some ⟨p, 0, none⟩), v] H n (Wrote p (SM (s.feed l)) (.tuple #[]) n H) := by
  refine acall_ofF mix Tryz.func102 ok102 (fun _ _ => Tryz.call102 _ _) rfl ?_
  rcases hv with ⟨xc, rfl, rfl⟩ | ⟨b, off, cap, c, e, fz, rfl, hbp, hbn, hH, hle, ht, hcap⟩
  · refine wk2 @c102.eq_1 @Nat.lt_irrefl ?_
    refine AGo_turn ?_
    refine wk1 @Nat.lt_irrefl ?_
    exact ⟨rfl, hs, fun _ _ _ => rfl⟩
  · refine wk1 @c102.eq_1 ?_
    refine AGo_cycleD (α := (Nat × Nat)) 4 50 (fun x => [(1, .slice (some ⟨b, x.2, none⟩) (l.length - x.1) (cap - x.1))]) (fun x H' n' => x.1 ≤ l.length ∧ (x.1 < l.length → x.2 = off + x.1) ∧ n ≤ n' ∧ H' p = some (.cells (SM (s.feed (l.take x.1))) SMty (0, 0)) ∧ (∀ j, j < n → j ≠ p → H' j = H j)) (fun x H' n' => H' p = some (.cells (SM (s.feed l)) SMty (0, 0)) ∧ (∀ j, j < n → j ≠ p → H' j = H j)) (fun x => l.length - x.1) ((0, off)) ?_ (by simp only [Nat.sub_zero, subs_nil, subs_if, lk_if, lk_nil, dropR_nil, dropR_cons, Nat.reduceLT, List.cons_append, List.nil_append, List.elem_nil, List.elem_cons, Nat.reduceBEq, beq_self_eq_true, Bool.true_or, Bool.false_or, Bool.or_true, Bool.or_false, Bool.false_eq_true, ↓reduceIte, if_true, if_false, Nat.reduceEqDiff, and_self, and_true, true_and, eq_self]) ?_ ?_
    · exact ⟨Nat.zero_le _, fun _ => rfl, Nat.le_refl _, hs, fun _ _ _ => rfl⟩
    · rintro ⟨i, o⟩ H' n' kk ⟨hi, ho, hn, f0, fA⟩ hK hS
      simp only at hi ho f0
      simp only [List.cons_append, List.nil_append, dropR_nil, dropR_cons, Nat.reduceLT, ↓reduceIte]
      by_cases hlt : i < l.length
      · have hH' : H' b = some (.cells c e fz) := by rw [fA b hbn hbp]; exact hH
        have hrok : (s.feed (l.take i)).Ok := feed_ok _ _ hok fun x hx => hl x (List.mem_of_mem_take hx)
        have hmany : (s.feed (l.take i)).many = s.many + i := by rw [feed_many, List.length_take, Nat.min_eq_left hi]
        generalize hs1 : s.feed (l.take i) = s1 at *
        have h0lt : 0 < l.length - i := by omega
        have hk0 : Nat.min (l.length - i) (64 - s1.many % 64) ≤ l.length - i := Nat.min_le_left _ _
        have hk1 : Nat.min (l.length - i) (64 - s1.many % 64) ≤ 64 - s1.many % 64 := Nat.min_le_right _ _
        have hk2 : 0 < Nat.min (l.length - i) (64 - s1.many % 64) := by show 0 < min _ _; omega
        generalize hk : Nat.min (l.length - i) (64 - s1.many % 64) = k at hk0 hk1 hk2
        have hsrc := fun m cap' => src_bs (m := m) (cap := cap') (k := k) hH' hle ht (ho hlt) (by omega)
        have hnext : s1.feed ((l.drop i).take k) = s.feed (l.take (i + k)) := by rw [← hs1, take_add_feed]
        have hchl : ((l.drop i).take k).length = k := by rw [List.length_take, List.length_drop]; omega
        have hch2 : ∀ x, x ∈ (l.drop i).take k → x < 256 := fun x hx => hl x (List.mem_of_mem_drop (List.mem_of_mem_take hx))
        generalize hch : (l.drop i).take k = ch at *
        have hfc := feed_chunk ch s1 (by omega) (by intro e; rw [e] at hchl; simp at hchl; omega)
        rw [hnext, hchl] at hfc
        have q1 : k % B = k := Nat.mod_eq_of_lt (by rw [B_eq]; omega)
        have q2 : (s1.many + k) % B = s1.many + k := Nat.mod_eq_of_lt (by rw [B_eq]; omega)
        have q3 : ¬ 64 = s1.many % 64 := by omega
        have pok : ∀ j, putR s1.rest (s1.many % 64) ch j < 256 := putR_lt hrok hch2
        by_cases hfull : s1.many % 64 + k = 64
        · rw [if_pos hfull] at hfc
          refine AGo_turn ?_
          simp (disch := first | assumption | omega) only [ite_lt, ite_le, bin_rem_u64, bin_quo_u64, fl_get, fl_splice, fl_splice_all, fl_length, fl_all, fl_take, cell_wK, fk_all, fk_length, h0lt, f0, SM_many, SM_put_many, SM_put_rest, SM_len, bs_all, bs_length, hk, hsrc, hchl, q1, q2, q3, ite_addr, hfull, SM_now, SM_rest, if_false, W1, sim, ↓reduceIte, Nat.reduceAdd, Nat.reduceSub, Nat.reduceMul, Nat.reduceLT, Nat.reduceLeDiff, Nat.reduceEqDiff, Nat.reduceBEq, Nat.reduceBNe, Nat.reduceMod, Nat.reduceDiv]
          refine AGo_askV (sha_take _ _ pok _ _) ?_
          simp (disch := first | assumption | omega) only [ite_lt, ite_le, bin_rem_u64, bin_quo_u64, fl_get, fl_splice, fl_splice_all, fl_length, fl_all, fl_take, cell_wK, fk_all, fk_length, SM_len, SM_put_now, ← hfc, W1, sim, ↓reduceIte, Nat.reduceAdd, Nat.reduceSub, Nat.reduceMul, Nat.reduceLT, Nat.reduceLeDiff, Nat.reduceEqDiff, Nat.reduceBEq, Nat.reduceBNe, Nat.reduceMod, Nat.reduceDiv]
          refine AGo_le ?_ (hS (i + k, if cap - i = k then o else o + k) _ _ ⟨by simp only; omega, ?_, by omega, ?_, ?_⟩ (by simp only; omega))
          · simp only [Nat.sub_sub, subs_nil, subs_if, lk_if, lk_nil, dropR_nil, dropR_cons, Nat.reduceLT, List.cons_append, List.nil_append, List.elem_nil, List.elem_cons, Nat.reduceBEq, beq_self_eq_true, Bool.true_or, Bool.false_or, Bool.or_true, Bool.or_false, Bool.false_eq_true, ↓reduceIte, if_true, if_false, Nat.reduceEqDiff, and_self, and_true, true_and, eq_self]
          · intro h; simp only at h ⊢; have h2 := ho hlt; rw [if_neg (by omega)]; omega
          · exact up0
          · intro j h1 h2
            simp (disch := first | assumption | omega) only [fA j h1 h2, upd_same, upd_neq, vcells_N, w_zero]
        · rw [if_neg hfull] at hfc
          refine AGo_turn ?_
          simp (disch := first | assumption | omega) only [ite_lt, ite_le, bin_rem_u64, bin_quo_u64, fl_get, fl_splice, fl_splice_all, fl_length, fl_all, fl_take, cell_wK, fk_all, fk_length, h0lt, f0, SM_many, SM_put_many, SM_put_rest, SM_len, bs_all, bs_length, hk, hsrc, hchl, q1, q2, q3, ite_addr, hfull, SM_now, SM_rest, if_false, ← hfc, W1, sim, ↓reduceIte, Nat.reduceAdd, Nat.reduceSub, Nat.reduceMul, Nat.reduceLT, Nat.reduceLeDiff, Nat.reduceEqDiff, Nat.reduceBEq, Nat.reduceBNe, Nat.reduceMod, Nat.reduceDiv]
          refine AGo_le ?_ (hS (i + k, if cap - i = k then o else o + k) _ _ ⟨by simp only; omega, ?_, by omega, ?_, ?_⟩ (by simp only; omega))
          · simp only [Nat.sub_sub, subs_nil, subs_if, lk_if, lk_nil, dropR_nil, dropR_cons, Nat.reduceLT, List.cons_append, List.nil_append, List.elem_nil, List.elem_cons, Nat.reduceBEq, beq_self_eq_true, Bool.true_or, Bool.false_or, Bool.or_true, Bool.or_false, Bool.false_eq_true, ↓reduceIte, if_true, if_false, Nat.reduceEqDiff, and_self, and_true, true_and, eq_self]
          · intro h; simp only at h ⊢; have h2 := ho hlt; rw [if_neg (by omega)]; omega
          · exact up0
          · intro j h1 h2
            simp (disch := first | assumption | omega) only [fA j h1 h2, upd_same, upd_neq, vcells_N, w_zero]
      · have hil : i = l.length := by omega
        subst hil
        rw [List.take_of_length_le (Nat.le_refl _)] at f0
        refine AGo_turn ?_
        refine wk2 @Nat.sub_self @Nat.lt_irrefl ?_
        refine AGo_markL ?_ (hK (l.length, o) _ _ ⟨f0, fA⟩)
        · simp only [Nat.sub_self, subs_nil, subs_if, lk_if, lk_nil, dropR_nil, dropR_cons, Nat.reduceLT, List.cons_append, List.nil_append, List.elem_nil, List.elem_cons, Nat.reduceBEq, beq_self_eq_true, Bool.true_or, Bool.false_or, Bool.or_true, Bool.or_false, Bool.false_eq_true, ↓reduceIte, if_true, if_false, Nat.reduceEqDiff, and_self, and_true, true_and, eq_self]
    · rintro x H' n' ⟨f0, fA⟩
      simp only [List.cons_append, List.nil_append, dropR_nil, dropR_cons, Nat.reduceLT, ↓reduceIte]
      refine wk0 ?_
      exact ⟨rfl, f0, fA⟩
end Go.Proofs.YtcjchcommaahdaaGreat

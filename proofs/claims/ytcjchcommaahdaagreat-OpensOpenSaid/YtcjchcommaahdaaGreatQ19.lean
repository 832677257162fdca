/- The document's long numbers. The document's differences and products. No conditions. -/
import Derived.Test.YtcjchcommaahdaaGreatQ12
import Derived.Test.YtcjchcommaahdaaGreatQ18
set_option maxRecDepth 20000
set_option maxHeartbeats 4000000
set_option linter.all false
namespace Go.Proofs.YtcjchcommaahdaaGreat
open Go.Ab
theorem zero4 : [Value.int .u64 ((0 : Nat) : Int), .int .u64 ((0 : Nat) : Int), .int .u64 ((0 : Nat) : Int), .int .u64 ((0 : Nat) : Int)] = fl 4 (wK 0) := by
  rw [fl_N, vcells_N0]
theorem fl4_of {f : Nat → Nat} (hf : ∀ i, f i < 65536) (k : Nat) (hk : k < 16) :
    fl 4 (fun j => if j = k / 4 then (wK (ofd f k) (k / 4) + f k * 2 ^ (16 * (k % 4)) % B) % B else wK (ofd f k) j) = fl 4 (wK (ofd f (k + 1))) := by
  have h1 := ofd_word_lt hf k
  refine fl_congr fun j _ => ?_
  rw [ofd_word hf, Nat.mod_eq_of_lt (show f k * 2 ^ (16 * (k % 4)) < B by omega), Nat.mod_eq_of_lt h1]
  by_cases h : j = k / 4
  · rw [if_pos h, if_pos h, h]
  · rw [if_neg h, if_neg h]

theorem r2_of (m off cap p : Nat) (g : Nat → Nat) (ty : TypeId) (fz : Nat × Nat) (H : Heap) (n : Nat) (hf : ∀ i, g i < 65536) (hm : off + 16 ≤ m) (hp : p < n) (hH : H p = some (.cells (fl m g) ty fz)) : ACall Tryz.prog 160 [.slice (some ⟨p, off, none⟩) 16 cap] H n (Ret (N (ofd (fun j => g (off + j)) 16)) H n) := by
  refine acall_retF mix lw Tryz.func160 ok160 (fun _ _ => Tryz.call160 _ _) rfl ?_
  generalize hff : (fun j => g (off + j)) = f
  have hg : ∀ j, g (off + j) = f j := fun j => congrFun hff j
  have hf2 : ∀ i, f i < 65536 := fun i => by rw [← hg]; exact hf _
  refine wk2 @c160.eq_1 @zero4 ?_
  refine AGo_cycleD (α := Nat) 5 26 (fun k => [(4, .int .i64 (k : Nat))]) (fun k H' n' => k ≤ 16 ∧ n + 2 ≤ n' ∧ Agree n H H' ∧ H' p = some (.cells (fl m g) ty fz) ∧ H' (n + 1) = some (.cells (fl 4 (wK (ofd f k))) 24 (0, 0)) ∧ H' n = some (.cells (fl 4 (wK 0)) 24 (0, 0))) (fun k H' n' => n + 2 ≤ n' ∧ Agree n H H' ∧ H' (n + 1) = some (.cells (fl 4 (wK (ofd f 16))) 24 (0, 0)) ∧ H' n = some (.cells (fl 4 (wK 0)) 24 (0, 0))) (fun k => 16 - k) (0) ?_ (by simp only [subs_nil, subs_if, lk_if, lk_nil, dropR_nil, dropR_cons, Nat.reduceLT, List.cons_append, List.nil_append, List.elem_nil, List.elem_cons, Nat.reduceBEq, beq_self_eq_true, Bool.true_or, Bool.false_or, Bool.or_true, Bool.or_false, Bool.false_eq_true, ↓reduceIte, if_true, if_false, Nat.reduceEqDiff, and_self, and_true, true_and, eq_self]) ?_ ?_
  · refine ⟨Nat.zero_le _, by omega, agr, ?_, ?_, ?_⟩
    · exact up1 @hH
    · simp (disch := first | assumption | omega) only [upd_same, upd_neq, vcells_N, w_zero]
      rfl
    · exact up0
  · rintro k H' n' kk ⟨hk, hn, hA, f0, f1, f2⟩ hK hS
    simp only [List.cons_append, List.nil_append, dropR_nil, dropR_cons, Nat.reduceLT, ↓reduceIte]
    by_cases hlt : k < 16
    · have h4 : k / 4 < 4 := by omega
      have hk16 : off + k < m := by omega
      refine AGo_turn ?_
      refine wl6 rL @hlt @f0 @f1 @f2 @hg ?_
      refine AGo_le ?_ (hS (k + 1) _ _ ⟨by omega, by omega, agr, ?_, ?_, ?_⟩ (by omega))
      · simp only [subs_nil, subs_if, lk_if, lk_nil, dropR_nil, dropR_cons, Nat.reduceLT, List.cons_append, List.nil_append, List.elem_nil, List.elem_cons, Nat.reduceBEq, beq_self_eq_true, Bool.true_or, Bool.false_or, Bool.or_true, Bool.or_false, Bool.false_eq_true, ↓reduceIte, if_true, if_false, Nat.reduceEqDiff, and_self, and_true, true_and, eq_self]
      · exact up1 @f0
      · simp (disch := first | assumption | omega) only [fl4_of hf2 k hlt, upd_same, upd_neq, vcells_N, w_zero]
      · exact up1 @f2
    · have hk2 : k = 16 := by omega
      subst hk2
      refine AGo_turn ?_
      refine wl5 rL @hlt @f0 @f1 @f2 ?_
      refine AGo_markL ?_ (hK 16 _ _ ⟨by omega, agr, ?_, ?_⟩)
      · simp only [subs_nil, subs_if, lk_if, lk_nil, dropR_nil, dropR_cons, Nat.reduceLT, List.cons_append, List.nil_append, List.elem_nil, List.elem_cons, Nat.reduceBEq, beq_self_eq_true, Bool.true_or, Bool.false_or, Bool.or_true, Bool.or_false, Bool.false_eq_true, ↓reduceIte, if_true, if_false, Nat.reduceEqDiff, and_self, and_true, true_and, eq_self]
      · exact up1 @f1
      · exact up1 @f2
  rintro k H' n' ⟨hn, hA, f1, f2⟩
  simp only [List.cons_append, List.nil_append, dropR_nil, dropR_cons, Nat.reduceLT, ↓reduceIte]
  refine wl4 rL @f1 @f2 @N_fl ?_
  exact ⟨rfl, agr⟩

theorem r2_Of (x : Nat) (hx : x < B) (H : Heap) (n : Nat) : ACall Tryz.prog 112 [.int .u64 (x : Nat)] H n (Ret (N x) H n) := by
  refine acall_retF mix lw Tryz.func112 ok112 (fun _ _ => Tryz.call112 _ _) rfl ?_
  rw [N_small hx]
  refine wk1 @c112.eq_1 ?_
  exact ⟨rfl, agr⟩

theorem r2_Cmp (x y : Nat) (hx : x < BB) (hy : y < BB) (H : Heap) (n : Nat) : ACall Tryz.prog 109 [N x, N y] H n (Ret (.int .i64 (cmpV x y)) H n) := by
  refine acall_retF mix lw Tryz.func109 ok109 (fun _ _ => Tryz.call109 _ _) rfl ?_
  refine wk3 @c109.eq_1 rN @zero16 ?_
  refine AGo_askV (r2_Digits x _ _) ?_
  refine wl3 rN @zero16 rL ?_
  refine AGo_askV (r2_Digits y _ _) ?_
  refine wl3 rN @zero16 rL ?_
  refine AGo_cycleD (α := Nat) 8 30 (fun k => [(7, .int .i64 (predV k))]) (fun k H' n' => k ≤ 16 ∧ n + 10 ≤ n' ∧ Agree n H H' ∧ H' (n + 5) = some (.cells (fl 16 (dg x)) 160 (0, 0)) ∧ H' (n + 9) = some (.cells (fl 16 (dg y)) 160 (0, 0)) ∧ x / 65536 ^ k = y / 65536 ^ k) (fun k H' n' => n + 10 ≤ n' ∧ Agree n H H' ∧ x = y) (fun k => k) (16) ?_ (by simp only [pv16, subs_nil, subs_if, lk_if, lk_nil, dropR_nil, dropR_cons, Nat.reduceLT, List.cons_append, List.nil_append, List.elem_nil, List.elem_cons, Nat.reduceBEq, beq_self_eq_true, Bool.true_or, Bool.false_or, Bool.or_true, Bool.or_false, Bool.false_eq_true, ↓reduceIte, if_true, if_false, Nat.reduceEqDiff, and_self, and_true, true_and, eq_self]) ?_ ?_
  · refine ⟨Nat.le_refl _, by omega, agr, ?_, ?_, ?_⟩
    · exact up0
    · exact up0
    · rw [BB16, Nat.div_eq_of_lt hx, Nat.div_eq_of_lt hy]
  · rintro k H' n' kk ⟨hk, hn, hA, f0, f1, he⟩ hK hS
    simp only [List.cons_append, List.nil_append, dropR_nil, dropR_cons, Nat.reduceLT, ↓reduceIte]
    cases k with
    | zero =>
      simp only [Nat.pow_zero, Nat.div_one] at he
      refine AGo_turn ?_
      refine wk1 @predV_zero ?_
      refine AGo_markL ?_ (hK 0 _ _ ⟨by omega, agr, he⟩)
      · simp only [predV_zero, subs_nil, subs_if, lk_if, lk_nil, dropR_nil, dropR_cons, Nat.reduceLT, List.cons_append, List.nil_append, List.elem_nil, List.elem_cons, Nat.reduceBEq, beq_self_eq_true, Bool.true_or, Bool.false_or, Bool.or_true, Bool.or_false, Bool.false_eq_true, ↓reduceIte, if_true, if_false, Nat.reduceEqDiff, and_self, and_true, true_and, eq_self]
    | succ k =>
      obtain ⟨e1, e2⟩ := dg_top he
      obtain ⟨e3, -⟩ := dg_top he.symm
      have hk16 : k < 16 := by omega
      have hkk : k < 1024 := by omega
      by_cases h1 : dg x k < dg y k
      · refine AGo_turn ?_
        refine wl6 rL @predV_succ @Nat.zero_le @f0 @f1 @h1 ?_
        exact ⟨by rw [cmpV, if_pos (e1 h1)], agr⟩
      · by_cases h2 : dg y k < dg x k
        · refine AGo_turn ?_
          refine wl7 rL @predV_succ @Nat.zero_le @f0 @f1 @h1 @h2 ?_
          exact ⟨by have := e3 h2; rw [cmpV, if_neg (by omega), if_neg (by omega)]; rfl, agr⟩
        · refine AGo_turn ?_
          refine wl8 rL @predV_succ @Nat.zero_le @f0 @f1 @h1 @h2 @bin_sub_pred ?_
          refine AGo_le ?_ (hS k _ _ ⟨by omega, by omega, agr, f0, f1, e2 (by omega)⟩ (by omega))
          · simp only [subs_nil, subs_if, lk_if, lk_nil, dropR_nil, dropR_cons, Nat.reduceLT, List.cons_append, List.nil_append, List.elem_nil, List.elem_cons, Nat.reduceBEq, beq_self_eq_true, Bool.true_or, Bool.false_or, Bool.or_true, Bool.or_false, Bool.false_eq_true, ↓reduceIte, if_true, if_false, Nat.reduceEqDiff, and_self, and_true, true_and, eq_self]
  rintro k H' n' ⟨hn, hA, he⟩
  simp only [List.cons_append, List.nil_append, dropR_nil, dropR_cons, Nat.reduceLT, ↓reduceIte]
  refine wk0 ?_
  exact ⟨by rw [cmpV, if_neg (by omega), if_pos he]; rfl, agr⟩

theorem r2_Bit (a i : Nat) (hi : i < 256) (H : Heap) (n : Nat) : ACall Tryz.prog 116 [N a, .int .i64 (i : Nat)] H n (Ret (.int .u64 (bitOf a i : Nat)) H n) := by
  refine acall_retF mix lw Tryz.func116 ok116 (fun _ _ => Tryz.call116 _ _) rfl ?_
  have h1 : ¬ 255 < i := by omega
  have h0 : ¬ i < 0 := by omega
  have h2 : i / 16 < 16 := by omega
  refine wk5 @c116.eq_1 rN @zero16 @h0 @h1 ?_
  refine AGo_askV (r2_Digits a _ _) ?_
  refine wl5 rN @zero16 rL @h2 @bit_dg ?_
  exact ⟨rfl, agr⟩

theorem r2_Bits (a : Nat) (ha : a < BB) (H : Heap) (n : Nat) : ACall Tryz.prog 114 [N a] H n (Ret (.int .i64 (nbits a : Nat)) H n) := by
  refine acall_retF mix lw Tryz.func114 ok114 (fun _ _ => Tryz.call114 _ _) rfl ?_
  refine wk2 @c114.eq_1 rN ?_
  refine AGo_cycleD (α := Nat) 4 14 (fun k => [(3, .int .i64 (predV k))]) (fun k H' n' => k ≤ 256 ∧ n + 1 ≤ n' ∧ Agree n H H' ∧ H' n = some (.cells (vcells (N a)) 24 (0, 0)) ∧ a < 2 ^ k) (fun k H' n' => n + 1 ≤ n' ∧ Agree n H H' ∧ a < 1) (fun k => k) (256) ?_ (by simp only [pv256, subs_nil, subs_if, lk_if, lk_nil, dropR_nil, dropR_cons, Nat.reduceLT, List.cons_append, List.nil_append, List.elem_nil, List.elem_cons, Nat.reduceBEq, beq_self_eq_true, Bool.true_or, Bool.false_or, Bool.or_true, Bool.or_false, Bool.false_eq_true, ↓reduceIte, if_true, if_false, Nat.reduceEqDiff, and_self, and_true, true_and, eq_self]) ?_ ?_
  · refine ⟨Nat.le_refl _, by omega, agr, ?_, by rw [← BB_pow]; exact ha⟩
    simp (disch := first | assumption | omega) only [upd_same, upd_neq, vcells_N, w_zero]
  · rintro k H' n' kk ⟨hk, hn, hA, f0, he⟩ hK hS
    simp only [List.cons_append, List.nil_append, dropR_nil, dropR_cons, Nat.reduceLT, ↓reduceIte]
    simp only [vcells_N] at f0
    cases k with
    | zero =>
      refine AGo_turn ?_
      refine wk1 @predV_zero ?_
      refine AGo_markL ?_ (hK 0 _ _ ⟨by omega, agr, he⟩)
      · simp only [predV_zero, subs_nil, subs_if, lk_if, lk_nil, dropR_nil, dropR_cons, Nat.reduceLT, List.cons_append, List.nil_append, List.elem_nil, List.elem_cons, Nat.reduceBEq, beq_self_eq_true, Bool.true_or, Bool.false_or, Bool.or_true, Bool.or_false, Bool.false_eq_true, ↓reduceIte, if_true, if_false, Nat.reduceEqDiff, and_self, and_true, true_and, eq_self]
    | succ k =>
      have hkk : k < 1024 := by omega
      refine AGo_turn ?_
      refine wk4 @predV_succ @Nat.zero_le @f0 rN ?_
      refine AGo_askV (r2_Bit a k (by omega) _ _) ?_
      refine wk0 ?_
      by_cases h1 : bitOf a k = 1
      · refine wk1 @h1 ?_
        have h3 : nbits a = k + 1 := by
          have h4 := nbits_le.2 he
          have h5 : ¬ a < 2 ^ k := fun h => by rw [bitOf, Nat.div_eq_of_lt h] at h1; cases h1
          rw [← nbits_le] at h5; omega
        rw [h3]
        exact ⟨rfl, agr⟩
      · refine wk2 @h1 @bin_sub_pred ?_
        refine AGo_le ?_ (hS k _ _ ⟨by omega, by omega, agr, f0, ?_⟩ (by omega))
        · simp only [subs_nil, subs_if, lk_if, lk_nil, dropR_nil, dropR_cons, Nat.reduceLT, List.cons_append, List.nil_append, List.elem_nil, List.elem_cons, Nat.reduceBEq, beq_self_eq_true, Bool.true_or, Bool.false_or, Bool.or_true, Bool.or_false, Bool.false_eq_true, ↓reduceIte, if_true, if_false, Nat.reduceEqDiff, and_self, and_true, true_and, eq_self]
        have h2 : bitOf a k = 0 := by have : bitOf a k = a / 2 ^ k % 2 := rfl; omega
        have h3 : a / 2 ^ k < 2 := by rw [Nat.div_lt_iff_lt_mul (Nat.pow_pos (by decide))]; rw [Nat.pow_succ] at he; omega
        rw [bitOf] at h2
        have h4 : a / 2 ^ k = 0 := by
          generalize a / 2 ^ k = z at h2 h3 ⊢
          omega
        exact (Nat.div_eq_zero_iff_lt (Nat.pow_pos (by decide))).1 h4
  rintro k H' n' ⟨hn, hA, he⟩
  simp only [List.cons_append, List.nil_append, dropR_nil, dropR_cons, Nat.reduceLT, ↓reduceIte]
  refine wk0 ?_
  have h0 : a = 0 := by omega
  rw [h0, nbits_zero]
  exact ⟨rfl, agr⟩

theorem r2_Add (a b : Nat) (ha : a < BB) (hb : b < BB) (H : Heap) (n : Nat) : ACall Tryz.prog 144 [N a, N b] H n (Ret (.tuple #[N ((a + b) % BB), .int .u64 ((a + b) / BB : Nat)]) H n) := by
  refine acall_retF mix lw Tryz.func144 ok144 (fun _ _ => Tryz.call144 _ _) rfl ?_
  have hB := B_big
  rw [← cyD_all ha hb]
  refine wk3 @c144.eq_1 rN @zero16 ?_
  refine AGo_askV (r2_Digits a _ _) ?_
  refine wl3 rN @zero16 rL ?_
  refine AGo_askV (r2_Digits b _ _) ?_
  refine wl3 rN @zero16 rL ?_
  refine AGo_cycleD (α := Nat) 11 37 (fun k => [(9, .int .i64 (k : Nat)), (8, .int .u64 (cyD a b k : Nat))]) (fun k H' n' => k ≤ 16 ∧ n + 13 ≤ n' ∧ Agree n H H' ∧ H' (n + 2) = some (.cells (vcells (N 0)) 24 (0, 0)) ∧ H' (n + 6) = some (.cells (fl 16 (fun j => if j < k then dg (a + b) j else dg a j)) 160 (0, 0)) ∧ H' (n + 10) = some (.cells (fl 16 (dg b)) 160 (0, 0))) (fun k H' n' => k = 16 ∧ n + 13 ≤ n' ∧ Agree n H H' ∧ H' (n + 2) = some (.cells (vcells (N 0)) 24 (0, 0)) ∧ H' (n + 6) = some (.cells (fl 16 (dg (a + b))) 160 (0, 0))) (fun k => 16 - k) (0) ?_ (by simp only [cyD_zero, subs_nil, subs_if, lk_if, lk_nil, dropR_nil, dropR_cons, Nat.reduceLT, List.cons_append, List.nil_append, List.elem_nil, List.elem_cons, Nat.reduceBEq, beq_self_eq_true, Bool.true_or, Bool.false_or, Bool.or_true, Bool.or_false, Bool.false_eq_true, ↓reduceIte, if_true, if_false, Nat.reduceEqDiff, and_self, and_true, true_and, eq_self]) ?_ ?_
  · refine ⟨Nat.zero_le _, by omega, agr, ?_, ?_, ?_⟩
    · exact up0
    · simp (disch := first | assumption | omega) only [Nat.not_lt_zero, if_false, upd_same, upd_neq, vcells_N, w_zero]
    · exact up0
  · rintro k H' n' kk ⟨hk, hn, hA, f0, f1, f2⟩ hK hS
    simp only [List.cons_append, List.nil_append, dropR_nil, dropR_cons, Nat.reduceLT, ↓reduceIte]
    by_cases hlt : k < 16
    · have h1 := dg_lt a k; have h2 := dg_lt b k; have h3 := cyD_le a b k
      obtain ⟨e1, e2⟩ := add_digit a b k
      rw [Nat.add_assoc] at e1 e2
      refine AGo_turn ?_
      refine wl9 rL @hlt @Nat.lt_irrefl @f0 @f1 @f2 @modB @e1 @e2 ?_
      refine AGo_le ?_ (hS (k + 1) _ _ ⟨by omega, by omega, agr, ?_, ?_, ?_⟩ (by omega))
      · simp only [subs_nil, subs_if, lk_if, lk_nil, dropR_nil, dropR_cons, Nat.reduceLT, List.cons_append, List.nil_append, List.elem_nil, List.elem_cons, Nat.reduceBEq, beq_self_eq_true, Bool.true_or, Bool.false_or, Bool.or_true, Bool.or_false, Bool.false_eq_true, ↓reduceIte, if_true, if_false, Nat.reduceEqDiff, and_self, and_true, true_and, eq_self]
      · exact up1 @f0
      · exact up1 @fl_upto
      · exact up1 @f2
    · have hk2 : k = 16 := by omega
      subst hk2
      refine AGo_turn ?_
      refine wl5 rL @hlt @f0 @f1 @f2 ?_
      refine AGo_markL ?_ (hK 16 _ _ ⟨rfl, by omega, agr, f0, ?_⟩)
      · simp only [subs_nil, subs_if, lk_if, lk_nil, dropR_nil, dropR_cons, Nat.reduceLT, List.cons_append, List.nil_append, List.elem_nil, List.elem_cons, Nat.reduceBEq, beq_self_eq_true, Bool.true_or, Bool.false_or, Bool.or_true, Bool.or_false, Bool.false_eq_true, ↓reduceIte, if_true, if_false, Nat.reduceEqDiff, and_self, and_true, true_and, eq_self]
      rw [f1, fl_all_upto]
  rintro k H' n' ⟨rfl, hn, hA, f0, f1⟩
  simp only [List.cons_append, List.nil_append, dropR_nil, dropR_cons, Nat.reduceLT, ↓reduceIte]
  simp only [vcells_N0] at f0
  refine wl3 rL @f0 @f1 ?_
  refine AGo_askV (r2_of 16 0 16 _ _ _ _ _ _ (dg_lt _) (Nat.le_refl _) (by omega) f1) ?_
  refine wl4 rL @Nat.zero_add @ofd_all @f0 ?_
  exact ⟨rfl, agr⟩
end Go.Proofs.YtcjchcommaahdaaGreat
namespace Go.Proofs.YtcjchcommaahdaaGreat
open Go.Ab
theorem bin_sub_lt {a b : Nat} (h : b ≤ a) (ha : a < B) : binInt .sub .u64 a .u64 b = some (.int .u64 (a - b : Nat)) := by
  rw [bin_sub_u64, Nat.mod_eq_of_lt (show b < B by omega), show a + (B - b) = a - b + B by omega, Nat.add_mod_right, Nat.mod_eq_of_lt (by omega)]

theorem r2_Sub (a b : Nat) (ha : a < BB) (hb : b < BB) (H : Heap) (n : Nat) : ACall Tryz.prog 145 [N a, N b] H n (Ret (.tuple #[N ((a + BB - b) % BB), .int .u64 ((if a < b then 1 else 0 : Nat) : Nat)]) H n) := by
  refine acall_retF mix lw Tryz.func145 ok145 (fun _ _ => Tryz.call145 _ _) rfl ?_
  have hB := B_big
  rw [← bwD_all ha hb]
  refine wk3 @c145.eq_1 rN @zero16 ?_
  refine AGo_askV (r2_Digits a _ _) ?_
  refine wl3 rN @zero16 rL ?_
  refine AGo_askV (r2_Digits b _ _) ?_
  refine wl3 rN @zero16 rL ?_
  refine AGo_cycleD (α := Nat) 11 39 (fun k => [(9, .int .i64 (k : Nat)), (8, .int .u64 (bwD a b k : Nat))]) (fun k H' n' => k ≤ 16 ∧ n + 13 ≤ n' ∧ Agree n H H' ∧ H' (n + 2) = some (.cells (vcells (N 0)) 24 (0, 0)) ∧ H' (n + 6) = some (.cells (fl 16 (fun j => if j < k then dg (a + BB - b) j else dg a j)) 160 (0, 0)) ∧ H' (n + 10) = some (.cells (fl 16 (dg b)) 160 (0, 0))) (fun k H' n' => k = 16 ∧ n + 13 ≤ n' ∧ Agree n H H' ∧ H' (n + 2) = some (.cells (vcells (N 0)) 24 (0, 0)) ∧ H' (n + 6) = some (.cells (fl 16 (dg (a + BB - b))) 160 (0, 0))) (fun k => 16 - k) (0) ?_ (by simp only [bwD_zero, subs_nil, subs_if, lk_if, lk_nil, dropR_nil, dropR_cons, Nat.reduceLT, List.cons_append, List.nil_append, List.elem_nil, List.elem_cons, Nat.reduceBEq, beq_self_eq_true, Bool.true_or, Bool.false_or, Bool.or_true, Bool.or_false, Bool.false_eq_true, ↓reduceIte, if_true, if_false, Nat.reduceEqDiff, and_self, and_true, true_and, eq_self]) ?_ ?_
  · refine ⟨Nat.zero_le _, by omega, agr, ?_, ?_, ?_⟩
    · exact up0
    · simp (disch := first | assumption | omega) only [Nat.not_lt_zero, if_false, upd_same, upd_neq, vcells_N, w_zero]
    · exact up0
  · rintro k H' n' kk ⟨hk, hn, hA, f0, f1, f2⟩ hK hS
    simp only [List.cons_append, List.nil_append, dropR_nil, dropR_cons, Nat.reduceLT, ↓reduceIte]
    by_cases hlt : k < 16
    · have h1 := dg_lt a k; have h2 := dg_lt b k; have h3 := bwD_le a b k
      obtain ⟨e1, e2⟩ := sub_digit a b k hlt hb
      refine AGo_turn ?_
      refine wl10 rL @hlt @Nat.lt_irrefl @f0 @f1 @f2 @bin_sub_lt @modB @e1 @e2 ?_
      refine AGo_le ?_ (hS (k + 1) _ _ ⟨by omega, by omega, agr, ?_, ?_, ?_⟩ (by omega))
      · simp only [subs_nil, subs_if, lk_if, lk_nil, dropR_nil, dropR_cons, Nat.reduceLT, List.cons_append, List.nil_append, List.elem_nil, List.elem_cons, Nat.reduceBEq, beq_self_eq_true, Bool.true_or, Bool.false_or, Bool.or_true, Bool.or_false, Bool.false_eq_true, ↓reduceIte, if_true, if_false, Nat.reduceEqDiff, and_self, and_true, true_and, eq_self]
      · exact up1 @f0
      · exact up1 @fl_upto
      · exact up1 @f2
    · have hk2 : k = 16 := by omega
      subst hk2
      refine AGo_turn ?_
      refine wl5 rL @hlt @f0 @f1 @f2 ?_
      refine AGo_markL ?_ (hK 16 _ _ ⟨rfl, by omega, agr, f0, ?_⟩)
      · simp only [subs_nil, subs_if, lk_if, lk_nil, dropR_nil, dropR_cons, Nat.reduceLT, List.cons_append, List.nil_append, List.elem_nil, List.elem_cons, Nat.reduceBEq, beq_self_eq_true, Bool.true_or, Bool.false_or, Bool.or_true, Bool.or_false, Bool.false_eq_true, ↓reduceIte, if_true, if_false, Nat.reduceEqDiff, and_self, and_true, true_and, eq_self]
      rw [f1, fl_all_upto]
  rintro k H' n' ⟨rfl, hn, hA, f0, f1⟩
  simp only [List.cons_append, List.nil_append, dropR_nil, dropR_cons, Nat.reduceLT, ↓reduceIte]
  simp only [vcells_N0] at f0
  refine wl3 rL @f0 @f1 ?_
  refine AGo_askV (r2_of 16 0 16 _ _ _ _ _ _ (dg_lt _) (Nat.le_refl _) (by omega) f1) ?_
  refine wl4 rL @Nat.zero_add @ofd_all @f0 ?_
  exact ⟨rfl, agr⟩
theorem zero32 : [Value.int .u64 ((0 : Nat) : Int), .int .u64 ((0 : Nat) : Int), .int .u64 ((0 : Nat) : Int), .int .u64 ((0 : Nat) : Int), .int .u64 ((0 : Nat) : Int), .int .u64 ((0 : Nat) : Int), .int .u64 ((0 : Nat) : Int), .int .u64 ((0 : Nat) : Int), .int .u64 ((0 : Nat) : Int), .int .u64 ((0 : Nat) : Int), .int .u64 ((0 : Nat) : Int), .int .u64 ((0 : Nat) : Int), .int .u64 ((0 : Nat) : Int), .int .u64 ((0 : Nat) : Int), .int .u64 ((0 : Nat) : Int), .int .u64 ((0 : Nat) : Int), .int .u64 ((0 : Nat) : Int), .int .u64 ((0 : Nat) : Int), .int .u64 ((0 : Nat) : Int), .int .u64 ((0 : Nat) : Int), .int .u64 ((0 : Nat) : Int), .int .u64 ((0 : Nat) : Int), .int .u64 ((0 : Nat) : Int), .int .u64 ((0 : Nat) : Int), .int .u64 ((0 : Nat) : Int), .int .u64 ((0 : Nat) : Int), .int .u64 ((0 : Nat) : Int), .int .u64 ((0 : Nat) : Int), .int .u64 ((0 : Nat) : Int), .int .u64 ((0 : Nat) : Int), .int .u64 ((0 : Nat) : Int), .int .u64 ((0 : Nat) : Int)] = fl 32 (fun _ => 0) := rfl
theorem dg_zero (i : Nat) : dg 0 i = 0 := by simp [dg]
/-- The digits of what is there before a row's place k. -/
def rowF (a b i k j : Nat) : Nat := if j < i + k then dg (rowT (a % 65536 ^ i * b) (dg a i) b i k) j else if j < i + 16 then dg (a % 65536 ^ i * b) j else 0
theorem rowF_here {a b i k : Nat} (hk : k < 16) : rowF a b i k (i + k) = dg (a % 65536 ^ i * b) (i + k) := by
  rw [rowF, if_neg (by omega), if_pos (by omega)]
theorem rowF_step {a b i k : Nat} (hk : k < 16) : fl 32 (fun j => if j = i + k then dg (rowT (a % 65536 ^ i * b) (dg a i) b i (k + 1)) (i + k) else rowF a b i k j) = fl 32 (rowF a b i (k + 1)) := by
  refine fl_congr fun j _ => ?_
  unfold rowF
  by_cases h : j = i + k
  · rw [if_pos h, if_pos (by omega), h]
  · rw [if_neg h]
    by_cases h2 : j < i + k
    · rw [if_pos h2, if_pos (by omega), row_low _ _ _ _ _ _ h2]
    · rw [if_neg h2, if_neg (show ¬ j < i + (k + 1) by omega)]
theorem rowF_zero {a b i j : Nat} : rowF a b i 0 j = if j < i + 16 then dg (a % 65536 ^ i * b) j else 0 := by
  unfold rowF
  split
  · rename_i h
    rw [if_pos (show j < i + 16 by omega), rowT_zero, dg, dg]
    have e : 65536 ^ i = 65536 ^ j * (65536 * 65536 ^ (i - j - 1)) := by
      rw [show (65536 : Nat) * 65536 ^ (i - j - 1) = 65536 ^ (i - j - 1 + 1) by rw [Nat.pow_succ, Nat.mul_comm], ← Nat.pow_add]; congr 1; omega
    rw [show a % 65536 ^ i * b % 65536 ^ i = a % 65536 ^ i * b % (65536 ^ j * (65536 * 65536 ^ (i - j - 1))) by rw [← e], Nat.mod_mul_right_div_self, Nat.mod_mul_right_mod]
  · rfl
theorem rowF_end {a b i : Nat} (hb : b < BB) : fl 32 (fun j => if j = i + 16 then a % 65536 ^ (i + 1) * b / 65536 ^ (i + 16) else rowF a b i 16 j) = fl 32 (rowF a b (i + 1) 0) := by
  refine fl_congr fun j _ => ?_
  rw [rowF_zero, row_top a b i hb]
  unfold rowF
  rw [row_last a b i hb]
  by_cases h : j = i + 16
  · rw [if_pos h, if_pos (by omega), h]
  · rw [if_neg h]
    by_cases h2 : j < i + 16
    · rw [if_pos h2, if_pos (by omega)]
    · rw [if_neg h2, if_neg h2, if_neg (by omega)]
theorem rowF_start (a b : Nat) : fl 32 (fun _ => 0) = fl 32 (rowF a b 0 0) := by
  refine fl_congr fun j _ => ?_
  rw [rowF_zero]; simp [Nat.mod_one, dg_zero]
theorem rowF_all {a b : Nat} (ha : a < BB) : fl 32 (rowF a b 16 0) = fl 32 (dg (a * b)) := by
  refine fl_congr fun j hj => ?_
  rw [rowF_zero, if_pos (by omega), BB16, Nat.mod_eq_of_lt ha]
def rowC (a b i k : Nat) : Nat := rowT (a % 65536 ^ i * b) (dg a i) b i k / 65536 ^ (i + k)
theorem rowC_zero (a b i : Nat) : rowC a b i 0 = 0 := by
  rw [rowC, rowT_zero]; exact Nat.div_eq_of_lt (Nat.mod_lt _ (p16 _))
theorem rowC_step {a b i k : Nat} : (dg (a % 65536 ^ i * b) (i + k) + (dg a i * dg b k + rowC a b i k)) % 65536 = dg (rowT (a % 65536 ^ i * b) (dg a i) b i (k + 1)) (i + k) ∧ (dg (a % 65536 ^ i * b) (i + k) + (dg a i * dg b k + rowC a b i k)) / 65536 = rowC a b i (k + 1) := by
  rw [← Nat.add_assoc]; exact row_digit _ _ _ _ _
theorem rowC_end {a b i : Nat} (hb : b < BB) : rowC a b i 16 = a % 65536 ^ (i + 1) * b / 65536 ^ (i + 16) := by
  rw [rowC, row_last a b i hb]

theorem r2_Mul (a b : Nat) (ha : a < BB) (hb : b < BB) (H : Heap) (n : Nat) : ACall Tryz.prog 147 [N a, N b] H n (Ret (.tuple #[N (a * b % BB), N (a * b / BB)]) H n) := by
  refine acall_retF mix lw Tryz.func147 ok147 (fun _ _ => Tryz.call147 _ _) rfl ?_
  have hB := B_big
  have hq : a * b / BB < BB := (Nat.div_lt_iff_lt_mul BB_pos).2 (Nat.mul_lt_mul_of_lt_of_lt ha hb)
  refine wk4 @c147.eq_1 rN @zero16 @zero32 ?_
  refine AGo_askV (r2_Digits a _ _) ?_
  refine wl4 rN @zero16 @zero32 rL ?_
  refine AGo_askV (r2_Digits b _ _) ?_
  refine wl4 rN @zero16 @zero32 rL ?_
  refine AGo_cycleD (α := Nat) 10 56 (fun i => [(9, .int .i64 (i : Nat))]) (fun i H' n' => i ≤ 16 ∧ n + 13 ≤ n' ∧ Agree n H H' ∧ H' (n + 2) = some (.cells (vcells (N 0)) 24 (0, 0)) ∧ H' (n + 3) = some (.cells (vcells (N 0)) 24 (0, 0)) ∧ H' (n + 6) = some (.cells (fl 16 (dg a)) 160 (0, 0)) ∧ H' (n + 10) = some (.cells (fl 16 (dg b)) 160 (0, 0)) ∧ H' (n + 12) = some (.cells (fl 32 (rowF a b i 0)) 177 (0, 0))) (fun i H' n' => i = 16 ∧ n + 13 ≤ n' ∧ Agree n H H' ∧ H' (n + 2) = some (.cells (vcells (N 0)) 24 (0, 0)) ∧ H' (n + 3) = some (.cells (vcells (N 0)) 24 (0, 0)) ∧ H' (n + 12) = some (.cells (fl 32 (dg (a * b))) 177 (0, 0))) (fun i => 16 - i) (0) ?_ (by simp only [subs_nil, subs_if, lk_if, lk_nil, dropR_nil, dropR_cons, Nat.reduceLT, List.cons_append, List.nil_append, List.elem_nil, List.elem_cons, Nat.reduceBEq, beq_self_eq_true, Bool.true_or, Bool.false_or, Bool.or_true, Bool.or_false, Bool.false_eq_true, ↓reduceIte, if_true, if_false, Nat.reduceEqDiff, and_self, and_true, true_and, eq_self]) ?_ ?_
  · refine ⟨Nat.zero_le _, by omega, agr, ?_, ?_, ?_, ?_, ?_⟩
    · exact up1 @vcells_N0
    · exact up1 @vcells_N0
    · exact up0
    · exact up0
    · simp (disch := first | assumption | omega) only [upd_same, upd_neq, vcells_N, w_zero]
      exact congrArg (fun l => some (AObj.cells l _ _)) (rowF_start a b)
  · rintro i H1 n1 kk ⟨hi, hn, hA, f0, f1, f2, f3, f4⟩ hK hS
    simp only [List.cons_append, List.nil_append, dropR_nil, dropR_cons, Nat.reduceLT, ↓reduceIte]
    by_cases hlt : i < 16
    · refine AGo_turn ?_
      refine wl7 rL @hlt @f0 @f1 @f2 @f3 @f4 ?_
      refine AGo_cycleD (α := Nat) 12 56 (fun k => [(11, .int .i64 (k : Nat)), (10, .int .u64 (rowC a b i k : Nat))]) (fun k H' n' => k ≤ 16 ∧ n1 ≤ n' ∧ rowC a b i k < 65536 ∧ Agree n H H' ∧ H' (n + 2) = some (.cells (vcells (N 0)) 24 (0, 0)) ∧ H' (n + 3) = some (.cells (vcells (N 0)) 24 (0, 0)) ∧ H' (n + 6) = some (.cells (fl 16 (dg a)) 160 (0, 0)) ∧ H' (n + 10) = some (.cells (fl 16 (dg b)) 160 (0, 0)) ∧ H' (n + 12) = some (.cells (fl 32 (rowF a b i k)) 177 (0, 0))) (fun k H' n' => k = 16 ∧ n1 ≤ n' ∧ Agree n H H' ∧ H' (n + 2) = some (.cells (vcells (N 0)) 24 (0, 0)) ∧ H' (n + 3) = some (.cells (vcells (N 0)) 24 (0, 0)) ∧ H' (n + 6) = some (.cells (fl 16 (dg a)) 160 (0, 0)) ∧ H' (n + 10) = some (.cells (fl 16 (dg b)) 160 (0, 0)) ∧ H' (n + 12) = some (.cells (fl 32 (rowF a b i 16)) 177 (0, 0))) (fun k => 16 - k) (0) ?_ (by simp only [rowC_zero, subs_nil, subs_if, lk_if, lk_nil, dropR_nil, dropR_cons, Nat.reduceLT, List.cons_append, List.nil_append, List.elem_nil, List.elem_cons, Nat.reduceBEq, beq_self_eq_true, Bool.true_or, Bool.false_or, Bool.or_true, Bool.or_false, Bool.false_eq_true, ↓reduceIte, if_true, if_false, Nat.reduceEqDiff, and_self, and_true, true_and, eq_self]) ?_ ?_
      · exact ⟨Nat.zero_le _, by omega, by rw [rowC_zero]; decide, hA, f0, f1, f2, f3, f4⟩
      · clear f0 f1 f2 f3 f4 hA
        rintro k H' n' kk ⟨hk, hn', hc, hA, f0, f1, f2, f3, f4⟩ hK hS
        simp only [List.cons_append, List.nil_append, dropR_nil, dropR_cons, Nat.reduceLT, ↓reduceIte]
        by_cases hlt2 : k < 16
        · have h1 := dg_lt a i; have h2 := dg_lt b k; have h3 := dg_lt (a % 65536 ^ i * b) (i + k)
          have h4 : dg a i * dg b k ≤ 65535 * 65535 := Nat.mul_le_mul (by omega) (by omega)
          have hik : i + k < 32 := by omega
          have hrf := rowF_here (a := a) (b := b) (i := i) hlt2
          obtain ⟨e1, e2⟩ := rowC_step (a := a) (b := b) (i := i) (k := k)
          refine AGo_turn ?_
          refine wl12 rL @hlt2 @Nat.lt_irrefl @f0 @f1 @f2 @f3 @f4 @modB @hrf @e1 @e2 ?_
          refine AGo_le ?_ (hS (k + 1) _ _ ⟨by omega, by omega, ?_, agr, ?_, ?_, ?_, ?_, ?_⟩ (by omega))
          · simp only [subs_nil, subs_if, lk_if, lk_nil, dropR_nil, dropR_cons, Nat.reduceLT, List.cons_append, List.nil_append, List.elem_nil, List.elem_cons, Nat.reduceBEq, beq_self_eq_true, Bool.true_or, Bool.false_or, Bool.or_true, Bool.or_false, Bool.false_eq_true, ↓reduceIte, if_true, if_false, Nat.reduceEqDiff, and_self, and_true, true_and, eq_self]
          · rw [← e2]; omega
          · exact up1 @f0
          · exact up1 @f1
          · exact up1 @f2
          · exact up1 @f3
          · simp (disch := first | assumption | omega) only [rowF_step hlt2, upd_same, upd_neq, vcells_N, w_zero]
        · have hk2 : k = 16 := by omega
          subst hk2
          refine AGo_turn ?_
          refine wl2 rL @hlt2 ?_
          refine AGo_markL ?_ (hK 16 _ _ ⟨rfl, by omega, hA, f0, f1, f2, f3, f4⟩)
          · simp only [subs_nil, subs_if, lk_if, lk_nil, dropR_nil, dropR_cons, Nat.reduceLT, List.cons_append, List.nil_append, List.elem_nil, List.elem_cons, Nat.reduceBEq, beq_self_eq_true, Bool.true_or, Bool.false_or, Bool.or_true, Bool.or_false, Bool.false_eq_true, ↓reduceIte, if_true, if_false, Nat.reduceEqDiff, and_self, and_true, true_and, eq_self]
      clear f0 f1 f2 f3 f4 hA
      rintro k H' n' ⟨rfl, hn', hA, f0, f1, f2, f3, f4⟩
      simp only [List.cons_append, List.nil_append, dropR_nil, dropR_cons, Nat.reduceLT, ↓reduceIte]
      have hik : i + 16 < 32 := by omega
      simp (disch := first | assumption | omega) only [ite_lt, ite_le, bin_rem_u64, bin_quo_u64, fl_get, fl_splice, fl_splice_all, fl_length, fl_all, fl_take, cell_wK, hik, f0, f1, f2, f3, f4, rowC_end hb, W1, sim, ↓reduceIte, Nat.reduceAdd, Nat.reduceSub, Nat.reduceMul, Nat.reduceLT, Nat.reduceLeDiff, Nat.reduceEqDiff, Nat.reduceBEq, Nat.reduceBNe, Nat.reduceMod, Nat.reduceDiv]
      refine AGo_le ?_ (hS (i + 1) _ _ ⟨by omega, by omega, agr, ?_, ?_, ?_, ?_, ?_⟩ (by omega))
      · simp only [subs_nil, subs_if, lk_if, lk_nil, dropR_nil, dropR_cons, Nat.reduceLT, List.cons_append, List.nil_append, List.elem_nil, List.elem_cons, Nat.reduceBEq, beq_self_eq_true, Bool.true_or, Bool.false_or, Bool.or_true, Bool.or_false, Bool.false_eq_true, ↓reduceIte, if_true, if_false, Nat.reduceEqDiff, and_self, and_true, true_and, eq_self]
      · exact up1 @f0
      · exact up1 @f1
      · exact up1 @f2
      · exact up1 @f3
      · simp (disch := first | assumption | omega) only [rowF_end hb, upd_same, upd_neq, vcells_N, w_zero]
    · have hk2 : i = 16 := by omega
      subst hk2
      refine AGo_turn ?_
      refine wl2 rL @hlt ?_
      refine AGo_markL ?_ (hK 16 _ _ ⟨rfl, by omega, hA, f0, f1, ?_⟩)
      · simp only [subs_nil, subs_if, lk_if, lk_nil, dropR_nil, dropR_cons, Nat.reduceLT, List.cons_append, List.nil_append, List.elem_nil, List.elem_cons, Nat.reduceBEq, beq_self_eq_true, Bool.true_or, Bool.false_or, Bool.or_true, Bool.or_false, Bool.false_eq_true, ↓reduceIte, if_true, if_false, Nat.reduceEqDiff, and_self, and_true, true_and, eq_self]
      rw [f4, rowF_all ha]
  rintro i H' n' ⟨rfl, hn, hA, f0, f1, f4⟩
  simp only [List.cons_append, List.nil_append, dropR_nil, dropR_cons, Nat.reduceLT, ↓reduceIte]
  simp only [vcells_N0] at f0 f1
  refine wl4 rL @f0 @f1 @f4 ?_
  refine AGo_askV (r2_of 32 0 32 _ _ _ _ _ _ (dg_lt _) (by omega) (by omega) f4) ?_
  refine wl6 rL @Nat.zero_add @ofd_all @f0 @f1 @f4 ?_
  refine AGo_askV (r2_of 32 16 16 _ _ _ _ _ _ (dg_lt _) (by omega) (by omega) f4) ?_
  simp (disch := first | assumption | omega) only [ite_lt, ite_le, bin_rem_u64, bin_quo_u64, fl_get, fl_splice, fl_splice_all, fl_length, fl_all, fl_take, cell_wK, Nat.zero_add, ofd_high, Nat.mod_eq_of_lt hq, f0, f1, f4, W1, sim, ↓reduceIte, Nat.reduceAdd, Nat.reduceSub, Nat.reduceMul, Nat.reduceLT, Nat.reduceLeDiff, Nat.reduceEqDiff, Nat.reduceBEq, Nat.reduceBNe, Nat.reduceMod, Nat.reduceDiv]
  exact ⟨rfl, agr⟩
end Go.Proofs.YtcjchcommaahdaaGreat

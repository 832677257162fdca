/- The document's numbers that go round. The document's powers and inverses. The document's groups and scalars. No conditions. -/
import Derived.Test.YtcjchcommaahdaaGreatQ12
import Derived.Test.YtcjchcommaahdaaGreatQ20
set_option maxRecDepth 20000
set_option maxHeartbeats 4000000
set_option linter.all false
namespace Go.Proofs.YtcjchcommaahdaaGreat
open Go.Ab

theorem r4_May (a b m : U) (H : Heap) (n : Nat) : ACall Tryz.prog 110 [N a.val, N b.val, N m.val] H n (Ret (.bool (mayM a b m)) H n) := by
  refine acall_retF mix lw Tryz.func110 ok110 (fun _ _ => Tryz.call110 _ _) rfl ?_
  have ob := one_lt_BB
  have h1B : 1 < B := by rw [B_eq]; decide
  have ha := a.isLt; have hb := b.isLt; have hm := m.isLt
  by_cases h1 : 1 < m.val
  · by_cases h2 : a.val < m.val
    · by_cases h3 : b.val < m.val
      · refine wk6 @c110.eq_1 rN @mayM.eq_1 @h1 @h2 @h3 ?_
        repeat (first | (refine AGo_askV (r2_Of 1 h1B _ _ ) ?_; refine wk6 rN @cmp_gtr @cmp_lss @h1 @h2 @h3 ?_) | (refine AGo_askV (r2_Cmp m.val 1 hm ob _ _ ) ?_; refine wk6 rN @cmp_gtr @cmp_lss @h1 @h2 @h3 ?_) | (refine AGo_askV (r2_Cmp a.val m.val ha hm _ _ ) ?_; refine wk6 rN @cmp_gtr @cmp_lss @h1 @h2 @h3 ?_) | (refine AGo_askV (r2_Cmp b.val m.val hb hm _ _ ) ?_; refine wk6 rN @cmp_gtr @cmp_lss @h1 @h2 @h3 ?_))
        exact ⟨rfl, agr⟩
      · refine wk6 @c110.eq_1 rN @mayM.eq_1 @h1 @h2 @h3 ?_
        repeat (first | (refine AGo_askV (r2_Of 1 h1B _ _ ) ?_; refine wk6 rN @cmp_gtr @cmp_lss @h1 @h2 @h3 ?_) | (refine AGo_askV (r2_Cmp m.val 1 hm ob _ _ ) ?_; refine wk6 rN @cmp_gtr @cmp_lss @h1 @h2 @h3 ?_) | (refine AGo_askV (r2_Cmp a.val m.val ha hm _ _ ) ?_; refine wk6 rN @cmp_gtr @cmp_lss @h1 @h2 @h3 ?_) | (refine AGo_askV (r2_Cmp b.val m.val hb hm _ _ ) ?_; refine wk6 rN @cmp_gtr @cmp_lss @h1 @h2 @h3 ?_))
        exact ⟨rfl, agr⟩
    · refine wk5 @c110.eq_1 rN @mayM.eq_1 @h1 @h2 ?_
      repeat (first | (refine AGo_askV (r2_Of 1 h1B _ _ ) ?_; refine wk5 rN @cmp_gtr @cmp_lss @h1 @h2 ?_) | (refine AGo_askV (r2_Cmp m.val 1 hm ob _ _ ) ?_; refine wk5 rN @cmp_gtr @cmp_lss @h1 @h2 ?_) | (refine AGo_askV (r2_Cmp a.val m.val ha hm _ _ ) ?_; refine wk5 rN @cmp_gtr @cmp_lss @h1 @h2 ?_))
      exact ⟨rfl, agr⟩
  · refine wk4 @c110.eq_1 rN @mayM.eq_1 @h1 ?_
    repeat (first | (refine AGo_askV (r2_Of 1 h1B _ _ ) ?_; refine wk4 rN @cmp_gtr @cmp_lss @h1 ?_) | (refine AGo_askV (r2_Cmp m.val 1 hm ob _ _ ) ?_; refine wk4 rN @cmp_gtr @cmp_lss @h1 ?_))
    exact ⟨rfl, agr⟩

theorem r4_Add (a b m : U) (H : Heap) (n : Nat) : ACall Tryz.prog 108 [N a.val, N b.val, N m.val] H n (Ret (RV (modAdd a b m)) H n) := by
  refine acall_retF mix lw Tryz.func108 ok108 (fun _ _ => Tryz.call108 _ _) rfl ?_
  have bbp := BB_pos
  cases h : mayM a b m with
  | true =>
    obtain ⟨g1, g2, g3⟩ := mayM_iff.1 h
    have hv : (ur ((a.val + b.val) % m.val)).val = (a.val + b.val) % m.val := ur_mod (by omega)
    rw [show modAdd a b m = (ur ((a.val + b.val) % m.val), 0) by rw [modAdd, if_pos h]]
    obtain ⟨X, d, hX, hd, hXB, hc⟩ := add_cases g2 g3 m.isLt
    generalize hq : (a.val + b.val) % m.val = q at *
    refine wk4 @c108.eq_1 rN @RV.eq_1 @hv ?_
    refine AGo_askV (r4_May a b m _ _) ?_
    refine wk2 rN @h ?_
    refine AGo_askV (r2_Add a.val b.val a.isLt b.isLt _ _) ?_
    refine wk3 rN @hX @hd ?_
    rcases hc with ⟨rfl, h1⟩ | ⟨rfl, h0, h1⟩ | ⟨rfl, h0, h1⟩
    · refine wk1 rN ?_
      refine AGo_askV (r2_Sub X m.val hXB m.isLt _ _) ?_
      refine wk2 rN @h1 ?_
      exact ⟨rfl, agr⟩
    · refine wk1 rN ?_
      refine AGo_askV (r2_Cmp X m.val hXB m.isLt _ _) ?_
      simp (disch := first | assumption | omega) only [N_fold, N_zero, N_one, cmp_geq, Nat.le_of_not_lt h0, W, sim, ↓reduceIte, Nat.reduceAdd, Nat.reduceSub, Nat.reduceMul, Nat.reduceLT, Nat.reduceLeDiff, Nat.reduceEqDiff, Nat.reduceBEq, Nat.reduceBNe, Nat.reduceMod, Nat.reduceDiv]
      refine AGo_askV (r2_Sub X m.val hXB m.isLt _ _) ?_
      refine wk2 rN @h1 ?_
      exact ⟨rfl, agr⟩
    · have h2 : ¬ m.val ≤ X := by omega
      refine wk1 rN ?_
      refine AGo_askV (r2_Cmp X m.val hXB m.isLt _ _) ?_
      refine wk3 rN @cmp_geq @h2 ?_
      rw [h1]
      exact ⟨rfl, agr⟩
  | false =>
    rw [show modAdd a b m = (uz, 1) by rw [modAdd, h]; rfl]
    refine wk4 @c108.eq_1 rN @RV.eq_1 @uz_val ?_
    refine AGo_askV (r4_May a b m _ _) ?_
    refine wk2 rN @h ?_
    exact ⟨rfl, agr⟩
theorem r4_Sub (a b m : U) (H : Heap) (n : Nat) : ACall Tryz.prog 119 [N a.val, N b.val, N m.val] H n (Ret (RV (modSub a b m)) H n) := by
  refine acall_retF mix lw Tryz.func119 ok119 (fun _ _ => Tryz.call119 _ _) rfl ?_
  have bbp := BB_pos
  cases h : mayM a b m with
  | true =>
    obtain ⟨g1, g2, g3⟩ := mayM_iff.1 h
    have hm := m.isLt
    have hv : (ur ((a.val + m.val - b.val) % m.val)).val = (a.val + m.val - b.val) % m.val := ur_mod (by omega)
    rw [show modSub a b m = (ur ((a.val + m.val - b.val) % m.val), 0) by rw [modSub, if_pos h]]
    have hXB : (a.val + BB - b.val) % BB < BB := Nat.mod_lt _ bbp
    generalize hX : (a.val + BB - b.val) % BB = X at *
    by_cases hl : a.val < b.val
    · have e : (X + m.val) % BB = (a.val + m.val - b.val) % m.val := by
        rw [Nat.mod_eq_of_lt (show a.val + m.val - b.val < m.val by omega), ← hX, Nat.mod_eq_of_lt (show a.val + BB - b.val < BB by omega), show a.val + BB - b.val + m.val = (a.val + m.val - b.val) + BB by omega, Nat.add_mod_right, Nat.mod_eq_of_lt (by omega)]
      refine wk4 @c119.eq_1 rN @RV.eq_1 @hv ?_
      refine AGo_askV (r4_May a b m _ _) ?_
      refine wk2 rN @h ?_
      refine AGo_askV (r2_Sub a.val b.val a.isLt b.isLt _ _) ?_
      refine wk3 rN @hX @hl ?_
      refine AGo_askV (r2_Add X m.val hXB m.isLt _ _) ?_
      refine wk2 rN @e ?_
      exact ⟨rfl, agr⟩
    · have e : X = (a.val + m.val - b.val) % m.val := by
        rw [← hX, show a.val + BB - b.val = (a.val - b.val) + BB by omega, show a.val + m.val - b.val = (a.val - b.val) + m.val by omega, Nat.add_mod_right, Nat.add_mod_right, Nat.mod_eq_of_lt (show a.val - b.val < BB by omega), Nat.mod_eq_of_lt (show a.val - b.val < m.val by omega)]
      refine wk4 @c119.eq_1 rN @RV.eq_1 @hv ?_
      refine AGo_askV (r4_May a b m _ _) ?_
      refine wk2 rN @h ?_
      refine AGo_askV (r2_Sub a.val b.val a.isLt b.isLt _ _) ?_
      refine wk3 rN @hX @hl ?_
      rw [e]
      exact ⟨rfl, agr⟩
  | false =>
    rw [show modSub a b m = (uz, 1) by rw [modSub, h]; rfl]
    refine wk4 @c119.eq_1 rN @RV.eq_1 @uz_val ?_
    refine AGo_askV (r4_May a b m _ _) ?_
    refine wk2 rN @h ?_
    exact ⟨rfl, agr⟩
theorem r4_times (a b m : Nat) (ha : a < m) (hb : b < m) (hm : m < BB) (H : Heap) (n : Nat) : ACall Tryz.prog 115 [N a, N b, N m] H n (Ret (N (a * b % m)) H n) := by
  refine acall_retF mix lw Tryz.func115 ok115 (fun _ _ => Tryz.call115 _ _) rfl ?_
  have haB : a < BB := Nat.lt_trans ha hm
  have hbB : b < BB := Nat.lt_trans hb hm
  have hm0 : m ≠ 0 := by omega
  by_cases h : m < B
  · obtain ⟨s0, -⟩ := w_small h
    obtain ⟨sa, -⟩ := w_small (Nat.lt_trans ha h)
    obtain ⟨sb, -⟩ := w_small (Nat.lt_trans hb h)
    have haW : a < B := Nat.lt_trans ha h
    have hbW : b < B := Nat.lt_trans hb h
    have hhi : a * b / B < m := by
      rw [Nat.div_lt_iff_lt_mul B_pos]
      exact Nat.lt_of_le_of_lt (Nat.mul_le_mul_left a (Nat.le_of_lt hbW)) (Nat.mul_lt_mul_of_pos_right ha B_pos)
    have he : a * b / B * B + a * b % B = a * b := by rw [Nat.mul_comm]; exact Nat.div_add_mod _ _
    refine wk2 @c115.eq_1 rN ?_
    refine AGo_askV (r3_Word m hm _ _) ?_
    refine wk5 rN @h @sa @sb @s0 ?_
    refine AGo_askV (mul64 a b haW hbW _ _) ?_
    refine wk4 rN @sa @sb @s0 ?_
    refine AGo_askV (div64 (a * b / B) (a * b % B) m hhi (Nat.mod_lt _ B_pos) h _ _) ?_
    refine wk1 @he ?_
    refine AGo_askV (r2_Of (a * b % m) (Nat.lt_trans (Nat.mod_lt _ (by omega)) h) _ _) ?_
    refine wk1 rN ?_
    exact ⟨rfl, agr⟩
  · refine wk2 @c115.eq_1 rN ?_
    refine AGo_askV (r3_Word m hm _ _) ?_
    refine wk2 rN @h ?_
    refine AGo_askV (r2_Mul a b haB hbB _ _) ?_
    refine wk1 rN ?_
    refine AGo_askV (r3_Wide (a * b % BB) (a * b / BB) m (Nat.mod_lt _ BB_pos) ((Nat.div_lt_iff_lt_mul BB_pos).2 (Nat.mul_lt_mul_of_lt_of_lt haB hbB)) hm hm0 _ _) ?_
    refine wk1 rN ?_
    rw [show a * b / BB * BB + a * b % BB = a * b by rw [Nat.mul_comm]; exact Nat.div_add_mod _ _]
    exact ⟨rfl, agr⟩
theorem r4_Mul (a b m : U) (H : Heap) (n : Nat) : ACall Tryz.prog 123 [N a.val, N b.val, N m.val] H n (Ret (RV (modMul a b m)) H n) := by
  refine acall_retF mix lw Tryz.func123 ok123 (fun _ _ => Tryz.call123 _ _) rfl ?_
  have bbp := BB_pos
  cases h : mayM a b m with
  | true =>
    obtain ⟨g1, g2, g3⟩ := mayM_iff.1 h
    have hv : (ur (a.val * b.val % m.val)).val = a.val * b.val % m.val := ur_mod (by omega)
    rw [show modMul a b m = (ur (a.val * b.val % m.val), 0) by rw [modMul, if_pos h]]
    refine wk4 @c123.eq_1 rN @RV.eq_1 @hv ?_
    refine AGo_askV (r4_May a b m _ _) ?_
    refine wk2 rN @h ?_
    refine AGo_askV (r4_times a.val b.val m.val g2 g3 m.isLt _ _) ?_
    refine wk1 rN ?_
    exact ⟨rfl, agr⟩
  | false =>
    rw [show modMul a b m = (uz, 1) by rw [modMul, h]; rfl]
    refine wk4 @c123.eq_1 rN @RV.eq_1 @uz_val ?_
    refine AGo_askV (r4_May a b m _ _) ?_
    refine wk2 rN @h ?_
    exact ⟨rfl, agr⟩
theorem r4_sub_nat (x y m : Nat) (hx : x < m) (hy : y < m) (h1 : 1 < m) (hm : m < BB) (H : Heap) (n : Nat) : ACall Tryz.prog 119 [N x, N y, N m] H n (Ret (.tuple #[N ((x + m - y) % m), .int .i64 (0 : Nat)]) H n) := by
  have h := r4_Sub ⟨x, Nat.lt_trans hx hm⟩ ⟨y, Nat.lt_trans hy hm⟩ ⟨m, hm⟩ H n
  have hM : mayM (⟨x, Nat.lt_trans hx hm⟩ : U) ⟨y, Nat.lt_trans hy hm⟩ ⟨m, hm⟩ = true := mayM_iff.2 ⟨h1, hx, hy⟩
  rw [modSub, if_pos hM] at h
  simp only [RV] at h
  rw [ur_val (Nat.lt_trans (Nat.mod_lt _ (by omega)) hm)] at h
  exact h
end Go.Proofs.YtcjchcommaahdaaGreat
namespace Go.Proofs.YtcjchcommaahdaaGreat
open Go.Ab

theorem bitK (x i : Nat) (hx : x < BB) (hi : i < 256) : (wK x (i / 64) / 2 ^ (i % 64) &&& 1) % B = bitOf x i := by
  rw [← wAt_wK x (i / 64) (by omega), Nat.and_one_is_mod, bit_words x hx i hi]
  exact Nat.mod_eq_of_lt (Nat.lt_trans (show bitOf x i < 2 by unfold bitOf; omega) (by rw [B_eq]; decide))
theorem pwS_next {α : Type} (op : α → α → α) (a one : α) (n j : Nat) (hj : j + 1 ≤ nbits n) :
    pwS op a one n (nbits n - j) = if bitOf n j = 1 then op (op (pwS op a one n (nbits n - (j + 1))) (pwS op a one n (nbits n - (j + 1)))) a else op (pwS op a one n (nbits n - (j + 1))) (pwS op a one n (nbits n - (j + 1))) := by
  rw [show nbits n - j = (nbits n - (j + 1)) + 1 by omega]
  simp only [pwS]
  rw [show nbits n - 1 - (nbits n - (j + 1)) = j by omega]
theorem nbits_256 {e : Nat} (he : e < BB) : nbits e ≤ 256 := nbits_le.2 (by rw [← BB_pow]; exact he)

theorem r4_word (a e m : Nat) (ha : a < m) (h1 : 1 < m) (hm : m < B) (he : e < BB) (H : Heap) (n : Nat) : ACall Tryz.prog 113 [.int .u64 (a : Nat), N e, .int .u64 (m : Nat)] H n (Ret (.int .u64 (pw (fun x y => x * y % m) a 1 e : Nat)) H n) := by
  refine acall_retF mix lw Tryz.func113 ok113 (fun _ _ => Tryz.call113 _ _) rfl ?_
  have hm0 : m ≠ 0 := by omega
  have h1m : 1 % m = 1 := Nat.mod_eq_of_lt h1
  have haB : a < B := Nat.lt_trans ha hm
  have hnb := nbits_256 he
  have hnb2 : nbits e < 1024 := by omega
  have hhi : ∀ x y, x < m → y < m → x * y / B < m := fun x y hx hy => by
    rw [Nat.div_lt_iff_lt_mul B_pos]
    exact Nat.lt_of_le_of_lt (Nat.mul_le_mul_left x (Nat.le_of_lt (Nat.lt_trans hy hm))) (Nat.mul_lt_mul_of_pos_right hx B_pos)
  have hee : ∀ x y : Nat, x * y / B * B + x * y % B = x * y := fun x y => by rw [Nat.mul_comm (x * y / B)]; exact Nat.div_add_mod _ _
  have hS : ∀ k, pwS (fun x y => x * y % m) a 1 e k < m := fun k => pwS_lt h1 k
  have hnext := pwS_next (fun x y => x * y % m) a 1 e
  obtain ⟨F, hF⟩ : ∃ F, F = fun k => pwS (fun x y => x * y % m) a 1 e k := ⟨_, rfl⟩
  have hF0 : F 0 = 1 := by rw [hF]; rfl
  have hFn : pw (fun x y => x * y % m) a 1 e = F (nbits e) := by rw [hF]; rfl
  have hSF : ∀ k, F k < m := fun k => by rw [hF]; exact hS k
  have hnF : ∀ j, j + 1 ≤ nbits e → F (nbits e - j) = if bitOf e j = 1 then F (nbits e - (j + 1)) * F (nbits e - (j + 1)) % m * a % m else F (nbits e - (j + 1)) * F (nbits e - (j + 1)) % m := fun j hj => by rw [hF]; exact hnext j hj
  rw [hFn]
  clear hFn hS hnext hF
  refine wk4 @c113.eq_1 rN @bin_rem_u64 @h1m ?_
  refine AGo_askV (r2_Bits e he _ _) ?_
  refine wk2 rN @bin_sub_pred ?_
  refine AGo_cycleD (α := Nat) 9 56 (fun j => [(8, .int .i64 (predV j)), (7, .int .u64 (F (nbits e - j) : Nat))]) (fun j H' n' => j ≤ nbits e ∧ n + 1 ≤ n' ∧ Agree n H H' ∧ H' n = some (.cells (vcells (N e)) 24 (0, 0))) (fun j H' n' => j = 0 ∧ n + 1 ≤ n' ∧ Agree n H H') (fun j => j) (nbits e) ?_ (by simp only [Nat.sub_self, hF0, subs_nil, subs_if, lk_if, lk_nil, dropR_nil, dropR_cons, Nat.reduceLT, List.cons_append, List.nil_append, List.elem_nil, List.elem_cons, Nat.reduceBEq, beq_self_eq_true, Bool.true_or, Bool.false_or, Bool.or_true, Bool.or_false, Bool.false_eq_true, ↓reduceIte, if_true, if_false, Nat.reduceEqDiff, and_self, and_true, true_and, eq_self]) ?_ ?_
  · refine ⟨Nat.le_refl _, by omega, agr, ?_⟩
    simp (disch := first | assumption | omega) only [upd_same, upd_neq, vcells_N, w_zero]
  · rintro j H' n' kk ⟨hj, hn, hA, f0⟩ hK hS
    simp only [List.cons_append, List.nil_append, dropR_nil, dropR_cons, Nat.reduceLT, ↓reduceIte]
    simp only [vcells_N] at f0
    cases j with
    | zero =>
      refine AGo_turn ?_
      refine wk1 @predV_zero ?_
      refine AGo_markL ?_ (hK 0 _ _ ⟨rfl, by omega, agr⟩)
      · simp only [predV_zero, subs_nil, subs_if, lk_if, lk_nil, dropR_nil, dropR_cons, Nat.reduceLT, List.cons_append, List.nil_append, List.elem_nil, List.elem_cons, Nat.reduceBEq, beq_self_eq_true, Bool.true_or, Bool.false_or, Bool.or_true, Bool.or_false, Bool.false_eq_true, ↓reduceIte, if_true, if_false, Nat.reduceEqDiff, and_self, and_true, true_and, eq_self]
    | succ j =>
      have hj2 : j < 1024 := by omega
      have hj4 : j / 64 < 4 := by omega
      have hst := hnF j hj
      have hP := hSF (nbits e - (j + 1))
      generalize F (nbits e - (j + 1)) = p at *
      have hPB : p < B := Nat.lt_trans hP hm
      have hQ : p * p % m < m := Nat.mod_lt _ (by omega)
      have hQB : p * p % m < B := Nat.lt_trans hQ hm
      have hb := bitK e j he (by omega)
      refine AGo_turn ?_
      refine wk4 rN @predV_succ @Nat.zero_le @f0 ?_
      refine AGo_askV (mul64 p p hPB hPB _ _) ?_
      refine wk1 @f0 ?_
      refine AGo_askV (div64 (p * p / B) (p * p % B) m (hhi _ _ hP hP) (Nat.mod_lt _ B_pos) hm _ _) ?_
      refine wk2 @hee @f0 ?_
      have hc := hee p p
      refine wl4 rL @hc @f0 @hb ?_
      by_cases h1b : bitOf e j = 1
      · rw [if_pos h1b] at hst
        refine wk1 @h1b ?_
        refine AGo_askV (mul64 (p * p % m) a hQB haB _ _) ?_
        refine wk1 @f0 ?_
        refine AGo_askV (div64 (p * p % m * a / B) (p * p % m * a % B) m (hhi _ _ hQ ha) (Nat.mod_lt _ B_pos) hm _ _) ?_
        simp (disch := first | assumption | omega) only [hee, f0, bin_sub_pred, ← hst, W, sim, ↓reduceIte, Nat.reduceAdd, Nat.reduceSub, Nat.reduceMul, Nat.reduceLT, Nat.reduceLeDiff, Nat.reduceEqDiff, Nat.reduceBEq, Nat.reduceBNe, Nat.reduceMod, Nat.reduceDiv]
        refine AGo_le ?_ (hS j _ _ ⟨by omega, by omega, agr, f0⟩ (by omega))
        · simp only [subs_nil, subs_if, lk_if, lk_nil, dropR_nil, dropR_cons, Nat.reduceLT, List.cons_append, List.nil_append, List.elem_nil, List.elem_cons, Nat.reduceBEq, beq_self_eq_true, Bool.true_or, Bool.false_or, Bool.or_true, Bool.or_false, Bool.false_eq_true, ↓reduceIte, if_true, if_false, Nat.reduceEqDiff, and_self, and_true, true_and, eq_self]
      · rw [if_neg h1b] at hst
        simp (disch := first | assumption | omega) only [h1b, bin_sub_pred, ← hst, W, sim, ↓reduceIte, Nat.reduceAdd, Nat.reduceSub, Nat.reduceMul, Nat.reduceLT, Nat.reduceLeDiff, Nat.reduceEqDiff, Nat.reduceBEq, Nat.reduceBNe, Nat.reduceMod, Nat.reduceDiv]
        refine AGo_le ?_ (hS j _ _ ⟨by omega, by omega, agr, f0⟩ (by omega))
        · simp only [subs_nil, subs_if, lk_if, lk_nil, dropR_nil, dropR_cons, Nat.reduceLT, List.cons_append, List.nil_append, List.elem_nil, List.elem_cons, Nat.reduceBEq, beq_self_eq_true, Bool.true_or, Bool.false_or, Bool.or_true, Bool.or_false, Bool.false_eq_true, ↓reduceIte, if_true, if_false, Nat.reduceEqDiff, and_self, and_true, true_and, eq_self]
  rintro j H' n' ⟨rfl, hn, hA⟩
  simp only [List.cons_append, List.nil_append, dropR_nil, dropR_cons, Nat.reduceLT, ↓reduceIte]
  refine wk1 @Nat.sub_zero ?_
  exact ⟨rfl, agr⟩
theorem r4_Exp (a e m : U) (H : Heap) (n : Nat) : ACall Tryz.prog 68 [N a.val, N e.val, N m.val] H n (Ret (RV (modExp a e m)) H n) := by
  refine acall_retF mix lw Tryz.func68 ok68 (fun _ _ => Tryz.call68 _ _) rfl ?_
  have h1B : 1 < B := by rw [B_eq]; decide
  cases h : mayM a a m with
  | true =>
    obtain ⟨g1, g2, g3⟩ := mayM_iff.1 h
    have hm := m.isLt; have he := e.isLt
    have hpw : pw (fun x y => x * y % m.val) a.val 1 e.val < m.val := pwS_lt g1 _
    have hv : (ur (pw (fun x y => x * y % m.val) a.val 1 e.val)).val = pw (fun x y => x * y % m.val) a.val 1 e.val := ur_val (Nat.lt_trans hpw m.isLt)
    rw [show modExp a e m = (ur (pw (fun x y => x * y % m.val) a.val 1 e.val), 0) by rw [modExp, if_pos h]]
    by_cases hw : m.val < B
    · obtain ⟨s0, -⟩ := w_small hw
      obtain ⟨sa, -⟩ := w_small (Nat.lt_trans g2 hw)
      refine wk4 @c68.eq_1 rN @RV.eq_1 @hv ?_
      refine AGo_askV (r4_May a a m _ _) ?_
      refine wk2 rN @h ?_
      refine AGo_askV (r3_Word m.val hm _ _) ?_
      refine wk4 rN @hw @s0 @sa ?_
      refine AGo_askV (r4_word a.val e.val m.val g2 g1 hw he _ _) ?_
      refine wk1 rN ?_
      refine AGo_askV (r2_Of _ (Nat.lt_trans hpw hw) _ _) ?_
      refine wk1 rN ?_
      exact ⟨rfl, agr⟩
    · have hnb := nbits_256 he
      have hnb2 : nbits e.val < 1024 := by omega
      have hS : ∀ k, pwS (fun x y => x * y % m.val) a.val 1 e.val k < m.val := fun k => pwS_lt g1 k
      have hnext := pwS_next (fun x y => x * y % m.val) a.val 1 e.val
      obtain ⟨F, hF⟩ : ∃ F, F = fun k => pwS (fun x y => x * y % m.val) a.val 1 e.val k := ⟨_, rfl⟩
      have hF0 : F 0 = 1 := by rw [hF]; rfl
      have hFn : pw (fun x y => x * y % m.val) a.val 1 e.val = F (nbits e.val) := by rw [hF]; rfl
      have hSF : ∀ k, F k < m.val := fun k => by rw [hF]; exact hS k
      have hnF : ∀ j, j + 1 ≤ nbits e.val → F (nbits e.val - j) = if bitOf e.val j = 1 then F (nbits e.val - (j + 1)) * F (nbits e.val - (j + 1)) % m.val * a.val % m.val else F (nbits e.val - (j + 1)) * F (nbits e.val - (j + 1)) % m.val := fun j hj => by rw [hF]; exact hnext j hj
      rw [hFn] at hv ⊢
      clear hFn hS hnext hF hpw
      refine wk4 @c68.eq_1 rN @RV.eq_1 @hv ?_
      refine AGo_askV (r4_May a a m _ _) ?_
      refine wk2 rN @h ?_
      refine AGo_askV (r3_Word m.val hm _ _) ?_
      refine wk2 rN @hw ?_
      refine AGo_askV (r2_Of 1 h1B _ _) ?_
      refine wk1 rN ?_
      refine AGo_askV (r2_Bits e.val he _ _) ?_
      refine wk2 rN @bin_sub_pred ?_
      refine AGo_cycleD (α := Nat) 10 46 (fun j => [(9, .int .i64 (predV j))]) (fun j H' n' => j ≤ nbits e.val ∧ n + 14 ≤ n' ∧ Agree n H H' ∧ H' n = some (.cells (vcells (N a.val)) 24 (0, 0)) ∧ H' (n + 1) = some (.cells (vcells (N e.val)) 24 (0, 0)) ∧ H' (n + 2) = some (.cells (vcells (N m.val)) 24 (0, 0)) ∧ H' (n + 3) = some (.cells (vcells (N 0)) 24 (0, 0)) ∧ H' (n + 13) = some (.cells (vcells (N (F (nbits e.val - j)))) 24 (0, 0))) (fun j H' n' => j = 0 ∧ n + 14 ≤ n' ∧ Agree n H H' ∧ H' (n + 3) = some (.cells (vcells (N 0)) 24 (0, 0)) ∧ H' (n + 13) = some (.cells (vcells (N (F (nbits e.val)))) 24 (0, 0))) (fun j => j) (nbits e.val) ?_ (by simp only [subs_nil, subs_if, lk_if, lk_nil, dropR_nil, dropR_cons, Nat.reduceLT, List.cons_append, List.nil_append, List.elem_nil, List.elem_cons, Nat.reduceBEq, beq_self_eq_true, Bool.true_or, Bool.false_or, Bool.or_true, Bool.or_false, Bool.false_eq_true, ↓reduceIte, if_true, if_false, Nat.reduceEqDiff, and_self, and_true, true_and, eq_self]) ?_ ?_
      · refine ⟨Nat.le_refl _, by omega, agr, ?_, ?_, ?_, ?_, ?_⟩
        · exact up0
        · exact up0
        · exact up0
        · exact up1 @vcells_N0
        · simp (disch := first | assumption | omega) only [Nat.sub_self, hF0, upd_same, upd_neq, vcells_N, w_zero]
      · rintro j H' n' kk ⟨hj, hn, hA, f0, f1, f2, f3, f4⟩ hK hS
        simp only [List.cons_append, List.nil_append, dropR_nil, dropR_cons, Nat.reduceLT, ↓reduceIte]
        simp only [vcells_N] at f0 f1 f2 f4
        cases j with
        | zero =>
          refine AGo_turn ?_
          refine wk1 @predV_zero ?_
          refine AGo_markL ?_ (hK 0 _ _ ⟨rfl, by omega, agr, f3, f4⟩)
          · simp only [predV_zero, subs_nil, subs_if, lk_if, lk_nil, dropR_nil, dropR_cons, Nat.reduceLT, List.cons_append, List.nil_append, List.elem_nil, List.elem_cons, Nat.reduceBEq, beq_self_eq_true, Bool.true_or, Bool.false_or, Bool.or_true, Bool.or_false, Bool.false_eq_true, ↓reduceIte, if_true, if_false, Nat.reduceEqDiff, and_self, and_true, true_and, eq_self]
        | succ j =>
          have hj2 : j < 1024 := by omega
          have hst := hnF j hj
          have hP := hSF (nbits e.val - (j + 1))
          generalize hp : F (nbits e.val - (j + 1)) = p at *
          have hQ : p * p % m.val < m.val := Nat.mod_lt _ (by omega)
          refine AGo_turn ?_
          refine wk7 rN @predV_succ @Nat.zero_le @f0 @f1 @f2 @f4 ?_
          refine AGo_askV (r4_times p p m.val hP hP hm _ _) ?_
          refine wk5 rN @f0 @f1 @f2 @f4 ?_
          refine AGo_askV (r2_Bit e.val j (by omega) _ _) ?_
          refine wk5 rN @f0 @f1 @f2 @f4 ?_
          by_cases h1b : bitOf e.val j = 1
          · rw [if_pos h1b] at hst
            refine wk6 rN @h1b @f0 @f1 @f2 @f4 ?_
            refine AGo_askV (r4_times (p * p % m.val) a.val m.val hQ g2 hm _ _) ?_
            simp (disch := first | assumption | omega) only [N_fold, N_zero, N_one, f0, f1, f2, f4, bin_sub_pred, ← hst, W, sim, ↓reduceIte, Nat.reduceAdd, Nat.reduceSub, Nat.reduceMul, Nat.reduceLT, Nat.reduceLeDiff, Nat.reduceEqDiff, Nat.reduceBEq, Nat.reduceBNe, Nat.reduceMod, Nat.reduceDiv]
            refine AGo_le ?_ (hS j _ _ ⟨by omega, by omega, agr, ?_, ?_, ?_, ?_, ?_⟩ (by omega))
            · simp only [subs_nil, subs_if, lk_if, lk_nil, dropR_nil, dropR_cons, Nat.reduceLT, List.cons_append, List.nil_append, List.elem_nil, List.elem_cons, Nat.reduceBEq, beq_self_eq_true, Bool.true_or, Bool.false_or, Bool.or_true, Bool.or_false, Bool.false_eq_true, ↓reduceIte, if_true, if_false, Nat.reduceEqDiff, and_self, and_true, true_and, eq_self]
            · exact up1 @f0
            · exact up1 @f1
            · exact up1 @f2
            · exact up1 @f3
            · exact up0
          · rw [if_neg h1b] at hst
            simp (disch := first | assumption | omega) only [h1b, bin_sub_pred, ← hst, W, sim, ↓reduceIte, Nat.reduceAdd, Nat.reduceSub, Nat.reduceMul, Nat.reduceLT, Nat.reduceLeDiff, Nat.reduceEqDiff, Nat.reduceBEq, Nat.reduceBNe, Nat.reduceMod, Nat.reduceDiv]
            refine AGo_le ?_ (hS j _ _ ⟨by omega, by omega, agr, ?_, ?_, ?_, ?_, ?_⟩ (by omega))
            · simp only [subs_nil, subs_if, lk_if, lk_nil, dropR_nil, dropR_cons, Nat.reduceLT, List.cons_append, List.nil_append, List.elem_nil, List.elem_cons, Nat.reduceBEq, beq_self_eq_true, Bool.true_or, Bool.false_or, Bool.or_true, Bool.or_false, Bool.false_eq_true, ↓reduceIte, if_true, if_false, Nat.reduceEqDiff, and_self, and_true, true_and, eq_self]
            · exact up1 @f0
            · exact up1 @f1
            · exact up1 @f2
            · exact up1 @f3
            · exact up0
      rintro j H' n' ⟨rfl, hn, hA, f3, f4⟩
      simp only [List.cons_append, List.nil_append, dropR_nil, dropR_cons, Nat.reduceLT, ↓reduceIte]
      simp only [vcells_N, w_zero] at f3 f4
      refine wk3 rN @f3 @f4 ?_
      exact ⟨rfl, agr⟩
  | false =>
    rw [show modExp a e m = (uz, 1) by rw [modExp, h]; rfl]
    refine wk4 @c68.eq_1 rN @RV.eq_1 @uz_val ?_
    refine AGo_askV (r4_May a a m _ _) ?_
    refine wk2 rN @h ?_
    exact ⟨rfl, agr⟩
theorem r4_Inv (a m : U) (H : Heap) (n : Nat) : ACall Tryz.prog 70 [N a.val, N m.val] H n (Ret (RV (modInv a m)) H n) := by
  refine acall_retF mix lw Tryz.func70 ok70 (fun _ _ => Tryz.call70 _ _) rfl ?_
  have bbp := BB_pos
  have ob := one_lt_BB
  have h1B : 1 < B := by rw [B_eq]; decide
  have hm := m.isLt
  cases h : mayM a a m with
  | true =>
    obtain ⟨g1, g2, g3⟩ := mayM_iff.1 h
    have hgB : Nat.gcd a.val m.val < BB := Nat.lt_of_le_of_lt (Nat.gcd_le_right _ (by omega)) hm
    by_cases hg : Nat.gcd a.val m.val = 1
    · obtain ⟨p1, p2⟩ := inv_prop (m.val + 1) m.val a.val 0 1 (InvAt.start g1 g2 hg) (by omega)
      generalize hV : invGo m.val (m.val + 1) m.val a.val 0 1 = V at *
      have hv : (ur V).val = V := ur_val (Nat.lt_trans p1 m.isLt)
      rw [show modInv a m = (ur V, 0) by rw [modInv, if_pos h, if_pos hg, hV]]
      refine wk4 @c70.eq_1 rN @RV.eq_1 @hv ?_
      refine AGo_askV (r4_May a a m _ _) ?_
      refine wk2 rN @h ?_
      refine AGo_askV (r3_Common a.val m.val a.isLt hm _ _) ?_
      refine wk2 rN @hg ?_
      refine AGo_askV (r2_Of 1 h1B _ _) ?_
      refine wk1 rN ?_
      refine AGo_askV (r2_Of 1 h1B _ _) ?_
      refine wk1 rN ?_
      refine AGo_cycleD (α := Nat × Nat × Nat × Nat × Nat) 10 62 (fun _ => []) (fun x H' n' => InvAt a.val m.val x.2.1 x.2.2.1 x.2.2.2.1 x.2.2.2.2 ∧ x.2.2.1 < x.1 ∧ invGo m.val x.1 x.2.1 x.2.2.1 x.2.2.2.1 x.2.2.2.2 = V ∧ n + 23 ≤ n' ∧ Agree n H H' ∧ H' (n + 1) = some (.cells (vcells (N m.val)) 24 (0, 0)) ∧ H' (n + 2) = some (.cells (vcells (N (0))) 24 (0, 0)) ∧ H' (n + 15) = some (.cells (vcells (N (x.2.1))) 24 (0, 0)) ∧ H' (n + 18) = some (.cells (vcells (N (x.2.2.1))) 24 (0, 0)) ∧ H' (n + 20) = some (.cells (vcells (N (x.2.2.2.1))) 24 (0, 0)) ∧ H' (n + 22) = some (.cells (vcells (N (x.2.2.2.2))) 24 (0, 0))) (fun _ H' n' => n + 23 ≤ n' ∧ Agree n H H' ∧ H' (n + 2) = some (.cells (vcells (N (0))) 24 (0, 0)) ∧ H' (n + 22) = some (.cells (vcells (N (V))) 24 (0, 0))) (fun x => x.1) ((m.val + 1, m.val, a.val, 0, 1)) ?_ (by simp only [subs_nil, subs_if, lk_if, lk_nil, dropR_nil, dropR_cons, Nat.reduceLT, List.cons_append, List.nil_append, List.elem_nil, List.elem_cons, Nat.reduceBEq, beq_self_eq_true, Bool.true_or, Bool.false_or, Bool.or_true, Bool.or_false, Bool.false_eq_true, ↓reduceIte, if_true, if_false, Nat.reduceEqDiff, and_self, and_true, true_and, eq_self]) ?_ ?_
      · refine ⟨InvAt.start g1 g2 hg, by show a.val < m.val + 1; omega, hV, by omega, agr, ?_, ?_, ?_, ?_, ?_, ?_⟩
        · exact up0
        · exact up0
        · exact up0
        · exact up0
        · exact up0
        · exact up0
      · rintro ⟨f, r, s, x, y⟩ H' n' kk ⟨hI, hf, hgo, hn, hA, f2, f3, f13, f14, f15, f16⟩ hK hS
        dsimp only at hI hf hgo f13 f14 f15 f16
        simp only [List.cons_append, List.nil_append, dropR_nil, dropR_cons, Nat.reduceLT, ↓reduceIte]
        simp only [vcells_N] at f2 f3 f13 f14 f15 f16
        have hs1 := hI.s1; have hsr := hI.sr; have hr1 := hI.r1; have hx1 := hI.x1; have hy1 := hI.y1
        have hsB : s < BB := by omega
        obtain ⟨f', rfl⟩ : ∃ f', f = f' + 1 := ⟨f - 1, by omega⟩
        by_cases h0 : s = 1
        · subst h0
          rw [invGo, if_pos rfl] at hgo
          subst hgo
          refine AGo_turn ?_
          refine wk2 rN @f14 ?_
          refine AGo_askV (r2_Of 1 h1B _ _) ?_
          refine wk2 rN @f14 ?_
          refine AGo_markL ?_ (hK (0, 0, 0, 0, 0) _ _ ⟨by omega, agr, ?_, ?_⟩)
          · simp only [subs_nil, subs_if, lk_if, lk_nil, dropR_nil, dropR_cons, Nat.reduceLT, List.cons_append, List.nil_append, List.elem_nil, List.elem_cons, Nat.reduceBEq, beq_self_eq_true, Bool.true_or, Bool.false_or, Bool.or_true, Bool.or_false, Bool.false_eq_true, ↓reduceIte, if_true, if_false, Nat.reduceEqDiff, and_self, and_true, true_and, eq_self]
          · exact up1 @f3
          · exact up1 @f16
        · rw [invGo, if_neg h0] at hgo
          have hq : r / s < m.val := by
            have h2 : 2 ≤ s := by omega
            exact (Nat.div_lt_iff_lt_mul hs1).2 (by have := Nat.mul_le_mul_left m.val h2; omega)
          have hqy : r / s * y % m.val < m.val := Nat.mod_lt _ (by omega)
          refine AGo_turn ?_
          refine wk2 rN @f14 ?_
          refine AGo_askV (r2_Of 1 h1B _ _) ?_
          refine wk8 rN @h0 @f2 @f3 @f13 @f14 @f15 @f16 ?_
          refine AGo_askV (r3_div r s (by omega) hsB (by omega) _ _) ?_
          refine wk7 rN @f2 @f3 @f13 @f14 @f15 @f16 ?_
          refine AGo_askV (r3_div (r / s) m.val (by omega) hm (by omega) _ _) ?_
          refine wk7 rN @f2 @f3 @f13 @f14 @f15 @f16 ?_
          refine AGo_askV (r4_times (r / s % m.val) y m.val (Nat.mod_lt _ (by omega)) hy1 hm _ _) ?_
          refine wk8 rN @Nat.mod_mul_mod @f2 @f3 @f13 @f14 @f15 @f16 ?_
          refine AGo_askV (r4_sub_nat x (r / s * y % m.val) m.val hx1 hqy g1 hm _ _) ?_
          refine wk7 rN @f2 @f3 @f13 @f14 @f15 @f16 ?_
          refine AGo_le ?_ (hS (f', s, r % s, y, (x + m.val - r / s * y % m.val) % m.val) _ _ ⟨hI.next h0, ?_, hgo, by omega, agr, ?_, ?_, ?_, ?_, ?_, ?_⟩ (by show f' < f' + 1; omega))
          · simp only [subs_nil, subs_if, lk_if, lk_nil, dropR_nil, dropR_cons, Nat.reduceLT, List.cons_append, List.nil_append, List.elem_nil, List.elem_cons, Nat.reduceBEq, beq_self_eq_true, Bool.true_or, Bool.false_or, Bool.or_true, Bool.or_false, Bool.false_eq_true, ↓reduceIte, if_true, if_false, Nat.reduceEqDiff, and_self, and_true, true_and, eq_self]
          · show r % s < f'
            have := Nat.mod_lt r hs1; omega
          · exact up1 @f2
          · exact up1 @f3
          · exact up0
          · exact up0
          · exact up0
          · exact up0
      rintro x H' n' ⟨hn, hA, f3, f16⟩
      simp only [List.cons_append, List.nil_append, dropR_nil, dropR_cons, Nat.reduceLT, ↓reduceIte]
      simp only [vcells_N] at f3 f16
      refine wk3 rN @f3 @f16 ?_
      exact ⟨rfl, agr⟩
    · rw [show modInv a m = (uz, 7) by rw [modInv, if_pos h, if_neg hg]]
      refine wk4 @c70.eq_1 rN @RV.eq_1 @uz_val ?_
      refine AGo_askV (r4_May a a m _ _) ?_
      refine wk2 rN @h ?_
      refine AGo_askV (r3_Common a.val m.val a.isLt hm _ _) ?_
      refine wk1 rN ?_
      refine AGo_askV (r2_Of 1 h1B _ _) ?_
      refine wk2 rN @hg ?_
      exact ⟨rfl, agr⟩
  | false =>
    rw [show modInv a m = (uz, 1) by rw [modInv, h]; rfl]
    refine wk4 @c70.eq_1 rN @RV.eq_1 @uz_val ?_
    refine AGo_askV (r4_May a a m _ _) ?_
    refine wk2 rN @h ?_
    exact ⟨rfl, agr⟩
end Go.Proofs.YtcjchcommaahdaaGreat
namespace Go.Proofs.YtcjchcommaahdaaGreat
open Go.Ab

theorem r9_Add (G : Grp) (a b : U) (H : Heap) (n : Nat) : ACall Tryz.prog 66 [GV G, N a.val, N b.val] H n (Ret (RV (modAdd a b G.q)) H n) := by
  refine acall_retF mix lw Tryz.func66 ok66 (fun _ _ => Tryz.call66 _ _) rfl ?_
  refine wk3 @c66.eq_1 rN rG ?_
  refine AGo_askV (r4_Add a b G.q _ _) ?_
  refine wk3 rN rG @RV.eq_1 ?_
  exact ⟨rfl, agr⟩
theorem r9_Sub (G : Grp) (a b : U) (H : Heap) (n : Nat) : ACall Tryz.prog 81 [GV G, N a.val, N b.val] H n (Ret (RV (modSub a b G.q)) H n) := by
  refine acall_retF mix lw Tryz.func81 ok81 (fun _ _ => Tryz.call81 _ _) rfl ?_
  refine wk3 @c81.eq_1 rN rG ?_
  refine AGo_askV (r4_Sub a b G.q _ _) ?_
  refine wk3 rN rG @RV.eq_1 ?_
  exact ⟨rfl, agr⟩
theorem r9_Mul (G : Grp) (a b : U) (H : Heap) (n : Nat) : ACall Tryz.prog 77 [GV G, N a.val, N b.val] H n (Ret (RV (modMul a b G.q)) H n) := by
  refine acall_retF mix lw Tryz.func77 ok77 (fun _ _ => Tryz.call77 _ _) rfl ?_
  refine wk3 @c77.eq_1 rN rG ?_
  refine AGo_askV (r4_Mul a b G.q _ _) ?_
  refine wk3 rN rG @RV.eq_1 ?_
  exact ⟨rfl, agr⟩
theorem r9_Inv (G : Grp) (a : U) (H : Heap) (n : Nat) : ACall Tryz.prog 31 [GV G, N a.val] H n (Ret (RV (modInv a G.q)) H n) := by
  refine acall_retF mix lw Tryz.func31 ok31 (fun _ _ => Tryz.call31 _ _) rfl ?_
  refine wk3 @c31.eq_1 rN rG ?_
  refine AGo_askV (r4_Inv a G.q _ _) ?_
  refine wk3 rN rG @RV.eq_1 ?_
  exact ⟨rfl, agr⟩
theorem r8_one (H : Heap) (n : Nat) : ACall Tryz.prog 69 [] H n (Ret (N 1) H n) := by
  refine acall_retF mix lw Tryz.func69 ok69 (fun _ _ => Tryz.call69 _ _) rfl ?_
  have h1B : 1 < B := by rw [B_eq]; decide
  refine wk2 @c69.eq_1 rN ?_
  refine AGo_askV (r2_Of 1 h1B _ _) ?_
  refine wk1 rN ?_
  exact ⟨rfl, agr⟩
theorem r8_May (G : Grp) (a : U) (H : Heap) (n : Nat) : ACall Tryz.prog 67 [GV G, N a.val] H n (Ret (.bool (mayG G a)) H n) := by
  refine acall_retF mix lw Tryz.func67 ok67 (fun _ _ => Tryz.call67 _ _) rfl ?_
  have bbp := BB_pos
  have ob := one_lt_BB
  have ha := a.isLt; have hp := G.p.isLt
  by_cases h1 : 1 < G.p.val
  · by_cases h2 : a.val = 0
    · refine wk3 @c67.eq_1 rN rG ?_
      refine AGo_askV (r8_one _ _) ?_
      refine wk2 rN rG ?_
      refine AGo_askV (r2_Cmp G.p.val 1 hp ob _ _) ?_
      refine wk5 rN rG @cmp_gtr @h1 @h2 ?_
      exact ⟨by simp [mayG, h1, h2], agr⟩
    · refine wk3 @c67.eq_1 rN rG ?_
      refine AGo_askV (r8_one _ _) ?_
      refine wk2 rN rG ?_
      refine AGo_askV (r2_Cmp G.p.val 1 hp ob _ _) ?_
      refine wk5 rN rG @cmp_gtr @h1 @h2 ?_
      refine AGo_askV (r2_Cmp a.val G.p.val ha hp _ _) ?_
      refine wk4 rN rG @cmp_lss @h1 ?_
      exact ⟨by simp [mayG, h1, h2], agr⟩
  · refine wk3 @c67.eq_1 rN rG ?_
    refine AGo_askV (r8_one _ _) ?_
    refine wk2 rN rG ?_
    refine AGo_askV (r2_Cmp G.p.val 1 hp ob _ _) ?_
    refine wk4 rN rG @cmp_gtr @h1 ?_
    exact ⟨by simp [mayG, h1], agr⟩
theorem r8_Exp (G : Grp) (a n0 : U) (H : Heap) (n : Nat) : ACall Tryz.prog 32 [GV G, N a.val, N n0.val] H n (Ret (RV (grpExp G a n0)) H n) := by
  refine acall_retF mix lw Tryz.func32 ok32 (fun _ _ => Tryz.call32 _ _) rfl ?_
  cases h : mayG G a with
  | true =>
    rw [show grpExp G a n0 = modExp a n0 G.p by rw [grpExp, if_pos h]]
    refine wk3 @c32.eq_1 rN rG ?_
    refine AGo_askV (r8_May G a _ _) ?_
    refine wk3 rN rG @h ?_
    refine AGo_askV (r4_Exp a n0 G.p _ _) ?_
    refine wk3 rN rG @RV.eq_1 ?_
    exact ⟨rfl, agr⟩
  | false =>
    rw [show grpExp G a n0 = (uz, 1) by rw [grpExp, h]; rfl]
    refine wk3 @c32.eq_1 rN rG ?_
    refine AGo_askV (r8_May G a _ _) ?_
    refine wk5 rN rG @h @RV.eq_1 @uz_val ?_
    exact ⟨rfl, agr⟩
theorem r8_Mul (G : Grp) (a b : U) (H : Heap) (n : Nat) : ACall Tryz.prog 82 [GV G, N a.val, N b.val] H n (Ret (RV (grpMul G a b)) H n) := by
  refine acall_retF mix lw Tryz.func82 ok82 (fun _ _ => Tryz.call82 _ _) rfl ?_
  cases h : mayG G a with
  | true =>
    cases h2 : mayG G b with
    | true =>
      rw [show grpMul G a b = modMul a b G.p by rw [grpMul, h, h2]; rfl]
      refine wk3 @c82.eq_1 rN rG ?_
      refine AGo_askV (r8_May G a _ _) ?_
      refine wk3 rN rG @h ?_
      refine AGo_askV (r8_May G b _ _) ?_
      refine wk3 rN rG @h2 ?_
      refine AGo_askV (r4_Mul a b G.p _ _) ?_
      refine wk3 rN rG @RV.eq_1 ?_
      exact ⟨rfl, agr⟩
    | false =>
      rw [show grpMul G a b = (uz, 1) by rw [grpMul, h, h2]; rfl]
      refine wk3 @c82.eq_1 rN rG ?_
      refine AGo_askV (r8_May G a _ _) ?_
      refine wk3 rN rG @h ?_
      refine AGo_askV (r8_May G b _ _) ?_
      refine wk5 rN rG @h2 @RV.eq_1 @uz_val ?_
      exact ⟨rfl, agr⟩
  | false =>
    rw [show grpMul G a b = (uz, 1) by rw [grpMul, h]; rfl]
    refine wk3 @c82.eq_1 rN rG ?_
    refine AGo_askV (r8_May G a _ _) ?_
    refine wk5 rN rG @h @RV.eq_1 @uz_val ?_
    exact ⟨rfl, agr⟩
theorem modExp_err (a n m : U) : (decide ((modExp a n m).2 = 0) && decide ((modExp a n m).1.val = 1)) = decide ((modExp a n m).1.val = 1) := by
  unfold modExp
  split
  · simp
  · simp [uz]
theorem r8_In (G : Grp) (a : U) (H : Heap) (n : Nat) : ACall Tryz.prog 30 [GV G, N a.val] H n (Ret (.bool (grpIn G a)) H n) := by
  refine acall_retF mix lw Tryz.func30 ok30 (fun _ _ => Tryz.call30 _ _) rfl ?_
  have bbp := BB_pos
  have ob := one_lt_BB
  cases h : mayG G a with
  | true =>
    have e : grpIn G a = decide ((modExp a G.q G.p).1.val = 1) := by
      rw [grpIn, show grpExp G a G.q = modExp a G.q G.p by rw [grpExp, if_pos h], modExp_err]
    rw [e]
    generalize hX : modExp a G.q G.p = X
    have hx := X.1.isLt
    refine wk3 @c30.eq_1 rN rG ?_
    refine AGo_askV (r8_May G a _ _) ?_
    refine wk3 rN rG @h ?_
    refine AGo_askV (r4_Exp a G.q G.p _ _) ?_
    refine wk4 rN rG @RV.eq_1 @hX ?_
    refine AGo_askV (r8_one _ _) ?_
    refine wk3 rN rG @RV.eq_1 ?_
    exact ⟨rfl, agr⟩
  | false =>
    have e : grpIn G a = false := by rw [grpIn, show grpExp G a G.q = (uz, 1) by rw [grpExp, h]; rfl]; rfl
    rw [e]
    refine wk3 @c30.eq_1 rN rG ?_
    refine AGo_askV (r8_May G a _ _) ?_
    refine wk3 rN rG @h ?_
    exact ⟨rfl, agr⟩
end Go.Proofs.YtcjchcommaahdaaGreat

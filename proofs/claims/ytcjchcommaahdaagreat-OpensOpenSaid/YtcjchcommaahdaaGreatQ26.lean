/- Numbers as bytes: Put, PutLong, PutBytes. Bytes as numbers: Get, GetLong. The document's numbers as bytes: Put, PutLong, PutBytes. The document's numbers as bytes: PutLong, PutBytes. No conditions. -/
import Derived.Test.YtcjchcommaahdaaGreatQ12
import Derived.Test.YtcjchcommaahdaaGreatQ25
set_option maxRecDepth 20000
set_option maxHeartbeats 4000000
set_option linter.all false
namespace Go.Proofs.YtcjchcommaahdaaGreat
open Go.Ab
theorem max0 (k : Nat) : minInt true .i64 ((0 : Nat) : Int) [.int .i64 (k : Nat)] = some (.int .i64 (k : Nat)) := by
  simp only [minInt, if_true]
  by_cases h : (k : Int) > ((0 : Nat) : Int)
  · rw [if_pos h]
  · rw [if_neg h]; congr 2; omega
theorem min8 (k : Nat) (hk : k ≤ 8) : minInt false .i64 ((8 : Nat) : Int) [.int .i64 (k : Nat)] = some (.int .i64 (k : Nat)) := by
  simp only [minInt, if_true, Bool.false_eq_true, if_false]
  by_cases h : (k : Int) < ((8 : Nat) : Int)
  · rw [if_pos h]
  · rw [if_neg h]; congr 2; omega
theorem us_one (x : Nat) : [Value.int .u64 (x : Nat)] = us [x] := rfl
/-- A long number, as bytes. -/
def long (x : Nat) : List Nat := bel 8 (w3 x) ++ (bel 8 (w2 x) ++ (bel 8 (w1 x) ++ bel 8 (w0 x)))
theorem long_length (x : Nat) : (long x).length = 32 := by simp [long, bel_length]
theorem long_lt (x : Nat) : ∀ c, c ∈ long x → c < 256 := by
  intro c hc
  simp only [long, List.mem_append] at hc
  rcases hc with h | h | h | h <;> exact bel_lt _ _ _ h
theorem long_words (x : Nat) : ([w3 x, w2 x, w1 x, w0 x].map (bel 8)).flatten = long x := by simp [long]
theorem us_rev (x : Nat) : [Value.int .u64 (w3 x : Nat), .int .u64 (w2 x : Nat), .int .u64 (w1 x : Nat), .int .u64 (w0 x : Nat)] = us [w3 x, w2 x, w1 x, w0 x] := rfl
/-- One block is written; nothing else. -/
def Sets (b : Nat) (o : AObj) (H : Heap) : Post := fun r H' _ => r = .returned (.tuple #[]) ∧ H' b = some o ∧ ∀ i, i ≠ b → H' i = H i
theorem AGo_setsV {P : Program} {res : ALeave} {k : List AItem} {tm : List Value} {H : Heap} {n n0 : Nat} {R : Post} {dst : Option Nat} {f : Opd} {args ap : List Opd} {ops : List AOper} {xs : List Value} {g : FuncId} {first cap : Array Value} {b : Nat} {o : AObj}
    (hc : ACall P g (first.toList ++ xs ++ cap.toList) H n (Sets b o H)) (h : ∀ H' n', H' b = some o → (∀ i, i ≠ b → H' i = H i) → n ≤ n' → AGo P res (.inReg n0 false ops :: k) (put tm dst (.tuple #[])) H' n' R) :
    CallV P res n0 false dst f args ap ops k tm H n R (.func (.func g) first cap) xs := by
  refine AGo_callQV (fun v' H' _ => v' = .tuple #[] ∧ H' b = some o ∧ ∀ i, i ≠ b → H' i = H i) (hc.mono ?_) (fun h => by cases h) ?_
  · rintro e H' n' ⟨h1, h2, h3⟩ _ _; exact ⟨_, h1, rfl, h2, h3⟩
  · rintro v H' n' ⟨rfl, h2, h3⟩ hn; exact h H' n' h2 h3 hn
attribute [local irreducible] bs us bel
theorem nums_Put (l : List Nat) (k x : Nat) (v : Value) (H : Heap) (n : Nat) (hv : SrcA n H v (bs l) 1) (hk : k ≤ 8) (hx : x < B) (hl : l.length < 2 ^ 38) : ACall Tryz.prog 23 [v, .int .u64 (x : Nat), .int .i64 (k : Nat)] H n (Makes n H (bs (l ++ bel k x)) 5 1) := by
  refine acall_ofF mix Tryz.func23 ok23 (fun _ _ => Tryz.call23 _ _) rfl ?_
  refine wk3 @c23.eq_1 @max0 @min8 ?_
  rw [us_one]
  have hq := nums_put l [x] k v (n + 6) 1 22 (0, 0) (upd H (n + 6) (.cells (us [x]) 22 (0, 0))) (n + 9) (hv.later (agr) (by omega)) (by omega) (upd_same _ _ _) hk hl (by simp) (by intro w hw; simp at hw; rw [hw]; exact hx)
  rw [show (([x].map (bel k)).flatten) = bel k x by simp] at hq
  refine AGo_makeB hq ?_
  intro v1 H1 n1 o1 hA1 hn1
  refine wk0 ?_
  exact Makes.of_agree (o1.1.weaken (by omega)) (fun i hi => by rw [hA1 _ (by omega), upd_ne _ _ (by omega)])
theorem rev4 (x b : Nat) (e : TypeId) (H : Heap) (n : Nat) (hb : b < n) (hH : H b = some (.cells (vcells (N x)) e (0, 0))) : ACall Tryz.prog 58 [.slice (some ⟨b, 0, none⟩) 4 4] H n (Sets b (.cells (us [w3 x, w2 x, w1 x, w0 x]) e (0, 0)) H) := by
  refine acall_ofF mix Tryz.func58 ok58 (fun _ _ => Tryz.call58 _ _) rfl ?_
  rw [vcells_N] at hH
  refine wk2 @c58.eq_1 @hH ?_
  refine AGo_turn ?_
  refine wk1 @hH ?_
  refine AGo_turn ?_
  refine wk1 @hH ?_
  refine AGo_turn ?_
  refine wk1 @hH ?_
  refine ⟨rfl, ?_, fun i hi => ?_⟩
  · exact up1 @us_rev
  · rw [upd_ne _ _ hi]
theorem nums_PutLong (l : List Nat) (x : Nat) (v : Value) (H : Heap) (n : Nat) (hv : SrcA n H v (bs l) 1) (hl : l.length < 2 ^ 38) : ACall Tryz.prog 24 [v, N x] H n (Makes n H (bs (l ++ long x)) 5 1) := by
  refine acall_ofF mix Tryz.func24 ok24 (fun _ _ => Tryz.call24 _ _) rfl ?_
  refine wk2 @c24.eq_1 @vcells_N ?_
  refine AGo_setsV (rev4 x n 24 _ _ (by omega) (upd_same _ _ _)) ?_
  intro H1 n1 h1 hA1 hn1
  refine wk0 ?_
  have hA : Agree n H H1 := fun i hi => by rw [hA1 _ (by omega), upd_ne _ _ (by omega)]
  have hq := nums_put l [w3 x, w2 x, w1 x, w0 x] 8 v n 4 _ _ H1 (n1 + 4) (hv.later hA (by omega)) (by omega) h1 (by omega) hl (by simp) (by intro w hw; simp at hw; rcases hw with rfl | rfl | rfl | rfl <;> first | exact w0_lt _ | exact w1_lt _ | exact w2_lt _ | exact w3_lt _)
  rw [long_words] at hq
  refine AGo_makeB hq ?_
  intro v2 H2 n2 o2 hA2 hn2
  refine wk0 ?_
  exact Makes.of_agree (o2.1.weaken (by omega)) (fun i hi => (hA2 _ (by omega)).trans (hA i hi))
/-- How many, and these. -/
def withN (l : List Nat) : List Nat := bel 4 l.length ++ l
theorem nums_PutBytes (l l2 : List Nat) (v v2 : Value) (H : Heap) (n : Nat) (hv : SrcA n H v (bs l) 1) (hv2 : SrcA n H v2 (bs l2) 1) (hl : l.length + l2.length < 900000) : ACall Tryz.prog 55 [v, v2] H n (Makes n H (bs (l ++ withN l2)) 5 1) := by
  refine acall_ofF mix Tryz.func55 ok55 (fun _ _ => Tryz.call55 _ _) rfl ?_
  have hv2' := hv2
  obtain ⟨sa, m, xc, rfl, hlm, -, -⟩ := hv2.here
  rw [bs_length, Nat.mul_one] at hlm
  have q1 : m % B = m := Nat.mod_eq_of_lt (by rw [B_eq]; omega)
  refine wk3 @c55.eq_1 @u64_wrap @q1 ?_
  refine AGo_makeB (nums_Put l 4 m v _ _ (hv.later (agr) (by omega)) (by omega) (by rw [B_eq]; omega) (by omega)) ?_
  intro v1 H1 n1 o1 hA1 hn1
  have hA : Agree n H H1 := fun i hi => hA1 i (by omega)
  have o1' := o1
  obtain ⟨⟨b, k, cap, rest, rfl, -⟩, hbn⟩ := o1
  refine wk0 ?_
  have hA2 : Agree n H (upd H1 (n + 7) (.cells [.slice (some ⟨b, 0, none⟩) k cap, .slice sa m xc] 66 (0, 0))) := agr
  refine AGo_makeB (concat8 _ n1 (n + 7) _ _ (bs (l ++ bel 4 m)) (bs l2) 66 (0, 0) (by omega) (upd_same _ _ _) ?_ (hv2'.later hA2 (by omega)) (by rw [bs_length, List.length_append, bel_length]; omega) (by rw [bs_length, bs_length, List.length_append, bel_length]; omega)) ?_
  · exact (o1'.keep (n' := n1) (fun j h1 h2 => upd_ne _ _ (by omega)) (by omega)).srcA (bs_all _)
  · intro v3 H3 n3 o3 hA3 hn3
    refine wk0 ?_
    rw [← bs_append, List.append_assoc, ← hlm] at o3
    exact Makes.of_agree (o3.1.weaken (by omega)) (fun i hi => (hA3 i (by omega)).trans (hA2 i hi))
end Go.Proofs.YtcjchcommaahdaaGreat
namespace Go.Proofs.YtcjchcommaahdaaGreat
open Go.Ab
/-- So many bytes, the highest first. -/
def beN (g : Nat → Nat) : Nat → Nat
  | 0 => 0
  | k + 1 => beN g k * 256 + g k
theorem beN_lt {g : Nat → Nat} (hg : ∀ i, g i < 256) : ∀ k, beN g k < 256 ^ k
  | 0 => by simp [beN]
  | k + 1 => by have := beN_lt hg k; have := hg k; rw [beN, Nat.pow_succ]; omega
theorem beN_zero (g : Nat → Nat) : beN g 0 = 0 := rfl
theorem beN_or {g : Nat → Nat} (hg : ∀ i, g i < 256) {k : Nat} (hk : k < 8) : (beN g k * 2 ^ 8 % B ||| g k) % B = beN g (k + 1) := by
  have h1 := beN_lt hg k
  have h2 : (256 : Nat) ^ k ≤ 256 ^ 7 := Nat.pow_le_pow_right (by decide) (by omega)
  have h3 : beN g k * 2 ^ 8 % B = beN g k * 2 ^ 8 := Nat.mod_eq_of_lt (by rw [B_eq]; omega)
  rw [h3, Nat.mul_comm, ← Nat.two_pow_add_eq_or_of_lt (hg k), beN, Nat.mod_eq_of_lt (by rw [B_eq]; have := hg k; omega), Nat.mul_comm]
theorem beN_add {g : Nat → Nat} (hg : ∀ i, g i < 256) {k : Nat} (hk : k < 8) : (beN g k * 256 % B + g k) % B = beN g (k + 1) := by
  have h1 := beN_lt hg k
  have h2 : (256 : Nat) ^ k ≤ 256 ^ 7 := Nat.pow_le_pow_right (by decide) (by omega)
  have h3 : beN g k * 256 % B = beN g k * 256 := Nat.mod_eq_of_lt (by rw [B_eq]; omega)
  rw [h3, beN, Nat.mod_eq_of_lt (by rw [B_eq]; have := hg k; omega)]
theorem beN_B {g : Nat → Nat} (hg : ∀ i, g i < 256) : beN g 8 < B := by rw [B_eq]; exact beN_lt hg 8
theorem not_lt_u64 {a b : Nat} (h : b ≤ a) : decide (a < b) = false := by simp; omega
attribute [local irreducible] beN
theorem nums_Get (g : Nat → Nat) (cs : List Value) (b o m c : Nat) (e : TypeId) (fz : Nat × Nat) (H : Heap) (n : Nat) (hg : ∀ i, g i < 256) (hb : b < n) (hH : H b = some (.cells cs e fz)) (hc : ∀ j, j < 8 → cs[o + j]? = some (.int .u8 (g j : Nat))) (hm : 8 ≤ m) (hmc : 8 ≤ c) : ACall Tryz.prog 141 [.slice (some ⟨b, o, none⟩) m c, .int .i64 ((8 : Nat) : Int)] H n (Ret (.tuple #[.int .u64 (beN g 8 : Nat), .int .i64 ((0 : Nat) : Int)]) H n) := by
  refine acall_retF mix lw Tryz.func141 ok141 (fun _ _ => Tryz.call141 _ _) rfl ?_
  have h0 : ¬ c = 0 := by omega
  have hm8 : ¬ m < 8 := by omega
  have g64 : ∀ j, g j % B = g j := fun j => Nat.mod_eq_of_lt (by rw [B_eq]; have := hg j; omega)
  refine wl6 @c141.eq_1 rL @hmc @h0 @ite_addr @hm8 ?_
  refine AGo_cycleD (α := Nat) 25 35 (fun i => [(24, .int .i64 (i : Nat)), (4, .int .u64 (beN g i : Nat))]) (fun i H' n' => i ≤ 8 ∧ n ≤ n' ∧ H' = H) (fun i H' n' => i = 8 ∧ H' = H) (fun i => 8 - i) (0) ?_ (by simp only [beN_zero, subs_nil, subs_if, lk_if, lk_nil, dropR_nil, dropR_cons, Nat.reduceLT, List.cons_append, List.nil_append, List.elem_nil, List.elem_cons, Nat.reduceBEq, beq_self_eq_true, Bool.true_or, Bool.false_or, Bool.or_true, Bool.or_false, Bool.false_eq_true, ↓reduceIte, if_true, if_false, Nat.reduceEqDiff, and_self, and_true, true_and, eq_self]) ?_ ?_
  · exact ⟨Nat.zero_le _, by omega, rfl⟩
  · rintro i H' n' kk ⟨hi, hn, rfl⟩ hK hS
    simp only [List.cons_append, List.nil_append, dropR_nil, dropR_cons, Nat.reduceLT, ↓reduceIte]
    by_cases hlt : i < 8
    · refine AGo_turn ?_
      simp (disch := first | assumption | omega) only [ite_lt, ite_le, bin_rem_u64, bin_quo_u64, fl_get, fl_splice, fl_splice_all, fl_length, fl_all, fl_take, cell_wK, hlt, hH, hc, u64_wrap, g64, beN_or hg hlt, W1, sim, ↓reduceIte, Nat.reduceAdd, Nat.reduceSub, Nat.reduceMul, Nat.reduceLT, Nat.reduceLeDiff, Nat.reduceEqDiff, Nat.reduceBEq, Nat.reduceBNe, Nat.reduceMod, Nat.reduceDiv]
      refine AGo_le ?_ (hS (i + 1) _ _ ⟨by omega, by omega, rfl⟩ (by omega))
      · simp only [subs_nil, subs_if, lk_if, lk_nil, dropR_nil, dropR_cons, Nat.reduceLT, List.cons_append, List.nil_append, List.elem_nil, List.elem_cons, Nat.reduceBEq, beq_self_eq_true, Bool.true_or, Bool.false_or, Bool.or_true, Bool.or_false, Bool.false_eq_true, ↓reduceIte, if_true, if_false, Nat.reduceEqDiff, and_self, and_true, true_and, eq_self]
    · have hi8 : i = 8 := by omega
      subst hi8
      refine AGo_turn ?_
      refine wl2 rL @hlt ?_
      refine AGo_markL ?_ (hK 8 _ _ ⟨rfl, rfl⟩)
      · simp only [subs_nil, subs_if, lk_if, lk_nil, dropR_nil, dropR_cons, Nat.reduceLT, List.cons_append, List.nil_append, List.elem_nil, List.elem_cons, Nat.reduceBEq, beq_self_eq_true, Bool.true_or, Bool.false_or, Bool.or_true, Bool.or_false, Bool.false_eq_true, ↓reduceIte, if_true, if_false, Nat.reduceEqDiff, and_self, and_true, true_and, eq_self]
  rintro i H' n' ⟨rfl, rfl⟩
  simp only [List.cons_append, List.nil_append, dropR_nil, dropR_cons, Nat.reduceLT, ↓reduceIte]
  refine wk0 ?_
  exact ⟨rfl, agr⟩
theorem r1_Get (g : Nat → Nat) (cs : List Value) (b o m c : Nat) (e : TypeId) (fz : Nat × Nat) (H : Heap) (n : Nat) (hg : ∀ i, g i < 256) (hb : b < n) (hH : H b = some (.cells cs e fz)) (hc : ∀ j, j < 8 → cs[o + j]? = some (.int .u8 (g j : Nat))) (hm : 8 ≤ m) (hmc : 8 ≤ c) : ACall Tryz.prog 149 [.slice (some ⟨b, o, none⟩) m c, .int .i64 ((8 : Nat) : Int)] H n (Ret (.tuple #[.int .u64 (beN g 8 : Nat), .int .i64 ((0 : Nat) : Int)]) H n) := by
  refine acall_retF mix lw Tryz.func149 ok149 (fun _ _ => Tryz.call149 _ _) rfl ?_
  have hm8 : ¬ m < 8 := by omega
  have g64 : ∀ j, g j % B = g j := fun j => Nat.mod_eq_of_lt (by rw [B_eq]; have := hg j; omega)
  refine wl3 @c149.eq_1 rL @hm8 ?_
  refine AGo_cycleD (α := Nat) 18 32 (fun i => [(7, .int .i64 (i : Nat)), (6, .int .u64 (beN g i : Nat))]) (fun i H' n' => i ≤ 8 ∧ n ≤ n' ∧ H' = H) (fun i H' n' => i = 8 ∧ H' = H) (fun i => 8 - i) (0) ?_ (by simp only [beN_zero, subs_nil, subs_if, lk_if, lk_nil, dropR_nil, dropR_cons, Nat.reduceLT, List.cons_append, List.nil_append, List.elem_nil, List.elem_cons, Nat.reduceBEq, beq_self_eq_true, Bool.true_or, Bool.false_or, Bool.or_true, Bool.or_false, Bool.false_eq_true, ↓reduceIte, if_true, if_false, Nat.reduceEqDiff, and_self, and_true, true_and, eq_self]) ?_ ?_
  · exact ⟨Nat.zero_le _, by omega, rfl⟩
  · rintro i H' n' kk ⟨hi, hn, rfl⟩ hK hS
    simp only [List.cons_append, List.nil_append, dropR_nil, dropR_cons, Nat.reduceLT, ↓reduceIte]
    by_cases hlt : i < 8
    · have him : i < m := by omega
      refine AGo_turn ?_
      simp (disch := first | assumption | omega) only [ite_lt, ite_le, bin_rem_u64, bin_quo_u64, fl_get, fl_splice, fl_splice_all, fl_length, fl_all, fl_take, cell_wK, hlt, him, hH, hc, u64_wrap, g64, beN_add hg hlt, W1, sim, ↓reduceIte, Nat.reduceAdd, Nat.reduceSub, Nat.reduceMul, Nat.reduceLT, Nat.reduceLeDiff, Nat.reduceEqDiff, Nat.reduceBEq, Nat.reduceBNe, Nat.reduceMod, Nat.reduceDiv]
      refine AGo_le ?_ (hS (i + 1) _ _ ⟨by omega, by omega, rfl⟩ (by omega))
      · simp only [subs_nil, subs_if, lk_if, lk_nil, dropR_nil, dropR_cons, Nat.reduceLT, List.cons_append, List.nil_append, List.elem_nil, List.elem_cons, Nat.reduceBEq, beq_self_eq_true, Bool.true_or, Bool.false_or, Bool.or_true, Bool.or_false, Bool.false_eq_true, ↓reduceIte, if_true, if_false, Nat.reduceEqDiff, and_self, and_true, true_and, eq_self]
    · have hi8 : i = 8 := by omega
      subst hi8
      refine AGo_turn ?_
      refine wl2 rL @hlt ?_
      refine AGo_markL ?_ (hK 8 _ _ ⟨rfl, rfl⟩)
      · simp only [subs_nil, subs_if, lk_if, lk_nil, dropR_nil, dropR_cons, Nat.reduceLT, List.cons_append, List.nil_append, List.elem_nil, List.elem_cons, Nat.reduceBEq, beq_self_eq_true, Bool.true_or, Bool.false_or, Bool.or_true, Bool.or_false, Bool.false_eq_true, ↓reduceIte, if_true, if_false, Nat.reduceEqDiff, and_self, and_true, true_and, eq_self]
  rintro i H' n' ⟨rfl, rfl⟩
  simp only [List.cons_append, List.nil_append, dropR_nil, dropR_cons, Nat.reduceLT, ↓reduceIte]
  refine wk0 ?_
  exact ⟨rfl, agr⟩
/-- A long number, out of its bytes. -/
def ofB (g : Nat → Nat) : Nat := pack (beN (fun j => g (24 + j)) 8) (beN (fun j => g (16 + j)) 8) (beN (fun j => g (8 + j)) 8) (beN g 8)
theorem ofB_lt {g : Nat → Nat} (hg : ∀ i, g i < 256) : ofB g < BB := pack_lt (beN_B fun _ => hg _) (beN_B fun _ => hg _) (beN_B fun _ => hg _) (beN_B fun _ => hg _)
theorem N_ofB {g : Nat → Nat} (hg : ∀ i, g i < 256) : Value.agg #[.int .u64 (beN (fun j => g (24 + j)) 8 : Nat), .int .u64 (beN (fun j => g (16 + j)) 8 : Nat), .int .u64 (beN (fun j => g (8 + j)) 8 : Nat), .int .u64 (beN g 8 : Nat)] = N (ofB g) :=
  (N_pack (beN_B fun _ => hg _) (beN_B fun _ => hg _) (beN_B fun _ => hg _) (beN_B fun _ => hg _)).symm
theorem cs_at {cs : List Value} {g : Nat → Nat} (hc : ∀ j, j < 32 → cs[j]? = some (.int .u8 (g j : Nat))) (k : Nat) (hk : k ≤ 24) : ∀ j, j < 8 → cs[k + j]? = some (.int .u8 (g (k + j) : Nat)) := fun j hj => hc _ (by omega)
theorem nums_GetLong (g : Nat → Nat) (cs : List Value) (b : Nat) (e : TypeId) (fz : Nat × Nat) (H : Heap) (n : Nat) (hg : ∀ i, g i < 256) (hb : b < n) (hH : H b = some (.cells cs e fz)) (hc : ∀ j, j < 32 → cs[j]? = some (.int .u8 (g j : Nat))) : ACall Tryz.prog 106 [.slice (some ⟨b, 0, none⟩) 32 32] H n (Ret (.tuple #[N (ofB g), .int .i64 ((0 : Nat) : Int)]) H n) := by
  refine acall_retF mix lw Tryz.func106 ok106 (fun _ _ => Tryz.call106 _ _) rfl ?_
  have hH2 : ∀ H', Agree n H H' → H' b = some (.cells cs e fz) := fun H' hA => by rw [hA b hb]; exact hH
  refine wk2 @c106.eq_1 @Nat.lt_irrefl ?_
  refine AGo_turn ?_
  refine wk0 ?_
  refine AGo_askV (nums_Get g cs b 0 _ _ _ _ _ _ hg (by omega) (hH2 _ (agr)) (fun j hj => by rw [Nat.zero_add]; exact hc j (by omega)) (by omega) (by omega)) ?_
  refine wk0 ?_
  refine AGo_turn ?_
  refine wk0 ?_
  refine AGo_askV (nums_Get (fun j => g (8 + j)) cs b 8 _ _ _ _ _ _ (fun _ => hg _) (by omega) (hH2 _ (agr)) (cs_at hc 8 (by omega)) (by omega) (by omega)) ?_
  refine wk0 ?_
  refine AGo_turn ?_
  refine wk0 ?_
  refine AGo_askV (nums_Get (fun j => g (16 + j)) cs b 16 _ _ _ _ _ _ (fun _ => hg _) (by omega) (hH2 _ (agr)) (cs_at hc 16 (by omega)) (by omega) (by omega)) ?_
  refine wk0 ?_
  refine AGo_turn ?_
  refine wk0 ?_
  refine AGo_askV (nums_Get (fun j => g (24 + j)) cs b 24 _ _ _ _ _ _ (fun _ => hg _) (by omega) (hH2 _ (agr)) (cs_at hc 24 (by omega)) (by omega) (by omega)) ?_
  refine wk0 ?_
  refine AGo_turn ?_
  simp (disch := first | assumption | omega) only [N_ofB hg, W, sim, ↓reduceIte, Nat.reduceAdd, Nat.reduceSub, Nat.reduceMul, Nat.reduceLT, Nat.reduceLeDiff, Nat.reduceEqDiff, Nat.reduceBEq, Nat.reduceBNe, Nat.reduceMod, Nat.reduceDiv]
  exact ⟨rfl, agr⟩
theorem r1_GetLong (g : Nat → Nat) (cs : List Value) (b : Nat) (e : TypeId) (fz : Nat × Nat) (H : Heap) (n : Nat) (hg : ∀ i, g i < 256) (hb : b < n) (hH : H b = some (.cells cs e fz)) (hc : ∀ j, j < 32 → cs[j]? = some (.int .u8 (g j : Nat))) : ACall Tryz.prog 124 [.slice (some ⟨b, 0, none⟩) 32 32] H n (Ret (.tuple #[N (ofB g), .int .i64 ((0 : Nat) : Int)]) H n) := by
  refine acall_retF mix lw Tryz.func124 ok124 (fun _ _ => Tryz.call124 _ _) rfl ?_
  have hH2 : ∀ H', Agree n H H' → H' b = some (.cells cs e fz) := fun H' hA => by rw [hA b hb]; exact hH
  refine wk2 @c124.eq_1 @Nat.lt_irrefl ?_
  refine AGo_turn ?_
  refine wk0 ?_
  refine AGo_askV (r1_Get g cs b 0 _ _ _ _ _ _ hg (by omega) (hH2 _ (agr)) (fun j hj => by rw [Nat.zero_add]; exact hc j (by omega)) (by omega) (by omega)) ?_
  refine wk0 ?_
  refine AGo_turn ?_
  refine wk0 ?_
  refine AGo_askV (r1_Get (fun j => g (8 + j)) cs b 8 _ _ _ _ _ _ (fun _ => hg _) (by omega) (hH2 _ (agr)) (cs_at hc 8 (by omega)) (by omega) (by omega)) ?_
  refine wk0 ?_
  refine AGo_turn ?_
  refine wk0 ?_
  refine AGo_askV (r1_Get (fun j => g (16 + j)) cs b 16 _ _ _ _ _ _ (fun _ => hg _) (by omega) (hH2 _ (agr)) (cs_at hc 16 (by omega)) (by omega) (by omega)) ?_
  refine wk0 ?_
  refine AGo_turn ?_
  refine wk0 ?_
  refine AGo_askV (r1_Get (fun j => g (24 + j)) cs b 24 _ _ _ _ _ _ (fun _ => hg _) (by omega) (hH2 _ (agr)) (cs_at hc 24 (by omega)) (by omega) (by omega)) ?_
  refine wk0 ?_
  refine AGo_turn ?_
  simp (disch := first | assumption | omega) only [N_ofB hg, W, sim, ↓reduceIte, Nat.reduceAdd, Nat.reduceSub, Nat.reduceMul, Nat.reduceLT, Nat.reduceLeDiff, Nat.reduceEqDiff, Nat.reduceBEq, Nat.reduceBNe, Nat.reduceMod, Nat.reduceDiv]
  exact ⟨rfl, agr⟩
end Go.Proofs.YtcjchcommaahdaaGreat
namespace Go.Proofs.YtcjchcommaahdaaGreat
open Go.Ab
/-- A number's lowest bytes, the lowest first. -/
def lel (k x : Nat) : List Nat := (List.range k).map fun j => x / 256 ^ j % 256
theorem lel_length (k x : Nat) : (lel k x).length = k := by simp [lel]
theorem lel_succ (k x : Nat) : lel (k + 1) x = lel k x ++ [x / 256 ^ k % 256] := by simp [lel, List.range_succ]
theorem lel_get {k x i : Nat} (h : i < k) : (bs (lel k x))[i]? = some (.int .u8 (x / 256 ^ i % 256 : Nat)) := by
  rw [bs_get (by rw [lel_length]; exact h)]
  simp [lel, List.getD_eq_getElem?_getD, h]
theorem pow256 (j : Nat) : 256 ^ j = 2 ^ (8 * j) := by rw [Nat.pow_mul]
theorem bel_back (k x i : Nat) (h : i < k) : (bel k x).take (k - i) = (bel k x).take (k - (i + 1)) ++ [x / 256 ^ i % 256] := by
  rw [show k - i = k - (i + 1) + 1 by omega, bel_take _ _ _ (by omega), pow256, show k - 1 - (k - (i + 1)) = i by omega]
theorem div256 (x i : Nat) : x / 256 ^ i / 256 = x / 256 ^ (i + 1) := by rw [Nat.div_div_eq_div_mul, Nat.pow_succ]
theorem low_lel (x i : Nat) : x / 256 ^ i % 256 % 256 = x / 256 ^ i % 256 := Nat.mod_mod _ _
theorem div_lt_B {x : Nat} (h : x < B) (i : Nat) : x / 256 ^ i < B := Nat.lt_of_le_of_lt (Nat.div_le_self _ _) h
/-- One less, below 0 too. -/
def pre : Nat → Value
  | 0 => .int .i64 (-1)
  | i + 1 => .int .i64 (i : Nat)
theorem pre_zero : pre 0 = .int .i64 (-1) := rfl
theorem pre_succ (i : Nat) : pre (i + 1) = .int .i64 (i : Nat) := rfl
theorem pre_pos {k : Nat} (h : 0 < k) : pre k = .int .i64 ((k - 1 : Nat) : Int) := by
  obtain ⟨i, rfl⟩ : ∃ i, k = i + 1 := ⟨k - 1, by omega⟩
  rfl
theorem bin_sub_pre {i : Nat} (h : i < 9223372036854775808) : binInt .sub .i64 (i : Nat) .i64 ((1 : Nat) : Int) = some (pre i) := by
  cases i with
  | zero => exact bin_sub_01
  | succ i => rw [bin_sub_i64 _ _ (by omega) h]; rfl
attribute [local irreducible] bs us bel lel pre
theorem r1_Put (l : List Nat) (k x : Nat) (v : Value) (H : Heap) (n : Nat) (hv : SrcA n H v (bs l) 1) (hk : k ≤ 8) (hk0 : 0 < k) (hx : x < B) (hl : l.length < 2 ^ 38) : ACall Tryz.prog 73 [v, .int .u64 (x : Nat), .int .i64 (k : Nat)] H n (Makes n H (bs (l ++ bel k x)) 5 1) := by
  refine acall_ofF mix Tryz.func73 ok73 (fun _ _ => Tryz.call73 _ _) rfl ?_
  refine wk3 @c73.eq_1 @max0 @min8 ?_
  refine AGo_copyL (nb := n) (l2 := bs l) (hv _ (agr)) (by omega) (by rw [bs_length]; omega) (by decide) (by omega) ?_
  intro v1 H1 o1 hA1
  have hx0 : x = x / 256 ^ 0 := by simp
  refine wk2 @max0 @min8 ?_
  refine AGo_cycleD (α := (Nat × Value)) 11 44 (fun y => [(10, .int .i64 (y.1 : Nat)), (9, y.2), (1, .int .u64 (x / 256 ^ y.1 : Nat))]) (fun y H' n' => y.1 ≤ k ∧ n + 10 ≤ n' ∧ Lst (n + 10) n' H' y.2 (bs (lel y.1 x)) 5 1 ∧ Agree (n + 10) H1 H') (fun y H' n' => n + 10 ≤ n' ∧ OwnB (n + 10) n' H' y.2 (bs (lel k x)) 5 1 ∧ Agree (n + 10) H1 H') (fun y => k - y.1) ((0, .slice none 0 0)) ?_ (by simp only [Nat.pow_zero, Nat.div_one, subs_nil, subs_if, lk_if, lk_nil, dropR_nil, dropR_cons, Nat.reduceLT, List.cons_append, List.nil_append, List.elem_nil, List.elem_cons, Nat.reduceBEq, beq_self_eq_true, Bool.true_or, Bool.false_or, Bool.or_true, Bool.or_false, Bool.false_eq_true, ↓reduceIte, if_true, if_false, Nat.reduceEqDiff, and_self, and_true, true_and, eq_self]) ?_ ?_
  · exact ⟨Nat.zero_le _, by omega, .inl ⟨rfl, by unfold bs lel; rfl⟩, Agree.refl _ _⟩
  · rintro ⟨i, w⟩ H' n' kk ⟨hi, hn, ho, fA⟩ hK hS
    simp only at hi ho
    simp only [List.cons_append, List.nil_append, dropR_nil, dropR_cons, Nat.reduceLT, ↓reduceIte]
    by_cases hlt : i < k
    · have q1 : x / 256 ^ (i + 1) % B = x / 256 ^ (i + 1) := Nat.mod_eq_of_lt (div_lt_B hx _)
      refine AGo_turn ?_
      refine wl5 rL @splice_one_zero @hlt @u8_wrap @low_lel ?_
      refine AGo_pushL (n1 := n' + 8) (nb := n + 10) (l := bs (lel i x)) ((ho.keep (n' := n' + 7) (fun _ _ _ => rfl) (by omega)).upd (by omega) (by omega)) (src_mk (upd_same _ _ _) rfl rfl) (by simp) (by omega) (by omega) (by rw [bs_length, lel_length]; simp; omega) (by decide) (by omega) rfl ?_
      intro v2 H2 o2 hA2
      rw [pushB, ← lel_succ] at o2
      refine wl3 rL @div256 @q1 ?_
      refine AGo_le ?_ (hS (i + 1, v2) _ _ ⟨by simp only; omega, by omega, .inr (o2.keep (fun _ _ _ => rfl) (by omega)), ?_⟩ (by simp only; omega))
      · simp only [subs_nil, subs_if, lk_if, lk_nil, dropR_nil, dropR_cons, Nat.reduceLT, List.cons_append, List.nil_append, List.elem_nil, List.elem_cons, Nat.reduceBEq, beq_self_eq_true, Bool.true_or, Bool.false_or, Bool.or_true, Bool.or_false, Bool.false_eq_true, ↓reduceIte, if_true, if_false, Nat.reduceEqDiff, and_self, and_true, true_and, eq_self]
      intro j hj; rw [hA2 _ (by omega), upd_ne _ _ (by omega)]; exact fA j hj
    · have hik : i = k := by omega
      subst hik
      refine AGo_turn ?_
      refine wl3 rL @hlt @Nat.lt_irrefl ?_
      rcases ho with ⟨-, ho⟩ | ho
      · exact absurd (congrArg List.length ho) (by rw [bs_length, lel_length]; simp; omega)
      refine AGo_markL ?_ (hK (i, w) _ _ ⟨by omega, ho.keep (fun _ _ _ => rfl) (by omega), fA⟩)
      · simp only [subs_nil, subs_if, lk_if, lk_nil, dropR_nil, dropR_cons, Nat.reduceLT, List.cons_append, List.nil_append, List.elem_nil, List.elem_cons, Nat.reduceBEq, beq_self_eq_true, Bool.true_or, Bool.false_or, Bool.or_true, Bool.or_false, Bool.false_eq_true, ↓reduceIte, if_true, if_false, Nat.reduceEqDiff, and_self, and_true, true_and, eq_self]
  rintro ⟨i, w⟩ H2 n2 ⟨hn2, ho, fA⟩
  simp only at ho
  have o1' := o1.keep (n' := n2) (H' := H2) (fun j h1 h2 => fA j (by omega)) (by omega)
  have fA' : Agree n H H2 := fun i hi => (fA i (by omega)).trans (hA1 i (by omega))
  obtain ⟨⟨b2, k2, cap2, rest2, rfl, hb2, hB2, hl2, -⟩, hbn2⟩ := ho
  replace hbn2 := hbn2 _ _ _ rfl
  rw [bs_length, lel_length, Nat.mul_one] at hl2
  subst hl2
  have hav : ∀ k c, v1 ≠ .slice (some ⟨b2, 0, none⟩) k c := by
    intro k c e
    rcases o1 with ⟨h, -⟩ | h
    · rw [h] at e; cases e
    · have := h.2 _ _ _ e; omega
  simp only [List.cons_append, List.nil_append, dropR_nil, dropR_cons, Nat.reduceLT, ↓reduceIte]
  refine wk0 ?_
  refine AGo_cycleD (α := (Nat × Value)) 32 44 (fun y => [(11, pre y.1), (7, y.2)]) (fun y H' n' => y.1 ≤ k ∧ n2 ≤ n' ∧ Lst n n' H' y.2 (bs (l ++ (bel k x).take (k - y.1))) 5 1 ∧ (∀ k c, y.2 ≠ .slice (some ⟨b2, 0, none⟩) k c) ∧ H' b2 = some (.cells (bs (lel k x) ++ rest2) 5 (0, 0)) ∧ Agree n H H') (fun y H' n' => OwnB n n' H' y.2 (bs (l ++ bel k x)) 5 1 ∧ Agree n H H') (fun y => y.1) ((k, v1)) ?_ (by simp only [pre_pos hk0, subs_nil, subs_if, lk_if, lk_nil, dropR_nil, dropR_cons, Nat.reduceLT, List.cons_append, List.nil_append, List.elem_nil, List.elem_cons, Nat.reduceBEq, beq_self_eq_true, Bool.true_or, Bool.false_or, Bool.or_true, Bool.or_false, Bool.false_eq_true, ↓reduceIte, if_true, if_false, Nat.reduceEqDiff, and_self, and_true, true_and, eq_self]) ?_ ?_
  · refine ⟨Nat.le_refl _, by omega, ?_, hav, hB2, fA'⟩
    rw [Nat.sub_self, List.take_zero, List.append_nil]; exact o1'.keep (fun _ _ _ => rfl) (by omega)
  · clear o1' o1 hav hB2 fA fA' hA1 
    rintro ⟨j, w⟩ H' n' kk ⟨hj, hn, ho, hav, hB2, fA⟩ hK hS
    simp only at hj ho hav
    simp only [List.cons_append, List.nil_append, dropR_nil, dropR_cons, Nat.reduceLT, ↓reduceIte]
    rcases j with _ | i
    · refine AGo_turn ?_
      refine wl3 rL @pre_zero @bin_geq_m1 ?_
      rw [Nat.sub_zero, List.take_of_length_le (by rw [bel_length]; exact Nat.le_refl _)] at ho
      rcases ho with ⟨-, ho⟩ | ho
      · exact absurd (congrArg List.length ho) (by rw [bs_length, List.length_append, bel_length]; simp; omega)
      refine AGo_markL ?_ (hK (0, w) _ _ ⟨ho.keep (fun _ _ _ => rfl) (by omega), fA⟩)
      · simp only [pre_zero, subs_nil, subs_if, lk_if, lk_nil, dropR_nil, dropR_cons, Nat.reduceLT, List.cons_append, List.nil_append, List.elem_nil, List.elem_cons, Nat.reduceBEq, beq_self_eq_true, Bool.true_or, Bool.false_or, Bool.or_true, Bool.or_false, Bool.false_eq_true, ↓reduceIte, if_true, if_false, Nat.reduceEqDiff, and_self, and_true, true_and, eq_self]
    · have hget := lel_get (k := k) (x := x) (i := i) (by omega)
      have hge2 : (bs (lel k x) ++ rest2)[i]? = some (.int .u8 (x / 256 ^ i % 256 : Nat)) := by
        rw [List.getElem?_append_left (by rw [bs_length, lel_length]; omega)]; exact hget
      refine AGo_turn ?_
      refine wl6 rL @splice_one_zero @pre_succ @Nat.zero_le @hB2 @hge2 ?_
      refine AGo_pushLS (n1 := n' + 8) (nb := n) (l := bs (l ++ (bel k x).take (k - (i + 1)))) ((ho.keep (n' := n' + 7) (fun _ _ _ => rfl) (by omega)).upd (by omega) (by omega)) (src_mk (upd_same _ _ _) rfl rfl) (by simp) (by omega) (by omega) (by rw [bs_length]; simp only [List.length_append, List.length_take, List.length_cons, List.length_nil]; omega) (by decide) (by omega) rfl ?_
      intro v2 H3 o2 hA2 hv2
      rw [pushB, List.append_assoc, ← bel_back _ _ _ hj] at o2
      refine wl2 rL @bin_sub_pre ?_
      refine AGo_le ?_ (hS (i, v2) _ _ ⟨by simp only; omega, by omega, .inr (o2.keep (fun _ _ _ => rfl) (by omega)), ?_, ?_, ?_⟩ (by simp only; omega))
      · simp only [subs_nil, subs_if, lk_if, lk_nil, dropR_nil, dropR_cons, Nat.reduceLT, List.cons_append, List.nil_append, List.elem_nil, List.elem_cons, Nat.reduceBEq, beq_self_eq_true, Bool.true_or, Bool.false_or, Bool.or_true, Bool.or_false, Bool.false_eq_true, ↓reduceIte, if_true, if_false, Nat.reduceEqDiff, and_self, and_true, true_and, eq_self]
      · intro k1 c1 e
        rcases hv2 _ _ _ e with ⟨k', c', e'⟩ | e'
        · exact hav _ _ e'
        · omega
      · rw [hA2 _ hav (by omega), upd_ne _ _ (by omega)]; exact hB2
      · intro j hj
        by_cases hw : ∀ k c, w ≠ .slice (some ⟨j, 0, none⟩) k c
        · rw [hA2 _ hw (by omega), upd_ne _ _ (by omega)]; exact fA j hj
        · exfalso; apply hw; intro k1 c1 e
          rcases ho with ⟨h, -⟩ | h
          · rw [h] at e; cases e
          · obtain ⟨_, _, _, _, e2, hb, _⟩ := h.1
            rw [e2] at e; cases e; omega
  rintro ⟨i, w⟩ H' n' ⟨ho, fA⟩
  simp only [List.cons_append, List.nil_append, dropR_nil, dropR_cons, Nat.reduceLT, ↓reduceIte]
  refine wk0 ?_
  exact Makes.of_agree ho.1 fA
end Go.Proofs.YtcjchcommaahdaaGreat
namespace Go.Proofs.YtcjchcommaahdaaGreat
open Go.Ab
theorem long_def (x : Nat) (l : List Nat) : l ++ bel 8 (w3 x) ++ bel 8 (w2 x) ++ bel 8 (w1 x) ++ bel 8 (w0 x) = l ++ long x := by simp [long]
attribute [local irreducible] bs us bel lel pre long
theorem r1_PutLong (l : List Nat) (x : Nat) (v : Value) (H : Heap) (n : Nat) (hv : SrcA n H v (bs l) 1) (hl : l.length < 2 ^ 37) : ACall Tryz.prog 35 [v, N x] H n (Makes n H (bs (l ++ long x)) 5 1) := by
  refine acall_ofF mix Tryz.func35 ok35 (fun _ _ => Tryz.call35 _ _) rfl ?_
  refine wk2 @c35.eq_1 @vcells_N ?_
  refine AGo_turn ?_
  refine wk0 ?_
  refine AGo_makeB (r1_Put l 8 (w3 x) v _ _ (hv.later (agr) (by omega)) (by omega) (by omega) (w3_lt _) (by omega)) ?_
  intro v1 H1 n1 o1 hA1 hn1
  have f1 : H1 n = some (.cells [.int .u64 (w0 x : Nat), .int .u64 (w1 x : Nat), .int .u64 (w2 x : Nat), .int .u64 (w3 x : Nat)] 24 (0, 0)) := by rw [hA1 _ (by omega), upd_same]
  have g1 : Agree n H H1 := fun i hi => by rw [hA1 _ (by omega), upd_ne _ _ (by omega)]
  refine wk0 ?_
  refine AGo_turn ?_
  refine wk1 @f1 ?_
  refine AGo_makeB (r1_Put _ 8 (w2 x) v1 _ _ ((o1.srcA (bs_all _)).later (fun _ _ => rfl) (by omega)) (by omega) (by omega) (w2_lt _) (by rw [List.length_append, bel_length]; omega)) ?_
  intro v2 H2 n2 o2 hA2 hn2
  have f2 := (hA2 n (by omega)).trans f1
  have g2 : Agree n H H2 := fun i hi => (hA2 i (by omega)).trans (g1 i hi)
  refine wk0 ?_
  refine AGo_turn ?_
  refine wk1 @f2 ?_
  refine AGo_makeB (r1_Put _ 8 (w1 x) v2 _ _ ((o2.srcA (bs_all _)).later (fun _ _ => rfl) (by omega)) (by omega) (by omega) (w1_lt _) (by simp only [List.length_append, bel_length]; omega)) ?_
  intro v3 H3 n3 o3 hA3 hn3
  have f3 := (hA3 n (by omega)).trans f2
  have g3 : Agree n H H3 := fun i hi => (hA3 i (by omega)).trans (g2 i hi)
  refine wk0 ?_
  refine AGo_turn ?_
  refine wk1 @f3 ?_
  refine AGo_makeB (r1_Put _ 8 (w0 x) v3 _ _ ((o3.srcA (bs_all _)).later (fun _ _ => rfl) (by omega)) (by omega) (by omega) (w0_lt _) (by simp only [List.length_append, bel_length]; omega)) ?_
  intro v4 H4 n4 o4 hA4 hn4
  have g4 : Agree n H H4 := fun i hi => (hA4 i (by omega)).trans (g3 i hi)
  rw [long_def] at o4
  refine wk1 @bin_sub_01 ?_
  refine AGo_turn ?_
  refine wk1 @bin_geq_m1 ?_
  exact Makes.of_agree (o4.1.weaken (by omega)) g4
theorem r1_PutBytes (l l2 : List Nat) (v v2 : Value) (H : Heap) (n : Nat) (hv : SrcA n H v (bs l) 1) (hv2 : SrcA n H v2 (bs l2) 1) (hl : l.length + l2.length < 2 ^ 36) (hl2 : l2.length < 2 ^ 32) : ACall Tryz.prog 122 [v, v2] H n (Makes n H (bs (l ++ withN l2)) 5 1) := by
  refine acall_ofF mix Tryz.func122 ok122 (fun _ _ => Tryz.call122 _ _) rfl ?_
  have hv2' := hv2
  obtain ⟨sa, m, xc, rfl, hlm, -, -⟩ := hv2.here
  rw [bs_length, Nat.mul_one] at hlm
  have q1 : m % B = m := Nat.mod_eq_of_lt (by rw [B_eq]; omega)
  refine wk3 @c122.eq_1 @u64_wrap @q1 ?_
  refine AGo_makeB (r1_Put l 4 m v _ _ (hv.later (agr) (by omega)) (by omega) (by omega) (by rw [B_eq]; omega) (by omega)) ?_
  intro v1 H1 n1 o1 hA1 hn1
  have hA : Agree n H H1 := fun i hi => hA1 i (by omega)
  refine wk0 ?_
  refine AGo_appOwn (nb := n) (o1.1.weaken (by omega)) (hv2' H1 hA) (by omega) (by rw [bs_length, bs_length, List.length_append, bel_length]; omega) (by decide) (by omega) rfl ?_
  intro v3 H3 o3 hA3
  refine wk0 ?_
  rw [← bs_append, List.append_assoc, ← hlm] at o3
  exact Makes.of_agree o3 (fun i hi => (hA3 i hi).trans (hA i hi))
end Go.Proofs.YtcjchcommaahdaaGreat

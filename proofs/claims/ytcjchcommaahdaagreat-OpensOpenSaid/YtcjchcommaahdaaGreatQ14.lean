/- Words that are added and taken from each other. Layer 2: words with a carry, and long numbers. Layer 2, further: bits and products. Products of words. Two words by one, digit by digit. No conditions. -/
import Derived.Shelf.Spec.BitsCarry
import Derived.Laws.Externs
import Derived.Test.YtcjchcommaahdaaGreatQ12
import Derived.Test.YtcjchcommaahdaaGreatQ11
import Derived.Test.YtcjchcommaahdaaGreatQ13
set_option maxRecDepth 20000
set_option maxHeartbeats 4000000
set_option linter.all false
namespace Go.Ab
def subS (x y b : Nat) : Nat := (x + B - y - b) % B
def subB (x y b : Nat) : Nat := if x < y + b then 1 else 0
def addS (x y b : Nat) : Nat := (x + y + b) % B
def addC (x y b : Nat) : Nat := (x + y + b) / B
theorem subB_le (x y b : Nat) : subB x y b ≤ 1 := by unfold subB; split <;> omega
theorem addC_le {x y b : Nat} (hx : x < B) (hy : y < B) (hb : b ≤ 1) : addC x y b ≤ 1 := by unfold addC; simp only [B_eq] at *; omega
/-- What is taken from words and lent, and what is added and carried. -/
theorem sub_words (x y : Nat) (hx : x < BB) (hy : y < BB) :
    let c0 := subB (w0 x) (w0 y) 0; let c1 := subB (w1 x) (w1 y) c0; let c2 := subB (w2 x) (w2 y) c1; let c3 := subB (w3 x) (w3 y) c2
    pack (subS (w0 x) (w0 y) 0) (subS (w1 x) (w1 y) c0) (subS (w2 x) (w2 y) c1) (subS (w3 x) (w3 y) c2) = (x + BB - y) % BB ∧ c3 = if x < y then 1 else 0 := by
  have h0 := w0_lt x; have h1 := w1_lt x; have h2 := w2_lt x; have h3 := w3_lt x
  have g0 := w0_lt y; have g1 := w1_lt y; have g2 := w2_lt y; have g3 := w3_lt y
  have px := pack_w x; have py := pack_w y
  rw [Nat.mod_eq_of_lt hx] at px; rw [Nat.mod_eq_of_lt hy] at py
  generalize w0 x = a0 at *; generalize w1 x = a1 at *; generalize w2 x = a2 at *; generalize w3 x = a3 at *
  generalize w0 y = b0 at *; generalize w1 y = b1 at *; generalize w2 y = b2 at *; generalize w3 y = b3 at *
  subst px py
  simp only [pack, subS, subB, B_eq, BB_eq] at *
  repeat' split
  all_goals omega
theorem add_words (x y : Nat) (hx : x < BB) (hy : y < BB) :
    let c0 := addC (w0 x) (w0 y) 0; let c1 := addC (w1 x) (w1 y) c0; let c2 := addC (w2 x) (w2 y) c1; let c3 := addC (w3 x) (w3 y) c2
    pack (addS (w0 x) (w0 y) 0) (addS (w1 x) (w1 y) c0) (addS (w2 x) (w2 y) c1) (addS (w3 x) (w3 y) c2) = (x + y) % BB ∧ c3 = (x + y) / BB := by
  have h0 := w0_lt x; have h1 := w1_lt x; have h2 := w2_lt x; have h3 := w3_lt x
  have g0 := w0_lt y; have g1 := w1_lt y; have g2 := w2_lt y; have g3 := w3_lt y
  have px := pack_w x; have py := pack_w y
  rw [Nat.mod_eq_of_lt hx] at px; rw [Nat.mod_eq_of_lt hy] at py
  generalize w0 x = a0 at *; generalize w1 x = a1 at *; generalize w2 x = a2 at *; generalize w3 x = a3 at *
  generalize w0 y = b0 at *; generalize w1 y = b1 at *; generalize w2 y = b2 at *; generalize w3 y = b3 at *
  subst px py
  simp only [pack, addS, addC, B_eq, BB_eq] at *
  omega
theorem subS_lt (x y b : Nat) : subS x y b < B := Nat.mod_lt _ B_pos
theorem addS_lt (x y b : Nat) : addS x y b < B := Nat.mod_lt _ B_pos

theorem subS_def (x y b : Nat) : subS x y b = (x + B - y - b) % B := rfl
theorem subB_def (x y b : Nat) : subB x y b = if x < y + b then 1 else 0 := rfl
theorem addS_def (x y b : Nat) : addS x y b = (x + y + b) % B := rfl
theorem addC_def (x y b : Nat) : addC x y b = (x + y + b) / B := rfl
attribute [irreducible] subS subB addS addC
end Go.Ab
namespace Go.Proofs.YtcjchcommaahdaaGreat
open Go.Ab

theorem mix : Tryz.prog.follows .mixedOrders = true := by kernel_rfl
/-- The law of a model's own function. -/
theorem acall_value {f : FuncId} {args : List Value} {v : Value} {H : Heap} {n : Nat} (hargs : ∀ ρ args', LRel ρ args args' → args' = args) (hv : ∀ ρ, VRel ρ v v)
    (h : ∀ w, (callFunc f args.toArray).run Tryz.prog w = .ok (.value v) w) : ACall Tryz.prog f args H n (Ret v H n) := by
  intro hC ρ w args' hH hF ha
  rw [hargs _ _ ha, h]
  exact ⟨.returned v, ρ, H, n, ⟨_, rfl, hv _⟩, ⟨rfl, rfl, rfl⟩, hH, hF, hC, Nat.le_refl _, Ext.refl _ _ _⟩

theorem sub64 (x y b : Nat) (hb : b ≤ 1) (H : Heap) (n : Nat) : ACall Tryz.prog 153 [.int .u64 (x : Nat), .int .u64 (y : Nat), .int .u64 (b : Nat)] H n
    (Ret (.tuple #[.int .u64 (subS x y b : Nat), .int .u64 (subB x y b : Nat)]) H n) := by
  refine acall_value (fun ρ args' h => by simpa [LRel, VRel] using h) (fun ρ => by simp [VRel, ARel, LRel]) fun w => ?_
  rw [run_callFunc_extern Tryz.func153 (by kernel_rfl) (by kernel_rfl) (by kernel_rfl) (e := sub64Entry) (by kernel_rfl), run_sub64 x y b hb]
  simp only [Result.andThen_ok, subS_def, subB_def, B_eq]
theorem add64 (x y b : Nat) (hb : b ≤ 1) (H : Heap) (n : Nat) : ACall Tryz.prog 152 [.int .u64 (x : Nat), .int .u64 (y : Nat), .int .u64 (b : Nat)] H n
    (Ret (.tuple #[.int .u64 (addS x y b : Nat), .int .u64 (addC x y b : Nat)]) H n) := by
  refine acall_value (fun ρ args' h => by simpa [LRel, VRel] using h) (fun ρ => by simp [VRel, ARel, LRel]) fun w => ?_
  rw [run_callFunc_extern Tryz.func152 (by kernel_rfl) (by kernel_rfl) (by kernel_rfl) (e := add64Entry) (by kernel_rfl), run_add64 x y b (by omega) (by omega) (by omega) (by omega)]
  simp only [Result.andThen_ok, addS_def, addC_def, B_eq]
  congr 5

theorem low_num (n x : Nat) : Low n (N x) := Low.agg (LowL.cons Low.int (LowL.cons Low.int (LowL.cons Low.int (LowL.cons Low.int (LowL.nil n)))))
theorem low_pair {n : Nat} {a b : Value} (ha : Low n a) (hb : Low n b) : Low n (.tuple #[a, b]) := Low.tuple (LowL.cons ha (LowL.cons hb (LowL.nil n)))

theorem limbs_Sub (x y : Nat) (hx : x < BB) (hy : y < BB) (H : Heap) (n : Nat) : ACall Tryz.prog 130 [N x, N y] H n (Ret (.tuple #[N ((x + BB - y) % BB), .int .u64 ((if x < y then 1 else 0 : Nat) : Nat)]) H n) := by
  refine acall_retF mix (low_pair (low_num _ _) Low.int) Tryz.func130 ok130 (fun _ _ => Tryz.call130 _ _) rfl ?_
  obtain ⟨h1, h2⟩ := sub_words x y hx hy
  rw [← h1, ← h2, N_pack (subS_lt _ _ _) (subS_lt _ _ _) (subS_lt _ _ _) (subS_lt _ _ _)]
  refine wk2 @c130.eq_1 @N.eq_1 ?_
  refine AGo_turn ?_
  refine wk0 ?_
  refine AGo_askV (sub64 _ _ 0 (Nat.zero_le 1) _ _) ?_
  refine wk0 ?_
  refine AGo_turn ?_
  refine wk0 ?_
  refine AGo_askV (sub64 _ _ _ (subB_le _ _ _) _ _) ?_
  refine wk0 ?_
  refine AGo_turn ?_
  refine wk0 ?_
  refine AGo_askV (sub64 _ _ _ (subB_le _ _ _) _ _) ?_
  refine wk0 ?_
  refine AGo_turn ?_
  refine wk0 ?_
  refine AGo_askV (sub64 _ _ _ (subB_le _ _ _) _ _) ?_
  refine wk0 ?_
  refine AGo_turn ?_
  refine wk0 ?_
  exact ⟨rfl, agr⟩
theorem limbs_Add (x y : Nat) (hx : x < BB) (hy : y < BB) (H : Heap) (n : Nat) : ACall Tryz.prog 129 [N x, N y] H n (Ret (.tuple #[N ((x + y) % BB), .int .u64 ((x + y) / BB : Nat)]) H n) := by
  refine acall_retF mix (low_pair (low_num _ _) Low.int) Tryz.func129 ok129 (fun _ _ => Tryz.call129 _ _) rfl ?_
  obtain ⟨h1, h2⟩ := add_words x y hx hy
  have c0 := addC_le (w0_lt x) (w0_lt y) (Nat.zero_le 1)
  have c1 := addC_le (w1_lt x) (w1_lt y) c0
  have c2 := addC_le (w2_lt x) (w2_lt y) c1
  rw [← h1, ← h2, N_pack (addS_lt _ _ _) (addS_lt _ _ _) (addS_lt _ _ _) (addS_lt _ _ _)]
  refine wk2 @c129.eq_1 @N.eq_1 ?_
  refine AGo_turn ?_
  refine wk0 ?_
  refine AGo_askV (add64 _ _ 0 (Nat.zero_le 1) _ _) ?_
  refine wk0 ?_
  refine AGo_turn ?_
  refine wk0 ?_
  refine AGo_askV (add64 _ _ _ c0 _ _) ?_
  refine wk0 ?_
  refine AGo_turn ?_
  refine wk0 ?_
  refine AGo_askV (add64 _ _ _ c1 _ _) ?_
  refine wk0 ?_
  refine AGo_turn ?_
  refine wk0 ?_
  refine AGo_askV (add64 _ _ _ c2 _ _) ?_
  refine wk0 ?_
  refine AGo_turn ?_
  refine wk0 ?_
  exact ⟨rfl, agr⟩
theorem limbs_Of (x : Nat) (hx : x < B) (H : Heap) (n : Nat) : ACall Tryz.prog 49 [.int .u64 (x : Nat)] H n (Ret (N x) H n) := by
  refine acall_retF mix (low_num _ _) Tryz.func49 ok49 (fun _ _ => Tryz.call49 _ _) rfl ?_
  rw [N_small hx]
  refine wk1 @c49.eq_1 ?_
  exact ⟨rfl, agr⟩

def cmpV (x y : Nat) : Int := if x < y then -1 else if x = y then 0 else 1
theorem cmp_leq (x y : Nat) : binInt .leq .i64 (cmpV x y) .i64 ((0 : Nat) : Int) = some (.bool (decide (x ≤ y))) := by
  unfold cmpV; simp only [binInt, if_pos]; congr 3; split <;> (try split) <;> simp <;> omega
theorem cmp_geq (x y : Nat) : binInt .geq .i64 (cmpV x y) .i64 ((0 : Nat) : Int) = some (.bool (decide (y ≤ x))) := by
  unfold cmpV; simp only [binInt, if_pos]; congr 3; split <;> (try split) <;> simp <;> omega
theorem cmp_lss (x y : Nat) : binInt .lss .i64 (cmpV x y) .i64 ((0 : Nat) : Int) = some (.bool (decide (x < y))) := by
  unfold cmpV; simp only [binInt, if_pos]; congr 3; split <;> (try split) <;> simp <;> omega
theorem cmp_gtr (x y : Nat) : binInt .gtr .i64 (cmpV x y) .i64 ((0 : Nat) : Int) = some (.bool (decide (y < x))) := by
  unfold cmpV; simp only [binInt, if_pos]; congr 3; split <;> (try split) <;> simp <;> omega
theorem cmp_eql (x y : Nat) : binInt .eql .i64 (cmpV x y) .i64 ((0 : Nat) : Int) = some (.bool (decide (x = y))) := by
  unfold cmpV; simp only [binInt, if_pos]; congr 3; split <;> (try split) <;> simp <;> omega
/-- Are long numbers the same? -/
theorem N_beq (x y : Nat) (hx : x < BB) (hy : y < BB) :
    (((w0 x : Int) == (w0 y : Int)) && (((w1 x : Int) == (w1 y : Int)) && (((w2 x : Int) == (w2 y : Int)) && ((w3 x : Int) == (w3 y : Int))))) = decide (x = y) := by
  by_cases h : x = y
  · subst h; simp
  · rw [decide_eq_false h]
    simp only [Bool.and_eq_false_iff, beq_eq_false_iff_ne, ne_eq, Int.natCast_inj]
    by_cases h0 : w0 x = w0 y
    · by_cases h1 : w1 x = w1 y
      · by_cases h2 : w2 x = w2 y
        · exact .inr (.inr (.inr fun h3 => h (w_inj hx hy h0 h1 h2 h3)))
        · exact .inr (.inr (.inl h2))
      · exact .inr (.inl h1)
    · exact .inl h0
theorem limbs_Cmp (x y : Nat) (hx : x < BB) (hy : y < BB) (H : Heap) (n : Nat) : ACall Tryz.prog 93 [N x, N y] H n (Ret (.int .i64 (cmpV x y)) H n) := by
  refine acall_retF mix Low.int Tryz.func93 ok93 (fun _ _ => Tryz.call93 _ _) rfl ?_
  by_cases h : x = y
  · simp (disch := first | assumption | omega) only [c93, N, N_beq x y hx hy, h, W, sim, ↓reduceIte, Nat.reduceAdd, Nat.reduceSub, Nat.reduceMul, Nat.reduceLT, Nat.reduceLeDiff, Nat.reduceEqDiff, Nat.reduceBEq, Nat.reduceBNe, Nat.reduceMod, Nat.reduceDiv]
    exact ⟨by rw [cmpV, if_neg (Nat.lt_irrefl _), if_pos rfl]; rfl, agr⟩
  · simp (disch := first | assumption | omega) only [c93, N, N_beq x y hx hy, h, W, sim, ↓reduceIte, Nat.reduceAdd, Nat.reduceSub, Nat.reduceMul, Nat.reduceLT, Nat.reduceLeDiff, Nat.reduceEqDiff, Nat.reduceBEq, Nat.reduceBNe, Nat.reduceMod, Nat.reduceDiv]
    refine AGo_askV (limbs_Sub x y hx hy _ _) ?_
    refine wk1 @N.eq_1 ?_
    by_cases hl : x < y
    · refine wk1 @hl ?_
      exact ⟨by simp [cmpV, hl], agr⟩
    · refine wk1 @hl ?_
      exact ⟨by simp [cmpV, hl, h], agr⟩

/-- How many bits it needs. -/
def nbits (x : Nat) : Nat := if x = 0 then 0 else Nat.log2 x + 1
theorem nbits_le {x k : Nat} : nbits x ≤ k ↔ x < 2 ^ k := by
  unfold nbits
  split
  · rename_i h; subst h; simp; exact Nat.pow_pos (by decide)
  · rename_i h; rw [← Nat.log2_lt h]; omega
theorem lt_nbits (x : Nat) : x < 2 ^ nbits x := nbits_le.1 (Nat.le_refl _)
theorem nbits_shift (x k j : Nat) (h : nbits (x / 2 ^ k) = j) (hx : x / 2 ^ k ≠ 0) : nbits x = k + j := by
  have h1 : x < 2 ^ (k + j) := by
    have := lt_nbits (x / 2 ^ k); rw [h] at this
    rw [Nat.pow_add, Nat.mul_comm]; exact (Nat.div_lt_iff_lt_mul (Nat.pow_pos (by decide))).1 this
  have h2 := nbits_le.2 h1
  have h3 : k + j ≤ nbits x := by
    have hj : j ≠ 0 := by intro e; subst e; unfold nbits at h; rw [if_neg hx] at h; omega
    have h4 : ¬ nbits (x / 2 ^ k) ≤ j - 1 := by omega
    rw [nbits_le] at h4
    have h5 : ¬ nbits x ≤ k + (j - 1) := by
      rw [nbits_le]; intro h6; apply h4
      rw [Nat.pow_add] at h6
      exact (Nat.div_lt_iff_lt_mul (Nat.pow_pos (by decide))).2 (by rw [Nat.mul_comm]; exact h6)
    omega
  omega
theorem nbits_zero : nbits 0 = 0 := rfl
end Go.Proofs.YtcjchcommaahdaaGreat
namespace Go.Proofs.YtcjchcommaahdaaGreat
open Go.Ab

theorem len8_all : (List.range 256).all (fun j => (⟨#[0, 1, 2, 2, 3, 3, 3, 3, 4, 4, 4, 4, 4, 4, 4, 4, 5, 5, 5, 5, 5, 5, 5, 5, 5, 5, 5, 5, 5, 5, 5, 5, 6, 6, 6, 6, 6, 6, 6, 6, 6, 6, 6, 6, 6, 6, 6, 6, 6, 6, 6, 6, 6, 6, 6, 6, 6, 6, 6, 6, 6, 6, 6, 6, 7, 7, 7, 7, 7, 7, 7, 7, 7, 7, 7, 7, 7, 7, 7, 7, 7, 7, 7, 7, 7, 7, 7, 7, 7, 7, 7, 7, 7, 7, 7, 7, 7, 7, 7, 7, 7, 7, 7, 7, 7, 7, 7, 7, 7, 7, 7, 7, 7, 7, 7, 7, 7, 7, 7, 7, 7, 7, 7, 7, 7, 7, 7, 7, 8, 8, 8, 8, 8, 8, 8, 8, 8, 8, 8, 8, 8, 8, 8, 8, 8, 8, 8, 8, 8, 8, 8, 8, 8, 8, 8, 8, 8, 8, 8, 8, 8, 8, 8, 8, 8, 8, 8, 8, 8, 8, 8, 8, 8, 8, 8, 8, 8, 8, 8, 8, 8, 8, 8, 8, 8, 8, 8, 8, 8, 8, 8, 8, 8, 8, 8, 8, 8, 8, 8, 8, 8, 8, 8, 8, 8, 8, 8, 8, 8, 8, 8, 8, 8, 8, 8, 8, 8, 8, 8, 8, 8, 8, 8, 8, 8, 8, 8, 8, 8, 8, 8, 8, 8, 8, 8, 8, 8, 8, 8, 8, 8, 8, 8, 8, 8, 8, 8, 8, 8, 8, 8, 8, 8, 8, 8, 8]⟩ : ByteArray)[j]? == some (UInt8.ofNat (nbits j))) = true := by kernel_rfl
theorem len8 {j : Nat} (h : j < 256) : ∃ b : UInt8, (⟨#[0, 1, 2, 2, 3, 3, 3, 3, 4, 4, 4, 4, 4, 4, 4, 4, 5, 5, 5, 5, 5, 5, 5, 5, 5, 5, 5, 5, 5, 5, 5, 5, 6, 6, 6, 6, 6, 6, 6, 6, 6, 6, 6, 6, 6, 6, 6, 6, 6, 6, 6, 6, 6, 6, 6, 6, 6, 6, 6, 6, 6, 6, 6, 6, 7, 7, 7, 7, 7, 7, 7, 7, 7, 7, 7, 7, 7, 7, 7, 7, 7, 7, 7, 7, 7, 7, 7, 7, 7, 7, 7, 7, 7, 7, 7, 7, 7, 7, 7, 7, 7, 7, 7, 7, 7, 7, 7, 7, 7, 7, 7, 7, 7, 7, 7, 7, 7, 7, 7, 7, 7, 7, 7, 7, 7, 7, 7, 7, 8, 8, 8, 8, 8, 8, 8, 8, 8, 8, 8, 8, 8, 8, 8, 8, 8, 8, 8, 8, 8, 8, 8, 8, 8, 8, 8, 8, 8, 8, 8, 8, 8, 8, 8, 8, 8, 8, 8, 8, 8, 8, 8, 8, 8, 8, 8, 8, 8, 8, 8, 8, 8, 8, 8, 8, 8, 8, 8, 8, 8, 8, 8, 8, 8, 8, 8, 8, 8, 8, 8, 8, 8, 8, 8, 8, 8, 8, 8, 8, 8, 8, 8, 8, 8, 8, 8, 8, 8, 8, 8, 8, 8, 8, 8, 8, 8, 8, 8, 8, 8, 8, 8, 8, 8, 8, 8, 8, 8, 8, 8, 8, 8, 8, 8, 8, 8, 8, 8, 8, 8, 8, 8, 8, 8, 8, 8, 8]⟩ : ByteArray)[j]? = some b ∧ b.toNat = nbits j := by
  have := List.all_eq_true.1 len8_all j (by simpa using h)
  refine ⟨_, by simpa using this, ?_⟩
  have h8 : nbits j ≤ 8 := nbits_le.2 (by omega)
  simp; omega
theorem nbits_step {x k : Nat} (h : 2 ^ k ≤ x) : nbits x = k + nbits (x / 2 ^ k) :=
  nbits_shift x k _ rfl (by have := Nat.div_pos h (Nat.pow_pos (by decide)); omega)

theorem len_leaf {y a x : Nat} (hy : y < 256) (ha : a ≤ 56) (hn : nbits x = a + nbits y) : ∃ b : UInt8, y % 256 = y ∧ (⟨#[0, 1, 2, 2, 3, 3, 3, 3, 4, 4, 4, 4, 4, 4, 4, 4, 5, 5, 5, 5, 5, 5, 5, 5, 5, 5, 5, 5, 5, 5, 5, 5, 6, 6, 6, 6, 6, 6, 6, 6, 6, 6, 6, 6, 6, 6, 6, 6, 6, 6, 6, 6, 6, 6, 6, 6, 6, 6, 6, 6, 6, 6, 6, 6, 7, 7, 7, 7, 7, 7, 7, 7, 7, 7, 7, 7, 7, 7, 7, 7, 7, 7, 7, 7, 7, 7, 7, 7, 7, 7, 7, 7, 7, 7, 7, 7, 7, 7, 7, 7, 7, 7, 7, 7, 7, 7, 7, 7, 7, 7, 7, 7, 7, 7, 7, 7, 7, 7, 7, 7, 7, 7, 7, 7, 7, 7, 7, 7, 8, 8, 8, 8, 8, 8, 8, 8, 8, 8, 8, 8, 8, 8, 8, 8, 8, 8, 8, 8, 8, 8, 8, 8, 8, 8, 8, 8, 8, 8, 8, 8, 8, 8, 8, 8, 8, 8, 8, 8, 8, 8, 8, 8, 8, 8, 8, 8, 8, 8, 8, 8, 8, 8, 8, 8, 8, 8, 8, 8, 8, 8, 8, 8, 8, 8, 8, 8, 8, 8, 8, 8, 8, 8, 8, 8, 8, 8, 8, 8, 8, 8, 8, 8, 8, 8, 8, 8, 8, 8, 8, 8, 8, 8, 8, 8, 8, 8, 8, 8, 8, 8, 8, 8, 8, 8, 8, 8, 8, 8, 8, 8, 8, 8, 8, 8, 8, 8, 8, 8, 8, 8, 8, 8, 8, 8, 8, 8]⟩ : ByteArray)[y]? = some b ∧ IntKind.i64.wrap ((b.toNat : Nat) : Int) = ((nbits y : Nat) : Int) ∧
    binInt .add .i64 ((a : Nat) : Int) .i64 ((nbits y : Nat) : Int) = some (.int .i64 ((nbits x : Nat) : Int)) := by
  obtain ⟨b, hb, hb2⟩ := len8 hy
  have h8 : nbits y ≤ 8 := nbits_le.2 (by omega)
  exact ⟨b, Nat.mod_eq_of_lt hy, hb, by rw [hb2, i64_wrap (by omega)], by rw [bin_add_i64 a (nbits y) (by omega), hn]⟩
theorem len64 (x : Nat) (hx : x < B) (H : Heap) (n : Nat) : ACall Tryz.prog 137 [.int .u64 (x : Nat)] H n (Ret (.int .i64 (nbits x : Nat)) H n) := by
  refine acall_retF mix lw Tryz.func137 ok137 (fun _ _ => Tryz.call137 _ _) rfl ?_
  rw [B_eq] at hx
  by_cases h0 : 4294967296 ≤ x
  · have e0 := nbits_step (x := x) (k := 32) h0
    by_cases h1 : 65536 ≤ x / 2 ^ 32
    · have e1 := nbits_step (x := x / 2 ^ 32) (k := 16) h1
      by_cases h2 : 256 ≤ x / 2 ^ 32 / 2 ^ 16
      · have e2 := nbits_step (x := x / 2 ^ 32 / 2 ^ 16) (k := 8) h2
        obtain ⟨b, q1, q2, q3, q4⟩ := len_leaf (x := x) (y := x / 2 ^ 32 / 2 ^ 16 / 2 ^ 8) (a := 56) (by omega) (by omega) (by omega)
        refine wk8 @c137.eq_1 @h0 @h1 @h2 @q1 @q2 @q3 @q4 ?_
        exact ⟨rfl, agr⟩
      · skip
        obtain ⟨b, q1, q2, q3, q4⟩ := len_leaf (x := x) (y := x / 2 ^ 32 / 2 ^ 16) (a := 48) (by omega) (by omega) (by omega)
        refine wk8 @c137.eq_1 @h0 @h1 @h2 @q1 @q2 @q3 @q4 ?_
        exact ⟨rfl, agr⟩
    · skip
      by_cases h2 : 256 ≤ x / 2 ^ 32
      · have e2 := nbits_step (x := x / 2 ^ 32) (k := 8) h2
        obtain ⟨b, q1, q2, q3, q4⟩ := len_leaf (x := x) (y := x / 2 ^ 32 / 2 ^ 8) (a := 40) (by omega) (by omega) (by omega)
        refine wk8 @c137.eq_1 @h0 @h1 @h2 @q1 @q2 @q3 @q4 ?_
        exact ⟨rfl, agr⟩
      · skip
        obtain ⟨b, q1, q2, q3, q4⟩ := len_leaf (x := x) (y := x / 2 ^ 32) (a := 32) (by omega) (by omega) (by omega)
        refine wk8 @c137.eq_1 @h0 @h1 @h2 @q1 @q2 @q3 @q4 ?_
        exact ⟨rfl, agr⟩
  · skip
    by_cases h1 : 65536 ≤ x
    · have e1 := nbits_step (x := x) (k := 16) h1
      by_cases h2 : 256 ≤ x / 2 ^ 16
      · have e2 := nbits_step (x := x / 2 ^ 16) (k := 8) h2
        obtain ⟨b, q1, q2, q3, q4⟩ := len_leaf (x := x) (y := x / 2 ^ 16 / 2 ^ 8) (a := 24) (by omega) (by omega) (by omega)
        refine wk8 @c137.eq_1 @h0 @h1 @h2 @q1 @q2 @q3 @q4 ?_
        exact ⟨rfl, agr⟩
      · skip
        obtain ⟨b, q1, q2, q3, q4⟩ := len_leaf (x := x) (y := x / 2 ^ 16) (a := 16) (by omega) (by omega) (by omega)
        refine wk8 @c137.eq_1 @h0 @h1 @h2 @q1 @q2 @q3 @q4 ?_
        exact ⟨rfl, agr⟩
    · skip
      by_cases h2 : 256 ≤ x
      · have e2 := nbits_step (x := x) (k := 8) h2
        obtain ⟨b, q1, q2, q3, q4⟩ := len_leaf (x := x) (y := x / 2 ^ 8) (a := 8) (by omega) (by omega) (by omega)
        refine wk8 @c137.eq_1 @h0 @h1 @h2 @q1 @q2 @q3 @q4 ?_
        exact ⟨rfl, agr⟩
      · skip
        obtain ⟨b, q1, q2, q3, q4⟩ := len_leaf (x := x) (y := x) (a := 0) (by omega) (by omega) (by omega)
        refine wk8 @c137.eq_1 @h0 @h1 @h2 @q1 @q2 @q3 @q4 ?_
        exact ⟨rfl, agr⟩
theorem leading64 (x : Nat) (hx : x < B) (H : Heap) (n : Nat) : ACall Tryz.prog 154 [.int .u64 (x : Nat)] H n (Ret (.int .i64 (64 - nbits x : Nat)) H n) := by
  refine acall_retF mix Low.int Tryz.func154 ok154 (fun _ _ => Tryz.call154 _ _) rfl ?_
  have h : nbits x ≤ 64 := nbits_le.2 (by rw [B_eq] at hx; omega)
  refine wk1 @c154.eq_1 ?_
  refine AGo_askV (len64 x hx _ _) ?_
  refine wk1 @h ?_
  exact ⟨rfl, agr⟩

theorem nbits_words (x : Nat) (hx : x < BB) :
    nbits x = if 0 < w3 x then 192 + nbits (w3 x) else if 0 < w2 x then 128 + nbits (w2 x) else if 0 < w1 x then 64 + nbits (w1 x) else if 0 < w0 x then 0 + nbits (w0 x) else 0 := by
  have h0 := w0_lt x; have h1 := w1_lt x; have h2 := w2_lt x; have h3 := w3_lt x
  have px := pack_w x
  rw [Nat.mod_eq_of_lt hx] at px
  generalize w0 x = a0 at *; generalize w1 x = a1 at *; generalize w2 x = a2 at *; generalize w3 x = a3 at *
  rw [pack_def] at px
  simp only [B_eq] at *
  have e : ∀ k y z, x / 2 ^ k = y → y ≠ 0 → z = y → nbits x = k + nbits z := fun k y z hy hn hz => by subst hz; exact nbits_shift x k _ (by rw [hy]) (by rw [hy]; exact hn)
  split
  · exact e 192 _ a3 rfl (by omega) (by omega)
  · split
    · exact e 128 _ a2 rfl (by omega) (by omega)
    · split
      · exact e 64 _ a1 rfl (by omega) (by omega)
      · split
        · rw [Nat.zero_add]; congr 1; omega
        · have : x = 0 := by omega
          rw [this]; rfl

theorem limbs_Bits (x : Nat) (hx : x < BB) (H : Heap) (n : Nat) : ACall Tryz.prog 95 [N x] H n (Ret (.int .i64 (nbits x : Nat)) H n) := by
  refine acall_retF mix Low.int Tryz.func95 ok95 (fun _ _ => Tryz.call95 _ _) rfl ?_
  rw [nbits_words x hx]
  have b0 : nbits (w0 x) ≤ 64 := nbits_le.2 (by have := w0_lt x; rw [B_eq] at this; omega)
  have b1 : nbits (w1 x) ≤ 64 := nbits_le.2 (by have := w1_lt x; rw [B_eq] at this; omega)
  have b2 : nbits (w2 x) ≤ 64 := nbits_le.2 (by have := w2_lt x; rw [B_eq] at this; omega)
  have b3 : nbits (w3 x) ≤ 64 := nbits_le.2 (by have := w3_lt x; rw [B_eq] at this; omega)
  refine wk2 @c95.eq_1 @N.eq_1 ?_
  by_cases h3 : 0 < w3 x
  · refine AGo_turn ?_
    refine wk1 @h3 ?_
    refine AGo_askV (len64 _ (w3_lt x) _ _) ?_
    have : 192 + nbits (w3 x) < 9223372036854775808 := by omega
    refine wk1 @this ?_
    exact ⟨rfl, agr⟩
  refine AGo_turn ?_
  refine wk1 @h3 ?_
  by_cases h2 : 0 < w2 x
  · refine AGo_turn ?_
    refine wk1 @h2 ?_
    refine AGo_askV (len64 _ (w2_lt x) _ _) ?_
    have : 128 + nbits (w2 x) < 9223372036854775808 := by omega
    refine wk1 @this ?_
    exact ⟨rfl, agr⟩
  refine AGo_turn ?_
  refine wk1 @h2 ?_
  by_cases h1 : 0 < w1 x
  · refine AGo_turn ?_
    refine wk1 @h1 ?_
    refine AGo_askV (len64 _ (w1_lt x) _ _) ?_
    have : 64 + nbits (w1 x) < 9223372036854775808 := by omega
    refine wk1 @this ?_
    exact ⟨rfl, agr⟩
  refine AGo_turn ?_
  refine wk1 @h1 ?_
  by_cases h0 : 0 < w0 x
  · refine AGo_turn ?_
    refine wk1 @h0 ?_
    refine AGo_askV (len64 _ (w0_lt x) _ _) ?_
    have : nbits (w0 x) < 9223372036854775808 := by omega
    refine wk1 @this ?_
    exact ⟨rfl, agr⟩
  refine AGo_turn ?_
  refine wk1 @h0 ?_
  refine AGo_turn ?_
  refine wk0 ?_
  exact ⟨rfl, agr⟩
/-- One of its bits. -/
def bitOf (x i : Nat) : Nat := x / 2 ^ i % 2
def wAt (x k : Nat) : Nat := match k with | 0 => w0 x | 1 => w1 x | 2 => w2 x | _ => w3 x
theorem bit_words (x : Nat) (hx : x < BB) (i : Nat) (hi : i < 256) :
    wAt x (i / 64) / 2 ^ (i % 64) % 2 = bitOf x i := by
  have e : ∀ k j, j < 64 → i = k + j → x / 2 ^ k % B / 2 ^ j % 2 = bitOf x i := by
    intro k j hj h
    unfold bitOf
    rw [h, Nat.pow_add, ← Nat.div_div_eq_div_mul, B_eq, show (18446744073709551616 : Nat) = 2 ^ j * 2 ^ (64 - j) by rw [← Nat.pow_add, show j + (64 - j) = 64 by omega], Nat.mod_mul_right_div_self]
    rw [show 64 - j = (63 - j) + 1 by omega, Nat.pow_succ, Nat.mod_mul_left_mod]
  have h0 : w0 x = x / 2 ^ 0 % B := by rw [w0_def]; simp
  have h1 : w1 x = x / 2 ^ 64 % B := by rw [w1_def, show (2 : Nat) ^ 64 = B by rw [B_eq]]
  have h2 : w2 x = x / 2 ^ 128 % B := by rw [w2_def, show (2 : Nat) ^ 128 = B * B by rw [B_eq]]
  have h3 : w3 x = x / 2 ^ 192 % B := by rw [w3_def, show (2 : Nat) ^ 192 = B * B * B by rw [B_eq]]
  have hd : i / 64 = 0 ∨ i / 64 = 1 ∨ i / 64 = 2 ∨ i / 64 = 3 := by omega
  rcases hd with hd | hd | hd | hd <;> rw [hd] <;> simp only [wAt]
  · rw [h0]; exact e 0 _ (Nat.mod_lt _ (by decide)) (by omega)
  · rw [h1]; exact e 64 _ (Nat.mod_lt _ (by decide)) (by omega)
  · rw [h2]; exact e 128 _ (Nat.mod_lt _ (by decide)) (by omega)
  · rw [h3]; exact e 192 _ (Nat.mod_lt _ (by decide)) (by omega)
theorem cell_word (x : Nat) (k : Nat) (hk : k < 4) : [Value.int .u64 (w0 x : Nat), .int .u64 (w1 x : Nat), .int .u64 (w2 x : Nat), .int .u64 (w3 x : Nat)][k]? = some (.int .u64 (wAt x k : Nat)) := by
  have hd : k = 0 ∨ k = 1 ∨ k = 2 ∨ k = 3 := by omega
  rcases hd with rfl | rfl | rfl | rfl <;> rfl

theorem bit_and (a : Nat) : (a &&& 1) % B = a % 2 := by rw [Nat.and_one_is_mod, Nat.mod_eq_of_lt]; rw [B_eq]; omega
theorem limbs_Bit (x i : Nat) (hx : x < BB) (hi : i < 256) (H : Heap) (n : Nat) : ACall Tryz.prog 134 [N x, .int .i64 (i : Nat)] H n (Ret (.int .u64 (bitOf x i : Nat)) H n) := by
  refine acall_retF mix Low.int Tryz.func134 ok134 (fun _ _ => Tryz.call134 _ _) rfl ?_
  have h1 : i < 9223372036854775808 := by omega
  have h2 : i / 64 < 4 := by omega
  have h3 : i % 64 < 64 := by omega
  simp (disch := first | assumption | omega) only [c134, N, Nat.not_lt_zero, Nat.not_le.2 hi, h1, h2, cell_word x _ h2, h3, bit_and, bit_words x hx i hi, W, sim, ↓reduceIte, Nat.reduceAdd, Nat.reduceSub, Nat.reduceMul, Nat.reduceLT, Nat.reduceLeDiff, Nat.reduceEqDiff, Nat.reduceBEq, Nat.reduceBNe, Nat.reduceMod, Nat.reduceDiv]
  exact ⟨rfl, agr⟩
end Go.Proofs.YtcjchcommaahdaaGreat
namespace Go.Proofs.YtcjchcommaahdaaGreat
open Go.Ab

theorem and_mask (a : Nat) : (a &&& 4294967295) % B = a % 4294967296 := by
  rw [show (4294967295 : Nat) = 2 ^ 32 - 1 by decide, Nat.and_two_pow_sub_one_eq_mod, Nat.mod_eq_of_lt]
  rw [B_eq]; omega
theorem mul_bound {a b : Nat} (ha : a < 4294967296) (hb : b < 4294967296) : a * b ≤ 18446744065119617025 := by
  have := Nat.mul_le_mul (show a ≤ 4294967295 by omega) (show b ≤ 4294967295 by omega)
  omega
theorem mul_parts (p11 p10 p01 p00 : Nat) (h1 : p11 ≤ 18446744065119617025) (h2 : p10 ≤ 18446744065119617025) (h3 : p01 ≤ 18446744065119617025) (h4 : p00 ≤ 18446744065119617025) :
    ((p11 % B + (p10 % B + p00 % B / 2 ^ 32) % B / 2 ^ 32) % B + ((p10 % B + p00 % B / 2 ^ 32) % B % 4294967296 + p01 % B) % B / 2 ^ 32) % B =
      (p11 * 18446744073709551616 + (p10 + p01) * 4294967296 + p00) / B := by
  simp only [B_eq]; omega
theorem mul64_hi (x y : Nat) (hx : x < B) (hy : y < B) :
    ((x / 2 ^ 32 * (y / 2 ^ 32) % B + (x / 2 ^ 32 * (y % 4294967296) % B + x % 4294967296 * (y % 4294967296) % B / 2 ^ 32) % B / 2 ^ 32) % B +
      ((x / 2 ^ 32 * (y % 4294967296) % B + x % 4294967296 * (y % 4294967296) % B / 2 ^ 32) % B % 4294967296 + x % 4294967296 * (y / 2 ^ 32) % B) % B / 2 ^ 32) % B = x * y / B := by
  rw [B_eq] at hx hy
  have a1 : x / 2 ^ 32 < 4294967296 := by omega
  have b1 : y / 2 ^ 32 < 4294967296 := by omega
  have a0 : x % 4294967296 < 4294967296 := by omega
  have b0 : y % 4294967296 < 4294967296 := by omega
  rw [mul_parts _ _ _ _ (mul_bound a1 b1) (mul_bound a1 b0) (mul_bound a0 b1) (mul_bound a0 b0)]
  congr 1
  have ex : x = x / 2 ^ 32 * 4294967296 + x % 4294967296 := by omega
  have ey : y = y / 2 ^ 32 * 4294967296 + y % 4294967296 := by omega
  conv => rhs; rw [ex, ey]
  simp only [Nat.add_mul, Nat.mul_add]
  have e1 : ∀ a b : Nat, a * 4294967296 * (b * 4294967296) = a * b * 18446744073709551616 := fun a b => by rw [Nat.mul_mul_mul_comm]
  have e2 : ∀ a b : Nat, a * (b * 4294967296) = a * b * 4294967296 := fun a b => by rw [Nat.mul_assoc]
  have e3 : ∀ a b : Nat, a * 4294967296 * b = a * b * 4294967296 := fun a b => by rw [Nat.mul_right_comm]
  rw [e1, e2, e3]
  omega

theorem mul64 (x y : Nat) (hx : x < B) (hy : y < B) (H : Heap) (n : Nat) : ACall Tryz.prog 138 [.int .u64 (x : Nat), .int .u64 (y : Nat)] H n (Ret (.tuple #[.int .u64 (x * y / B : Nat), .int .u64 (x * y % B : Nat)]) H n) := by
  refine acall_retF mix (low_pair Low.int Low.int) Tryz.func138 ok138 (fun _ _ => Tryz.call138 _ _) rfl ?_
  refine wk2 @c138.eq_1 @and_mask ?_
  rw [mul64_hi x y hx hy]
  exact ⟨rfl, agr⟩

theorem mul_lt_B {x y : Nat} (hx : x < B) (hy : y < B) : x * y ≤ (B - 1) * (B - 1) := Nat.mul_le_mul (by omega) (by omega)
/-- A product, a sum, and what is carried. -/
theorem limbs_times (a b s m : Nat) (ha : a < B) (hb : b < B) (hs : s < B) (hm : m < B) (H : Heap) (n : Nat) :
    ACall Tryz.prog 155 [.int .u64 (a : Nat), .int .u64 (b : Nat), .int .u64 (s : Nat), .int .u64 (m : Nat)] H n (Ret (.tuple #[.int .u64 ((a * b + (s + m)) % B : Nat), .int .u64 ((a * b + (s + m)) / B : Nat)]) H n) := by
  refine acall_retF mix (low_pair Low.int Low.int) Tryz.func155 ok155 (fun _ _ => Tryz.call155 _ _) rfl ?_
  refine wk1 @c155.eq_1 ?_
  refine AGo_askV (mul64 a b ha hb _ _) ?_
  refine wk0 ?_
  refine AGo_askV (add64 _ _ 0 (Nat.zero_le 1) _ _) ?_
  refine wk0 ?_
  refine AGo_askV (add64 _ _ 0 (Nat.zero_le 1) _ _) ?_
  refine wk0 ?_
  have h := mul_lt_B ha hb
  have e1 : addS (addS (a * b % B) s 0) m 0 = (a * b + (s + m)) % B := by
    simp only [addS_def, B_eq] at *; omega
  have e2 : ((a * b / B + addC (a * b % B) s 0) % B + addC (addS (a * b % B) s 0) m 0) % B = (a * b + (s + m)) / B := by
    simp only [addS_def, addC_def, B_eq] at *; omega
  rw [e1, e2]
  exact ⟨rfl, agr⟩
theorem times_ex (a b s m : Nat) (ha : a < B) (hb : b < B) (hs : s < B) (hm : m < B) : ∃ lo hi, lo < B ∧ hi < B ∧ lo + B * hi = a * b + (s + m) ∧
    ∀ H n, ACall Tryz.prog 155 [.int .u64 (a : Nat), .int .u64 (b : Nat), .int .u64 (s : Nat), .int .u64 (m : Nat)] H n (Ret (.tuple #[.int .u64 (lo : Nat), .int .u64 (hi : Nat)]) H n) := by
  refine ⟨(a * b + (s + m)) % B, (a * b + (s + m)) / B, Nat.mod_lt _ B_pos, ?_, Nat.mod_add_div _ _, fun H n => limbs_times a b s m ha hb hs hm H n⟩
  have h := mul_lt_B ha hb
  simp only [B_eq] at *; omega
theorem mul_words (x y : Nat) (l0 l1 l2 l3 l4 l5 l6 l7 : Nat) (h0 : l0 < B) (h1 : l1 < B) (h2 : l2 < B) (h3 : l3 < B) (h4 : l4 < B) (h5 : l5 < B) (h6 : l6 < B) (h7 : l7 < B)
    (h : pack l0 l1 l2 l3 + BB * pack l4 l5 l6 l7 = x * y) :
    Value.tuple #[N (x * y % BB), N (x * y / BB)] = .tuple #[.agg #[.int .u64 (l0 : Nat), .int .u64 (l1 : Nat), .int .u64 (l2 : Nat), .int .u64 (l3 : Nat)], .agg #[.int .u64 (l4 : Nat), .int .u64 (l5 : Nat), .int .u64 (l6 : Nat), .int .u64 (l7 : Nat)]] := by
  rw [← h, Nat.add_mul_mod_self_left, Nat.mod_eq_of_lt (pack_lt h0 h1 h2 h3), Nat.add_mul_div_left _ _ BB_pos, Nat.div_eq_of_lt (pack_lt h0 h1 h2 h3), Nat.zero_add, N_pack h0 h1 h2 h3, N_pack h4 h5 h6 h7]
theorem row_mul (a b0 b1 b2 b3 : Nat) : a * pack b0 b1 b2 b3 = a * b0 + B * (a * b1 + B * (a * b2 + B * (a * b3))) := by
  simp only [pack_def, Nat.mul_add, Nat.mul_left_comm a B]
theorem pack_mul (a0 a1 a2 a3 p : Nat) : pack a0 a1 a2 a3 * p = a0 * p + B * (a1 * p + B * (a2 * p + B * (a3 * p))) := by
  simp only [pack_def, Nat.add_mul, Nat.mul_add, Nat.mul_assoc]
theorem mul_sum {a0 a1 a2 a3 b0 b1 b2 b3 l00 c00 l01 c01 l02 c02 l03 c03 l10 c10 l11 c11 l12 c12 l13 c13 l20 c20 l21 c21 l22 c22 l23 c23 l30 c30 l31 c31 l32 c32 l33 c33 : Nat}
    (e00 : l00 + B * c00 = a0 * b0 + (0 + 0)) (e01 : l01 + B * c01 = a0 * b1 + (0 + c00)) (e02 : l02 + B * c02 = a0 * b2 + (0 + c01)) (e03 : l03 + B * c03 = a0 * b3 + (0 + c02)) (e10 : l10 + B * c10 = a1 * b0 + (l01 + 0)) (e11 : l11 + B * c11 = a1 * b1 + (l02 + c10)) (e12 : l12 + B * c12 = a1 * b2 + (l03 + c11)) (e13 : l13 + B * c13 = a1 * b3 + (c03 + c12)) (e20 : l20 + B * c20 = a2 * b0 + (l11 + 0)) (e21 : l21 + B * c21 = a2 * b1 + (l12 + c20)) (e22 : l22 + B * c22 = a2 * b2 + (l13 + c21)) (e23 : l23 + B * c23 = a2 * b3 + (c13 + c22)) (e30 : l30 + B * c30 = a3 * b0 + (l21 + 0)) (e31 : l31 + B * c31 = a3 * b1 + (l22 + c30)) (e32 : l32 + B * c32 = a3 * b2 + (l23 + c31)) (e33 : l33 + B * c33 = a3 * b3 + (c23 + c32)) :
    pack l00 l10 l20 l30 + BB * pack l31 l32 l33 c33 = pack a0 a1 a2 a3 * pack b0 b1 b2 b3 := by
  rw [pack_mul, row_mul a0, row_mul a1, row_mul a2, row_mul a3]
  simp only [pack_def, B_eq, BB_eq] at *
  omega
theorem limbs_Mul (x y : Nat) (hx : x < BB) (hy : y < BB) (H : Heap) (n : Nat) : ACall Tryz.prog 136 [N x, N y] H n (Ret (.tuple #[N (x * y % BB), N (x * y / BB)]) H n) := by
  refine acall_retF mix (low_pair (low_num _ _) (low_num _ _)) Tryz.func136 ok136 (fun _ _ => Tryz.call136 _ _) rfl ?_
  have z : 0 < B := B_pos
  generalize hV : Value.tuple #[N (x * y % BB), N (x * y / BB)] = V
  refine wk2 @c136.eq_1 @N.eq_1 ?_
  refine AGo_turnD 19 38 ?_
  refine wk0 ?_
  refine AGo_turnD 19 38 ?_
  refine wk0 ?_
  obtain ⟨l00, c00, hl00, hc00, e00, t00⟩ := times_ex (w0 x) (w0 y) 0 0 (w0_lt x) (w0_lt y) z z
  refine AGo_askV (t00 _ _) ?_
  refine wk0 ?_
  refine AGo_turnD 19 38 ?_
  refine wk0 ?_
  obtain ⟨l01, c01, hl01, hc01, e01, t01⟩ := times_ex (w0 x) (w1 y) 0 c00 (w0_lt x) (w1_lt y) z hc00
  refine AGo_askV (t01 _ _) ?_
  refine wk0 ?_
  refine AGo_turnD 19 38 ?_
  refine wk0 ?_
  obtain ⟨l02, c02, hl02, hc02, e02, t02⟩ := times_ex (w0 x) (w2 y) 0 c01 (w0_lt x) (w2_lt y) z hc01
  refine AGo_askV (t02 _ _) ?_
  refine wk0 ?_
  refine AGo_turnD 19 38 ?_
  refine wk0 ?_
  obtain ⟨l03, c03, hl03, hc03, e03, t03⟩ := times_ex (w0 x) (w3 y) 0 c02 (w0_lt x) (w3_lt y) z hc02
  refine AGo_askV (t03 _ _) ?_
  refine wk0 ?_
  refine AGo_turnD 19 38 ?_
  refine wk0 ?_
  refine AGo_turnD 19 38 ?_
  refine wk0 ?_
  refine AGo_turnD 19 38 ?_
  refine wk0 ?_
  obtain ⟨l10, c10, hl10, hc10, e10, t10⟩ := times_ex (w1 x) (w0 y) l01 0 (w1_lt x) (w0_lt y) hl01 z
  refine AGo_askV (t10 _ _) ?_
  refine wk0 ?_
  refine AGo_turnD 19 38 ?_
  refine wk0 ?_
  obtain ⟨l11, c11, hl11, hc11, e11, t11⟩ := times_ex (w1 x) (w1 y) l02 c10 (w1_lt x) (w1_lt y) hl02 hc10
  refine AGo_askV (t11 _ _) ?_
  refine wk0 ?_
  refine AGo_turnD 19 38 ?_
  refine wk0 ?_
  obtain ⟨l12, c12, hl12, hc12, e12, t12⟩ := times_ex (w1 x) (w2 y) l03 c11 (w1_lt x) (w2_lt y) hl03 hc11
  refine AGo_askV (t12 _ _) ?_
  refine wk0 ?_
  refine AGo_turnD 19 38 ?_
  refine wk0 ?_
  obtain ⟨l13, c13, hl13, hc13, e13, t13⟩ := times_ex (w1 x) (w3 y) c03 c12 (w1_lt x) (w3_lt y) hc03 hc12
  refine AGo_askV (t13 _ _) ?_
  refine wk0 ?_
  refine AGo_turnD 19 38 ?_
  refine wk0 ?_
  refine AGo_turnD 19 38 ?_
  refine wk0 ?_
  refine AGo_turnD 19 38 ?_
  refine wk0 ?_
  obtain ⟨l20, c20, hl20, hc20, e20, t20⟩ := times_ex (w2 x) (w0 y) l11 0 (w2_lt x) (w0_lt y) hl11 z
  refine AGo_askV (t20 _ _) ?_
  refine wk0 ?_
  refine AGo_turnD 19 38 ?_
  refine wk0 ?_
  obtain ⟨l21, c21, hl21, hc21, e21, t21⟩ := times_ex (w2 x) (w1 y) l12 c20 (w2_lt x) (w1_lt y) hl12 hc20
  refine AGo_askV (t21 _ _) ?_
  refine wk0 ?_
  refine AGo_turnD 19 38 ?_
  refine wk0 ?_
  obtain ⟨l22, c22, hl22, hc22, e22, t22⟩ := times_ex (w2 x) (w2 y) l13 c21 (w2_lt x) (w2_lt y) hl13 hc21
  refine AGo_askV (t22 _ _) ?_
  refine wk0 ?_
  refine AGo_turnD 19 38 ?_
  refine wk0 ?_
  obtain ⟨l23, c23, hl23, hc23, e23, t23⟩ := times_ex (w2 x) (w3 y) c13 c22 (w2_lt x) (w3_lt y) hc13 hc22
  refine AGo_askV (t23 _ _) ?_
  refine wk0 ?_
  refine AGo_turnD 19 38 ?_
  refine wk0 ?_
  refine AGo_turnD 19 38 ?_
  refine wk0 ?_
  refine AGo_turnD 19 38 ?_
  refine wk0 ?_
  obtain ⟨l30, c30, hl30, hc30, e30, t30⟩ := times_ex (w3 x) (w0 y) l21 0 (w3_lt x) (w0_lt y) hl21 z
  refine AGo_askV (t30 _ _) ?_
  refine wk0 ?_
  refine AGo_turnD 19 38 ?_
  refine wk0 ?_
  obtain ⟨l31, c31, hl31, hc31, e31, t31⟩ := times_ex (w3 x) (w1 y) l22 c30 (w3_lt x) (w1_lt y) hl22 hc30
  refine AGo_askV (t31 _ _) ?_
  refine wk0 ?_
  refine AGo_turnD 19 38 ?_
  refine wk0 ?_
  obtain ⟨l32, c32, hl32, hc32, e32, t32⟩ := times_ex (w3 x) (w2 y) l23 c31 (w3_lt x) (w2_lt y) hl23 hc31
  refine AGo_askV (t32 _ _) ?_
  refine wk0 ?_
  refine AGo_turnD 19 38 ?_
  refine wk0 ?_
  obtain ⟨l33, c33, hl33, hc33, e33, t33⟩ := times_ex (w3 x) (w3 y) c23 c32 (w3_lt x) (w3_lt y) hc23 hc32
  refine AGo_askV (t33 _ _) ?_
  refine wk0 ?_
  refine AGo_turnD 19 38 ?_
  refine wk0 ?_
  refine AGo_turnD 19 38 ?_
  refine wk0 ?_
  have h : pack l00 l10 l20 l30 + BB * pack l31 l32 l33 c33 = x * y := by
    have px := pack_w x; have py := pack_w y
    rw [Nat.mod_eq_of_lt hx] at px; rw [Nat.mod_eq_of_lt hy] at py
    conv => rhs; rw [← px, ← py]
    clear px py hx hy hV
    generalize w0 x = a0 at *; generalize w1 x = a1 at *; generalize w2 x = a2 at *; generalize w3 x = a3 at *
    generalize w0 y = b0 at *; generalize w1 y = b1 at *; generalize w2 y = b2 at *; generalize w3 y = b3 at *
    exact mul_sum (by assumption) (by assumption) (by assumption) (by assumption) (by assumption) (by assumption) (by assumption) (by assumption) (by assumption) (by assumption) (by assumption) (by assumption) (by assumption) (by assumption) (by assumption) (by assumption)
  rw [← hV, mul_words x y _ _ _ _ _ _ _ _ hl00 hl10 hl20 hl30 hl31 hl32 hl33 hc33 h]
  exact ⟨rfl, agr⟩
end Go.Proofs.YtcjchcommaahdaaGreat
namespace Go.Ab
theorem qt_lt {u d Y : Nat} (hu : u < Y) (hd : d < 4294967296) : (u * 4294967296 + d) / Y < 4294967296 := by
  rw [Nat.div_lt_iff_lt_mul (by omega)]
  have := Nat.mul_le_mul_left 4294967296 (show u + 1 ≤ Y from hu)
  omega
/-- Is a digit too great? -/
theorem digit_gt {u d y1 y0 q r : Nat} (hY : 0 < y1) (h : q * y1 + r = u) : (u * 4294967296 + d) / (y1 * 4294967296 + y0) < q ↔ r * 4294967296 + d < q * y0 := by
  rw [Nat.div_lt_iff_lt_mul (by omega), ← h]
  have : q * (y1 * 4294967296 + y0) = q * y1 * 4294967296 + q * y0 := by rw [Nat.mul_add, Nat.mul_assoc]
  rw [this, Nat.add_mul]; omega
/-- What is left is great: the digit is not too great. -/
theorem digit_le {u d y1 y0 q r : Nat} (hY : 0 < y1) (h : q * y1 + r = u) (hq : q ≤ 4294967296) (hy0 : y0 < 4294967296) (hr : 4294967296 ≤ r) :
    q ≤ (u * 4294967296 + d) / (y1 * 4294967296 + y0) := by
  apply Nat.le_of_not_lt
  rw [digit_gt hY h]
  have := Nat.mul_le_mul hq (show y0 ≤ 4294967295 by omega)
  omega
theorem digit_first {u d y1 y0 : Nat} (h1 : 2147483648 ≤ y1) (hy0 : y0 < 4294967296) (hu : u < y1 * 4294967296 + y0) :
    (u * 4294967296 + d) / (y1 * 4294967296 + y0) ≤ u / y1 ∨ d ≥ 4294967296 := by
  by_cases hd : d < 4294967296
  · left
    rw [Nat.le_div_iff_mul_le (by omega)]
    have a := Nat.div_mul_le_self (u * 4294967296 + d) (y1 * 4294967296 + y0)
    generalize (u * 4294967296 + d) / (y1 * 4294967296 + y0) = q at *
    have : q * (y1 * 4294967296 + y0) = q * y1 * 4294967296 + q * y0 := by rw [Nat.mul_add, Nat.mul_assoc]
    rw [this] at a
    omega
  · right; omega
theorem first_le {u y1 y0 : Nat} (h1 : 2147483648 ≤ y1) (hy0 : y0 < 4294967296) (hu : u < y1 * 4294967296 + y0) : u / y1 ≤ 4294967297 := by
  apply Nat.le_of_lt_succ
  rw [Nat.div_lt_iff_lt_mul (by omega)]
  omega
/-- The words, moved so that the divisor's highest bit is one. -/
theorem moved (hi lo y s : Nat) (hh : hi < y) (hl : lo < B) (hs : s ≤ 63) (h1 : y * 2 ^ s < B) :
    (hi * 2 ^ s % B ||| lo / 2 ^ (64 - s)) % B = hi * 2 ^ s + lo / 2 ^ (64 - s) ∧ hi * 2 ^ s + lo / 2 ^ (64 - s) < y * 2 ^ s ∧
      (hi * 2 ^ s + lo / 2 ^ (64 - s)) * B + lo * 2 ^ s % B = (hi * B + lo) * 2 ^ s := by
  have p : 0 < 2 ^ s := Nat.pow_pos (by decide)
  have hb : B = 2 ^ s * 2 ^ (64 - s) := by rw [B_eq, ← Nat.pow_add, show s + (64 - s) = 64 by omega]
  have hlo : lo / 2 ^ (64 - s) < 2 ^ s := by rw [Nat.div_lt_iff_lt_mul (Nat.pow_pos (by decide)), ← hb]; exact hl
  have hlt : hi * 2 ^ s + lo / 2 ^ (64 - s) < y * 2 ^ s := by
    have := Nat.mul_le_mul_right (2 ^ s) (show hi + 1 ≤ y from hh)
    rw [Nat.add_mul] at this; omega
  refine ⟨?_, hlt, ?_⟩
  · rw [Nat.mod_eq_of_lt (Nat.lt_of_le_of_lt (Nat.le_add_right _ _) (Nat.lt_trans hlt h1)), Nat.mul_comm hi, ← Nat.two_pow_add_eq_or_of_lt hlo, Nat.mul_comm, Nat.mod_eq_of_lt (Nat.lt_trans hlt h1)]
  · rw [Nat.add_mul, Nat.add_mul]
    have e1 : lo * 2 ^ s / B = lo / 2 ^ (64 - s) := by rw [hb, Nat.mul_comm lo, Nat.mul_div_mul_left _ _ p]
    have e2 := Nat.div_add_mod (lo * 2 ^ s) B
    rw [e1] at e2
    have e3 : hi * 2 ^ s * B = hi * B * 2 ^ s := Nat.mul_right_comm _ _ _
    rw [e3, Nat.add_assoc, Nat.mul_comm (lo / 2 ^ (64 - s)) B, e2]
theorem two_digits (u d1 d0 Y : Nat) (hY : 0 < Y) :
    ((u * 4294967296 + d1) * 4294967296 + d0) / Y = (u * 4294967296 + d1) / Y * 4294967296 + ((u * 4294967296 + d1) % Y * 4294967296 + d0) / Y ∧
      ((u * 4294967296 + d1) * 4294967296 + d0) % Y = ((u * 4294967296 + d1) % Y * 4294967296 + d0) % Y := by
  have e := Nat.div_add_mod (u * 4294967296 + d1) Y
  obtain ⟨t, ht⟩ : ∃ t, (u * 4294967296 + d1) / Y = t := ⟨_, rfl⟩
  obtain ⟨v, hv⟩ : ∃ v, (u * 4294967296 + d1) % Y = v := ⟨_, rfl⟩
  rw [ht, hv] at e
  rw [ht, hv]
  clear ht hv
  have e2 : (u * 4294967296 + d1) * 4294967296 + d0 = v * 4294967296 + d0 + Y * (t * 4294967296) := by
    rw [← e, Nat.add_mul, Nat.mul_assoc]; omega
  rw [e2, Nat.add_mul_div_left _ _ hY, Nat.add_mul_mod_self_left]
  refine ⟨?_, ?_⟩
  · rw [Nat.add_comm]
  · rfl
theorem sub_wrap {x m : Nat} (h : m ≤ x) (h2 : x - m < B) : (x % B + (B - m % B % B)) % B = x - m := by
  have e1 : m % B % B = m % B := Nat.mod_mod _ _
  rw [e1]
  have hx := Nat.div_add_mod x B
  have hm := Nat.div_add_mod m B
  have h3 : m % B < B := Nat.mod_lt _ B_pos
  have h4 : x % B < B := Nat.mod_lt _ B_pos
  by_cases hc : m % B ≤ x % B
  · have : x - m = x % B - m % B := by
      simp only [B_eq] at *; omega
    rw [this, show x % B + (B - m % B) = B + (x % B - m % B) by omega, Nat.add_mod_left, Nat.mod_eq_of_lt (by omega)]
  · have : x - m = x % B + (B - m % B) := by
      simp only [B_eq] at *; omega
    rw [this, Nat.mod_eq_of_lt (by omega)]
/-- What is left behind a digit. -/
theorem left_wrap {a d Y : Nat} (hY : 0 < Y) (hYB : Y < B) : ((a * 4294967296 % B + d) % B + (B - (a * 4294967296 + d) / Y * Y % B % B)) % B = (a * 4294967296 + d) % Y := by
  rw [show (a * 4294967296 % B + d) % B = (a * 4294967296 + d) % B from Nat.mod_add_mod _ _ _, sub_wrap (Nat.div_mul_le_self _ _)]
  · have := Nat.div_add_mod (a * 4294967296 + d) Y
    rw [Nat.mul_comm Y] at this; omega
  · have := Nat.div_add_mod (a * 4294967296 + d) Y
    have h2 := Nat.mod_lt (a * 4294967296 + d) hY
    rw [Nat.mul_comm Y] at this; omega
end Go.Ab

/- Sums of bytes: what is computed. Sums of bytes: the walks. Sums of bytes: a block, taken in. No conditions. -/
import Derived.Test.YtcjchcommaahdaaGreatQ12
import Derived.Test.YtcjchcommaahdaaGreatQ21
set_option maxRecDepth 20000
set_option maxHeartbeats 4000000
set_option linter.all false
namespace Go.Proofs.YtcjchcommaahdaaGreat
open Go.Ab

/-- A list of numbers of one kind, by a function. -/
def fk (k : IntKind) (n : Nat) (f : Nat → Nat) : List Value := (List.range n).map fun i => .int k (f i : Nat)
theorem fk_length (k : IntKind) (n : Nat) (f : Nat → Nat) : (fk k n f).length = n := by simp [fk]
theorem fk_get {k : IntKind} {n i : Nat} (f : Nat → Nat) (h : i < n) : (fk k n f)[i]? = some (.int k (f i : Nat)) := by simp [fk, h]
theorem fk_congr {k : IntKind} {n : Nat} {f g : Nat → Nat} (h : ∀ i, i < n → f i = g i) : fk k n f = fk k n g := by
  unfold fk; apply List.map_congr_left; intro i hi; rw [h i (by simpa using hi)]
theorem fk_splice {k : IntKind} {n i v : Nat} (f : Nat → Nat) (h : i < n) : splice (fk k n f) i [.int k (v : Nat)] = fk k n (fun j => if j = i then v else f j) := by
  unfold splice
  apply List.ext_getElem?
  intro j
  rw [List.append_assoc, List.getElem?_append]
  simp only [List.length_take, fk_length, List.length_cons, List.length_nil]
  rw [show min i n = i by omega]
  split
  · rename_i hj
    rw [List.getElem?_take, if_pos hj, fk_get _ (by omega), fk_get _ (by omega), if_neg (by omega)]
  · rename_i hj
    by_cases e : j = i
    · subst e; rw [Nat.sub_self, fk_get _ h, if_pos rfl]; rfl
    · rw [List.getElem?_append_right (by simp; omega), List.getElem?_drop]
      simp only [List.length_cons, List.length_nil]
      rw [show i + (0 + 1) + (j - i - (0 + 1)) = j by omega]
      by_cases hn : j < n
      · rw [fk_get _ hn, fk_get _ hn, if_neg e]
      · rw [List.getElem?_eq_none (by rw [fk_length]; omega), List.getElem?_eq_none (by rw [fk_length]; omega)]
theorem fk_all (k : IntKind) (n : Nat) (f : Nat → Nat) : (fk k n f).all Value.oneCell' = true := by simp [fk, Value.oneCell']
theorem fk_take (k : IntKind) (n : Nat) (f : Nat → Nat) : (fk k n f).take n = fk k n f := by rw [List.take_of_length_le (by rw [fk_length]; omega)]
theorem fk_splice_all (k : IntKind) (n : Nat) (f g : Nat → Nat) : splice (fk k n f) 0 (fk k n g) = fk k n g := by
  unfold splice; rw [List.take_zero, List.nil_append, List.drop_eq_nil_of_le (by simp [fk_length]), List.append_nil]
theorem fk_splice_here (k : IntKind) (n : Nat) (f : Nat → Nat) (l : List Value) (h : l.length = n) : splice (fk k n f) 0 l = l := by
  unfold splice; rw [List.take_zero, List.nil_append, List.drop_eq_nil_of_le (by simp [fk_length, h]), List.append_nil]
theorem low_fk {m : Nat} (k : IntKind) (f : Nat → Nat) : ∀ l : List Nat, LowL m (l.map fun i => Value.int k (f i : Nat))
  | [] => LowL.nil m
  | _ :: l => LowL.cons Low.int (low_fk k f l)
theorem low_agg_fk (m : Nat) (k : IntKind) (n : Nat) (f : Nat → Nat) : Low m (.agg ⟨fk k n f⟩) := Low.agg (low_fk k f _)

/-- Numbers of 32 bits. -/
def M32 : Nat := 4294967296
def ax (a b : Nat) : Nat := (a + b) % 4294967296
def xr (a b : Nat) : Nat := (a ^^^ b) % 4294967296
def an (a b : Nat) : Nat := (a &&& b) % 4294967296
def orr (a b : Nat) : Nat := (a ||| b) % 4294967296
theorem bin_ax (a b : Nat) : binInt .add .u32 a .u32 b = some (.int .u32 (ax a b : Nat)) := bin_add_u32 a b
theorem bin_xr (a b : Nat) : binInt .xor .u32 a .u32 b = some (.int .u32 (xr a b : Nat)) := bin_xor_u32 a b
theorem bin_an (a b : Nat) : binInt .and .u32 a .u32 b = some (.int .u32 (an a b : Nat)) := bin_and_u32 a b
theorem bin_orr (a b : Nat) : binInt .or .u32 a .u32 b = some (.int .u32 (orr a b : Nat)) := bin_or_u32 a b
theorem ax_lt (a b : Nat) : ax a b < 4294967296 := Nat.mod_lt _ (by decide)
theorem xr_lt (a b : Nat) : xr a b < 4294967296 := Nat.mod_lt _ (by decide)
theorem an_lt (a b : Nat) : an a b < 4294967296 := Nat.mod_lt _ (by decide)
theorem orr_lt (a b : Nat) : orr a b < 4294967296 := Nat.mod_lt _ (by decide)
theorem ax_assoc (a b c : Nat) : ax (ax a b) c = ax a (ax b c) := by unfold ax; omega
theorem xr_zero {a : Nat} (h : a < 4294967296) : xr 0 a = a := by unfold xr; rw [Nat.zero_xor]; exact Nat.mod_eq_of_lt h
/-- Bit by bit. -/
theorem pow32 : (4294967296 : Nat) = 2 ^ 32 := by decide
theorem tb_xr (a b j : Nat) : (xr a b).testBit j = (decide (j < 32) && (a.testBit j ^^ b.testBit j)) := by
  unfold xr; rw [pow32, Nat.testBit_mod_two_pow, Nat.testBit_xor]
theorem tb_an (a b j : Nat) : (an a b).testBit j = (decide (j < 32) && (a.testBit j && b.testBit j)) := by
  unfold an; rw [pow32, Nat.testBit_mod_two_pow, Nat.testBit_and]
theorem tb_orr (a b j : Nat) : (orr a b).testBit j = (decide (j < 32) && (a.testBit j || b.testBit j)) := by
  unfold orr; rw [pow32, Nat.testBit_mod_two_pow, Nat.testBit_or]
/-- All its bits, turned. -/
def nt (a : Nat) : Nat := 4294967295 - a % 4294967296
theorem tb_nt (a j : Nat) : (nt a).testBit j = (decide (j < 32) && !a.testBit j) := by
  unfold nt
  have h := Nat.testBit_two_pow_sub_succ (x := a % 4294967296) (n := 32) (by rw [← pow32]; exact Nat.mod_lt _ (by decide)) j
  rw [show (4294967295 - a % 4294967296 : Nat) = 2 ^ 32 - (a % 4294967296 + 1) by have := Nat.mod_lt a (show 0 < 4294967296 by decide); rw [← pow32]; omega, h, pow32, Nat.testBit_mod_two_pow]
  cases decide (j < 32) <;> simp
/-- Moved round. -/
def rotr (x k : Nat) : Nat := orr (x * 2 ^ (32 - k) % 4294967296) (x / 2 ^ k)
theorem orr_comm (a b : Nat) : orr a b = orr b a := by unfold orr; rw [Nat.or_comm]
theorem rotr_lt (x k : Nat) : rotr x k < 4294967296 := orr_lt _ _
def ch (e f g : Nat) : Nat := xr g (an e (xr f g))
def mj (a b c : Nat) : Nat := xr (xr (an a b) (an a c)) (an b c)
theorem ch_ref {e f g : Nat} (hg : g < 4294967296) : xr (an e f) (an (nt e) g) = ch e f g := by
  unfold ch
  apply Nat.eq_of_testBit_eq; intro j
  simp only [tb_xr, tb_an, tb_nt]
  cases decide (j < 32) <;> cases e.testBit j <;> cases f.testBit j <;> cases g.testBit j <;> rfl
theorem mj_ref (a b c : Nat) : orr (orr (an a b) (an a c)) (an b c) = mj a b c := by
  unfold mj
  apply Nat.eq_of_testBit_eq; intro j
  simp only [tb_xr, tb_an, tb_orr]
  cases decide (j < 32) <;> cases a.testBit j <;> cases b.testBit j <;> cases c.testBit j <;> rfl
def S2 (x a b : Nat) : Nat := xr (rotr x a) (rotr x b)
def S3 (x a b c : Nat) : Nat := xr (xr (rotr x a) (rotr x b)) (rotr x c)
/-- A word of a block. -/
def wordB (b : Nat → Nat) (i : Nat) : Nat := orr (orr (orr (b (4 * i) * 2 ^ 24 % 4294967296) (b (4 * i + 1) * 2 ^ 16 % 4294967296)) (b (4 * i + 2) * 2 ^ 8 % 4294967296)) (b (4 * i + 3))
def nextW (f : Nat → Nat) (i : Nat) : Nat := ax (ax (ax (f (i - 16)) (f (i - 7))) (xr (S2 (f (i - 15)) 7 18) (f (i - 15) / 2 ^ 3))) (xr (S2 (f (i - 2)) 17 19) (f (i - 2) / 2 ^ 10))
def wN (b : Nat → Nat) : Nat → Nat → Nat
  | 0, _ => 0
  | i + 1, j => if j = i then (if i < 16 then wordB b i else nextW (wN b i) i) else wN b i j
theorem wN_succ (b : Nat → Nat) (i : Nat) : (fun j => if j = i then (if i < 16 then wordB b i else nextW (wN b i) i) else wN b i j) = wN b (i + 1) := by funext j; rfl
def kT : List Nat := [0x428a2f98, 0x71374491, 0xb5c0fbcf, 0xe9b5dba5, 0x3956c25b, 0x59f111f1, 0x923f82a4, 0xab1c5ed5,
  0xd807aa98, 0x12835b01, 0x243185be, 0x550c7dc3, 0x72be5d74, 0x80deb1fe, 0x9bdc06a7, 0xc19bf174,
  0xe49b69c1, 0xefbe4786, 0x0fc19dc6, 0x240ca1cc, 0x2de92c6f, 0x4a7484aa, 0x5cb0a9dc, 0x76f988da,
  0x983e5152, 0xa831c66d, 0xb00327c8, 0xbf597fc7, 0xc6e00bf3, 0xd5a79147, 0x06ca6351, 0x14292967,
  0x27b70a85, 0x2e1b2138, 0x4d2c6dfc, 0x53380d13, 0x650a7354, 0x766a0abb, 0x81c2c92e, 0x92722c85,
  0xa2bfe8a1, 0xa81a664b, 0xc24b8b70, 0xc76c51a3, 0xd192e819, 0xd6990624, 0xf40e3585, 0x106aa070,
  0x19a4c116, 0x1e376c08, 0x2748774c, 0x34b0bcb5, 0x391c0cb3, 0x4ed8aa4a, 0x5b9cca4f, 0x682e6ff3,
  0x748f82ee, 0x78a5636f, 0x84c87814, 0x8cc70208, 0x90befffa, 0xa4506ceb, 0xbef9a3f7, 0xc67178f2]
def kc (i : Nat) : Nat := kT.getD i 0
def hT : List Nat := [0x6a09e667, 0xbb67ae85, 0x3c6ef372, 0xa54ff53a, 0x510e527f, 0x9b05688c, 0x1f83d9ab, 0x5be0cd19]
def h0 (i : Nat) : Nat := hT.getD i 0
def stepT (s : Nat → Nat) (k w : Nat) : Nat := ax (ax (ax (ax (s 7) (S3 (s 4) 6 11 25)) (ch (s 4) (s 5) (s 6))) k) w
def stepS (s : Nat → Nat) (k w : Nat) (j : Nat) : Nat := [ax (ax (stepT s k w) (S3 (s 0) 2 13 22)) (mj (s 0) (s 1) (s 2)), s 0, s 1, s 2, ax (s 3) (stepT s k w), s 4, s 5, s 6].getD j 0
def rds (h b : Nat → Nat) : Nat → Nat → Nat
  | 0, j => h j
  | k + 1, j => stepS (rds h b k) (kc k) (wN b 64 k) j
/-- A block, taken in. -/
def cmpr (h b : Nat → Nat) (j : Nat) : Nat := ax (rds h b 64 j) (h j)
end Go.Proofs.YtcjchcommaahdaaGreat
namespace Go.Proofs.YtcjchcommaahdaaGreat
open Go.Ab
theorem ax_fold (a b : Nat) : (a + b) % 4294967296 = ax a b := rfl
theorem xr_fold (a b : Nat) : (a ^^^ b) % 4294967296 = xr a b := rfl
theorem an_fold (a b : Nat) : (a &&& b) % 4294967296 = an a b := rfl
theorem orr_fold (a b : Nat) : (a ||| b) % 4294967296 = orr a b := rfl
theorem wrap_neg {k : Nat} (h : 0 < k) (h2 : k < 32) : IntKind.u64.wrap (-(k : Int)) = ((18446744073709551616 - k : Nat) : Int) := by
  simp only [IntKind.wrap, IntKind.bits, IntKind.signed]; simp; omega
theorem neg31 {k : Nat} (h : 0 < k) (h2 : k < 32) : ((18446744073709551616 - k) &&& 31) % B = 32 - k := by
  rw [show (31 : Nat) = 2 ^ 5 - 1 by decide, Nat.and_two_pow_sub_one_eq_mod, B_eq]; omega
theorem neg_i64 {k : Nat} (h : k < 32) : IntKind.i64.wrap (0 - (k : Int)) = -(k : Int) := by
  simp only [IntKind.wrap, IntKind.bits, IntKind.signed]; simp; omega
theorem un_xor32 (a : Nat) : IntKind.u32.wrap ((BitVec.ofInt IntKind.u32.bits (if IntKind.u32.signed then -1 else IntKind.u32.max) ^^^ BitVec.ofInt IntKind.u32.bits (a : Int)).toNat) = ((nt a : Nat) : Int) := by
  rw [u32_wrap, Int.natCast_inj]
  apply Nat.eq_of_testBit_eq; intro j
  rw [tb_nt, pow32, Nat.testBit_mod_two_pow]
  have e : (BitVec.ofInt IntKind.u32.bits (if IntKind.u32.signed then -1 else IntKind.u32.max) ^^^ BitVec.ofInt IntKind.u32.bits (a : Int)).toNat = (BitVec.allOnes 32 ^^^ BitVec.ofNat 32 a : BitVec 32).toNat := by
    show (BitVec.ofInt 32 4294967295 ^^^ BitVec.ofInt 32 (a : Int) : BitVec 32).toNat = _
    rw [BitVec.ofInt_natCast]; rfl
  rw [e]
  rw [BitVec.toNat_xor, Nat.testBit_xor]
  by_cases h : j < 32
  · rw [BitVec.toNat_allOnes, Nat.testBit_two_pow_sub_one, BitVec.toNat_ofNat, Nat.testBit_mod_two_pow]
    simp [h]
  · simp [h]
theorem rot32 (x k : Nat) (h : 0 < k) (h2 : k < 32) (H : Heap) (n : Nat) : ACall Tryz.prog 162 [.int .u32 (x : Nat), .int .i64 (-(k : Int))] H n (Ret (.int .u32 (rotr x k : Nat)) H n) := by
  refine acall_retF mix lw Tryz.func162 ok162 (fun _ _ => Tryz.call162 _ _) rfl ?_
  have hB := B_big
  have h3 : 32 - k < 32 := by omega
  have e := wrap_neg h h2
  have e2 := neg31 h h2
  have e3 : 32 - (32 - k) = k := by omega
  have e4 : 32 - k ≤ 32 := by omega
  refine wk7 @c162.eq_1 @bin_sub_lt @ax_fold @orr_fold @e @e2 @e3 ?_
  exact ⟨rfl, agr⟩
theorem mix2 (H : Heap) (n : Nat) (bp x a b c : Nat) (t : TypeId) (fz : Nat × Nat) (hbp : bp < n) (hH : H bp = some (.cells [.int .i64 (a : Nat), .int .i64 (b : Nat)] t fz)) (ha : 0 < a) (ha2 : a < 32) (hb : 0 < b) (hb2 : b < 32) : ACall Tryz.prog 156 [.int .u32 (x : Nat), .slice (some ⟨bp, 0, none⟩) 2 c] H n (Ret (.int .u32 (S2 x a b : Nat)) H n) := by
  refine acall_retF mix lw Tryz.func156 ok156 (fun _ _ => Tryz.call156 _ _) rfl ?_
  have z := xr_zero (rotr_lt x a)
  refine wk1 @c156.eq_1 ?_
  refine AGo_turn ?_
  simp (disch := first | assumption | omega) only [hH, neg_i64 ha2, W, sim, ↓reduceIte, Nat.reduceAdd, Nat.reduceSub, Nat.reduceMul, Nat.reduceLT, Nat.reduceLeDiff, Nat.reduceEqDiff, Nat.reduceBEq, Nat.reduceBNe, Nat.reduceMod, Nat.reduceDiv]
  refine AGo_askV (rot32 x a ha ha2 _ _) ?_
  refine wk2 @xr_fold @z ?_
  refine AGo_turn ?_
  simp (disch := first | assumption | omega) only [hH, neg_i64 hb2, W, sim, ↓reduceIte, Nat.reduceAdd, Nat.reduceSub, Nat.reduceMul, Nat.reduceLT, Nat.reduceLeDiff, Nat.reduceEqDiff, Nat.reduceBEq, Nat.reduceBNe, Nat.reduceMod, Nat.reduceDiv]
  refine AGo_askV (rot32 x b hb hb2 _ _) ?_
  refine wk1 @xr_fold ?_
  refine AGo_turn ?_
  refine wk0 ?_
  exact ⟨rfl, agr⟩
theorem mix3 (H : Heap) (n : Nat) (bp x a b d c : Nat) (t : TypeId) (fz : Nat × Nat) (hbp : bp < n) (hH : H bp = some (.cells [.int .i64 (a : Nat), .int .i64 (b : Nat), .int .i64 (d : Nat)] t fz)) (ha : 0 < a) (ha2 : a < 32) (hb : 0 < b) (hb2 : b < 32) (hd : 0 < d) (hd2 : d < 32) : ACall Tryz.prog 156 [.int .u32 (x : Nat), .slice (some ⟨bp, 0, none⟩) 3 c] H n (Ret (.int .u32 (S3 x a b d : Nat)) H n) := by
  refine acall_retF mix lw Tryz.func156 ok156 (fun _ _ => Tryz.call156 _ _) rfl ?_
  have z := xr_zero (rotr_lt x a)
  refine wk1 @c156.eq_1 ?_
  refine AGo_turn ?_
  simp (disch := first | assumption | omega) only [hH, neg_i64 ha2, W, sim, ↓reduceIte, Nat.reduceAdd, Nat.reduceSub, Nat.reduceMul, Nat.reduceLT, Nat.reduceLeDiff, Nat.reduceEqDiff, Nat.reduceBEq, Nat.reduceBNe, Nat.reduceMod, Nat.reduceDiv]
  refine AGo_askV (rot32 x a ha ha2 _ _) ?_
  refine wk2 @xr_fold @z ?_
  refine AGo_turn ?_
  simp (disch := first | assumption | omega) only [hH, neg_i64 hb2, W, sim, ↓reduceIte, Nat.reduceAdd, Nat.reduceSub, Nat.reduceMul, Nat.reduceLT, Nat.reduceLeDiff, Nat.reduceEqDiff, Nat.reduceBEq, Nat.reduceBNe, Nat.reduceMod, Nat.reduceDiv]
  refine AGo_askV (rot32 x b hb hb2 _ _) ?_
  refine wk1 @xr_fold ?_
  refine AGo_turn ?_
  simp (disch := first | assumption | omega) only [hH, neg_i64 hd2, W, sim, ↓reduceIte, Nat.reduceAdd, Nat.reduceSub, Nat.reduceMul, Nat.reduceLT, Nat.reduceLeDiff, Nat.reduceEqDiff, Nat.reduceBEq, Nat.reduceBNe, Nat.reduceMod, Nat.reduceDiv]
  refine AGo_askV (rot32 x d hd hd2 _ _) ?_
  refine wk1 @xr_fold ?_
  refine AGo_turn ?_
  refine wk0 ?_
  exact ⟨rfl, agr⟩
theorem r5_round (x k : Nat) (h : 0 < k) (h2 : k < 32) (H : Heap) (n : Nat) : ACall Tryz.prog 148 [.int .u32 (x : Nat), .int .u64 (k : Nat)] H n (Ret (.int .u32 (rotr x k : Nat)) H n) := by
  refine acall_retF mix lw Tryz.func148 ok148 (fun _ _ => Tryz.call148 _ _) rfl ?_
  have hB := B_big
  have h3 : 32 - k < 32 := by omega
  have h4 : k ≤ 32 := by omega
  simp (disch := first | assumption | omega) only [c148, bin_sub_lt, orr_fold, orr_comm (x / 2 ^ k), W, sim, ↓reduceIte, Nat.reduceAdd, Nat.reduceSub, Nat.reduceMul, Nat.reduceLT, Nat.reduceLeDiff, Nat.reduceEqDiff, Nat.reduceBEq, Nat.reduceBNe, Nat.reduceMod, Nat.reduceDiv]
  exact ⟨rfl, agr⟩
theorem h8 : [Value.int .u32 ((1779033703 : Nat) : Int), .int .u32 ((3144134277 : Nat) : Int), .int .u32 ((1013904242 : Nat) : Int), .int .u32 ((2773480762 : Nat) : Int), .int .u32 ((1359893119 : Nat) : Int), .int .u32 ((2600822924 : Nat) : Int), .int .u32 ((528734635 : Nat) : Int), .int .u32 ((1541459225 : Nat) : Int)] = fk .u32 8 h0 := rfl
theorem sha_begin (H : Heap) (n : Nat) : ACall Tryz.prog 101 [] H n (Ret (.agg ⟨fk .u32 8 h0⟩) H n) := by
  refine acall_retF mix lw Tryz.func101 ok101 (fun _ _ => Tryz.call101 _ _) rfl ?_
  refine wk1 @c101.eq_1 ?_
  exact ⟨rfl, agr⟩
theorem sha_steps (H : Heap) (n : Nat) : ACall Tryz.prog 157 [] H n (Ret (.agg ⟨fk .u32 64 kc⟩) H n) := by
  refine acall_retF mix lw Tryz.func157 ok157 (fun _ _ => Tryz.call157 _ _) rfl ?_
  refine wk1 @c157.eq_1 ?_
  exact ⟨rfl, agr⟩
end Go.Proofs.YtcjchcommaahdaaGreat
namespace Go.Proofs.YtcjchcommaahdaaGreat
open Go.Ab
theorem wordB_fold (b : Nat → Nat) (i : Nat) : orr (orr (orr (b (4 * i) * 2 ^ 24 % 4294967296) (b (4 * i + 1) * 2 ^ 16 % 4294967296)) (b (4 * i + 2) * 2 ^ 8 % 4294967296)) (b (4 * i + 3)) = wordB b i := rfl
theorem nextW_fold (b : Nat → Nat) (i : Nat) : ax (ax (ax (wN b i (i - 16)) (wN b i (i - 7))) (xr (S2 (wN b i (i - 15)) 7 18) (wN b i (i - 15) / 2 ^ 3))) (xr (S2 (wN b i (i - 2)) 17 19) (wN b i (i - 2) / 2 ^ 10)) = nextW (wN b i) i := rfl
theorem ch_fold (e f g : Nat) : xr g (an e (xr f g)) = ch e f g := rfl
theorem mj_fold (a b c : Nat) : xr (xr (an a b) (an a c)) (an b c) = mj a b c := rfl
theorem stepT_fold (h b : Nat → Nat) (k : Nat) : ax (ax (ax (ax (rds h b k 7) (S3 (rds h b k 4) 6 11 25)) (ch (rds h b k 4) (rds h b k 5) (rds h b k 6))) (kc k)) (wN b 64 k) = stepT (rds h b k) (kc k) (wN b 64 k) := rfl
theorem fk8 (kk : IntKind) (f : Nat → Nat) : fk kk 8 f = [.int kk (f 0 : Nat), .int kk (f 1 : Nat), .int kk (f 2 : Nat), .int kk (f 3 : Nat), .int kk (f 4 : Nat), .int kk (f 5 : Nat), .int kk (f 6 : Nat), .int kk (f 7 : Nat)] := rfl
theorem rds_succ (h b : Nat → Nat) (k j : Nat) : rds h b (k + 1) j = stepS (rds h b k) (kc k) (wN b 64 k) j := rfl
theorem stepS_all (s : Nat → Nat) (k w : Nat) : fk .u32 8 (stepS s k w) = [Value.int .u32 (ax (ax (stepT s k w) (S3 (s 0) 2 13 22)) (mj (s 0) (s 1) (s 2)) : Nat), .int .u32 (s 0 : Nat), .int .u32 (s 1 : Nat), .int .u32 (s 2 : Nat),
  .int .u32 (ax (s 3) (stepT s k w) : Nat), .int .u32 (s 4 : Nat), .int .u32 (s 5 : Nat), .int .u32 (s 6 : Nat)] := by
  rw [fk8]; unfold stepS; simp only [List.getD_cons_zero, List.getD_cons_succ]
theorem stepS_fold (h b : Nat → Nat) (k : Nat) : [Value.int .u32 (ax (ax (stepT (rds h b k) (kc k) (wN b 64 k)) (S3 (rds h b k 0) 2 13 22)) (mj (rds h b k 0) (rds h b k 1) (rds h b k 2)) : Nat), .int .u32 (rds h b k 0 : Nat), .int .u32 (rds h b k 1 : Nat), .int .u32 (rds h b k 2 : Nat),
  .int .u32 (ax (rds h b k 3) (stepT (rds h b k) (kc k) (wN b 64 k)) : Nat), .int .u32 (rds h b k 4 : Nat), .int .u32 (rds h b k 5 : Nat), .int .u32 (rds h b k 6 : Nat)] = fk .u32 8 (rds h b (k + 1)) := by
  rw [← stepS_all]; exact fk_congr fun j _ => (rds_succ h b k j).symm
theorem splice_one_zero (x v : Value) (l : List Value) : splice (x :: l) 0 [v] = v :: l := rfl
theorem splice_cons_succ (x : Value) (i : Nat) (l v : List Value) : splice (x :: l) (i + 1) v = x :: splice l i v := by
  unfold splice; simp [List.take_succ_cons, Nat.add_right_comm]
theorem rds_zero (h b : Nat → Nat) (j : Nat) : rds h b 0 j = h j := rfl
theorem cmpr_fold (h b : Nat → Nat) (j : Nat) : ax (rds h b 64 j) (h j) = cmpr h b j := rfl
theorem wN_zero (b : Nat → Nat) (j : Nat) : wN b 0 j = 0 := rfl
theorem zero8 : [Value.int .u32 ((0 : Nat) : Int), .int .u32 ((0 : Nat) : Int), .int .u32 ((0 : Nat) : Int), .int .u32 ((0 : Nat) : Int), .int .u32 ((0 : Nat) : Int), .int .u32 ((0 : Nat) : Int), .int .u32 ((0 : Nat) : Int), .int .u32 ((0 : Nat) : Int)] = fk .u32 8 (fun _ => 0) := rfl
theorem splice8 (k : IntKind) (f : Nat → Nat) (a b c d e g h i : Value) : splice (fk k 8 f) 0 [a, b, c, d, e, g, h, i] = [a, b, c, d, e, g, h, i] := rfl
theorem rK : type_of% (And.intro (And.intro (And.intro (And.intro @ite_lt.{1} @ite_lt.{0}) (And.intro @ite_le.{1} @ite_le.{0})) (And.intro (And.intro @bin_rem_u64 @bin_quo_u64) (And.intro @fk_get (And.intro @fk_splice @fk_splice_all)))) (And.intro (And.intro (And.intro @fk_length @fk_all) (And.intro @fk_take (And.intro @splice_one_zero @splice_cons_succ))) (And.intro (And.intro @splice8 @ax_fold) (And.intro @xr_fold (And.intro @an_fold @orr_fold))))) := (And.intro (And.intro (And.intro (And.intro @ite_lt.{1} @ite_lt.{0}) (And.intro @ite_le.{1} @ite_le.{0})) (And.intro (And.intro @bin_rem_u64 @bin_quo_u64) (And.intro @fk_get (And.intro @fk_splice @fk_splice_all)))) (And.intro (And.intro (And.intro @fk_length @fk_all) (And.intro @fk_take (And.intro @splice_one_zero @splice_cons_succ))) (And.intro (And.intro @splice8 @ax_fold) (And.intro @xr_fold (And.intro @an_fold @orr_fold)))))
theorem w_word {b : Nat → Nat} {i : Nat} (h : i < 16) : fk .u32 64 (fun j => if j = i then wordB b i else wN b i j) = fk .u32 64 (wN b (i + 1)) := by
  refine fk_congr fun j _ => ?_
  rw [wN, if_pos h]
theorem w_next {b : Nat → Nat} {i : Nat} (h : ¬ i < 16) : fk .u32 64 (fun j => if j = i then nextW (wN b i) i else wN b i j) = fk .u32 64 (wN b (i + 1)) := by
  refine fk_congr fun j _ => ?_
  rw [wN, if_neg h]
theorem fk_upto {k : IntKind} {n i v : Nat} {f g : Nat → Nat} (hv : v = f i) : fk k n (fun j => if j = i then v else if j < i then f j else g j) = fk k n (fun j => if j < i + 1 then f j else g j) := by
  refine fk_congr fun j _ => ?_
  by_cases e : j = i
  · subst e; rw [if_pos rfl, if_pos (by omega), hv]
  · rw [if_neg e]
    by_cases h : j < i
    · rw [if_pos h, if_pos (by omega)]
    · rw [if_neg h, if_neg (by omega)]
theorem fk_upto0 {k : IntKind} {n : Nat} {f g : Nat → Nat} : fk k n (fun j => if j < 0 then f j else g j) = fk k n g := fk_congr fun _ _ => if_neg (by omega)
theorem fk_upto_all {k : IntKind} {n : Nat} {f g : Nat → Nat} : fk k n (fun j => if j < n then f j else g j) = fk k n f := fk_congr fun _ h => if_pos h

attribute [local irreducible] ax xr an orr wordB nextW ch mj S2 S3 stepT stepS rds wN rotr kc
theorem sha_take (h b : Nat → Nat) (hb : ∀ i, b i < 256) (H : Heap) (n : Nat) : ACall Tryz.prog 139 [.agg ⟨fk .u32 8 h⟩, .agg ⟨fk .u8 64 b⟩] H n (Ret (.agg ⟨fk .u32 8 (cmpr h b)⟩) H n) := by
  refine acall_retF mix lw Tryz.func139 ok139 (fun _ _ => Tryz.call139 _ _) rfl ?_
  have hb32 : ∀ i, b i % 4294967296 = b i := fun i => Nat.mod_eq_of_lt (by have := hb i; omega)
  refine wl3 @c139.eq_1 rK @zero8 ?_
  refine AGo_cycleD (α := Nat) 6 174 (fun i => [(22, .int .i64 (i : Nat))]) (fun i H' n' => i ≤ 64 ∧ n + 4 ≤ n' ∧ Agree n H H' ∧ H' n = some (.cells (fk .u32 8 h) 124 (0, 0)) ∧ H' (n + 1) = some (.cells (fk .u8 64 b) 126 (0, 0)) ∧ H' (n + 2) = some (.cells (fk .u32 8 (fun _ => 0)) 124 (0, 0)) ∧ H' (n + 3) = some (.cells (fk .u32 64 (wN b i)) 162 (0, 0))) (fun i H' n' => n + 4 ≤ n' ∧ Agree n H H' ∧ H' n = some (.cells (fk .u32 8 h) 124 (0, 0)) ∧ H' (n + 1) = some (.cells (fk .u8 64 b) 126 (0, 0)) ∧ H' (n + 2) = some (.cells (fk .u32 8 (fun _ => 0)) 124 (0, 0)) ∧ H' (n + 3) = some (.cells (fk .u32 64 (wN b 64)) 162 (0, 0))) (fun i => 64 - i) (0) ?_ (by simp only [subs_nil, subs_if, lk_if, lk_nil, dropR_nil, dropR_cons, Nat.reduceLT, List.cons_append, List.nil_append, List.elem_nil, List.elem_cons, Nat.reduceBEq, beq_self_eq_true, Bool.true_or, Bool.false_or, Bool.or_true, Bool.or_false, Bool.false_eq_true, ↓reduceIte, if_true, if_false, Nat.reduceEqDiff, and_self, and_true, true_and, eq_self]) ?_ ?_
  · refine ⟨Nat.zero_le _, by omega, agr, ?_, ?_, ?_, ?_⟩
    · exact up0
    · exact up0
    · exact up0
    · simp (disch := first | assumption | omega) only [upd_same, upd_neq, vcells_N, w_zero]
      exact congrArg (fun l => some (AObj.cells l _ _)) (fk_congr (k := .u32) (n := 64) (f := fun _ => 0) (g := wN b 0) fun _ _ => (wN_zero b _).symm)
  · rintro i H' n' kk ⟨hi, hn, hA, f0, f1, f2, f3⟩ hK hS
    simp only [List.cons_append, List.nil_append, dropR_nil, dropR_cons, Nat.reduceLT, ↓reduceIte]
    by_cases hlt : i < 64
    · by_cases h16 : i < 16
      · have q0 : 4 * i < 64 := by omega
        have q1 : 4 * i + 1 < 64 := by omega
        have q2 : 4 * i + 2 < 64 := by omega
        have q3 : 4 * i + 3 < 64 := by omega
        refine AGo_turn ?_
        refine wl10 rK @hlt @h16 @f0 @f1 @f2 @f3 @u32_wrap @hb32 @wordB_fold ?_
        refine AGo_le ?_ (hS (i + 1) _ _ ⟨by omega, by omega, agr, ?_, ?_, ?_, ?_⟩ (by omega))
        · simp only [subs_nil, subs_if, lk_if, lk_nil, dropR_nil, dropR_cons, Nat.reduceLT, List.cons_append, List.nil_append, List.elem_nil, List.elem_cons, Nat.reduceBEq, beq_self_eq_true, Bool.true_or, Bool.false_or, Bool.or_true, Bool.or_false, Bool.false_eq_true, ↓reduceIte, if_true, if_false, Nat.reduceEqDiff, and_self, and_true, true_and, eq_self]
        · exact up1 @f0
        · exact up1 @f1
        · exact up1 @f2
        · simp (disch := first | assumption | omega) only [w_word h16, upd_same, upd_neq, vcells_N, w_zero]
      · have q0 : i - 16 < 64 := by omega
        have q1 : i - 7 < 64 := by omega
        have q2 : i - 15 < 64 := by omega
        have q3 : i - 2 < 64 := by omega
        refine AGo_turn ?_
        refine wl7 rK @hlt @h16 @f0 @f1 @f2 @f3 ?_
        refine AGo_askV (mix2 _ _ _ (wN b i (i - 15)) 7 18 _ 3 (0, 0) (by omega) (by simp (disch := first | assumption | omega) only [upd_same, upd_neq]) (by decide) (by decide) (by decide) (by decide)) ?_
        refine wl2 rK @f3 ?_
        refine AGo_askV (mix2 _ _ _ (wN b i (i - 2)) 17 19 _ 3 (0, 0) (by omega) (by simp (disch := first | assumption | omega) only [upd_same, upd_neq]) (by decide) (by decide) (by decide) (by decide)) ?_
        refine wl3 rK @f3 @nextW_fold ?_
        refine AGo_le ?_ (hS (i + 1) _ _ ⟨by omega, by omega, agr, ?_, ?_, ?_, ?_⟩ (by omega))
        · simp only [subs_nil, subs_if, lk_if, lk_nil, dropR_nil, dropR_cons, Nat.reduceLT, List.cons_append, List.nil_append, List.elem_nil, List.elem_cons, Nat.reduceBEq, beq_self_eq_true, Bool.true_or, Bool.false_or, Bool.or_true, Bool.or_false, Bool.false_eq_true, ↓reduceIte, if_true, if_false, Nat.reduceEqDiff, and_self, and_true, true_and, eq_self]
        · exact up1 @f0
        · exact up1 @f1
        · exact up1 @f2
        · simp (disch := first | assumption | omega) only [w_next h16, upd_same, upd_neq, vcells_N, w_zero]
    · have hi2 : i = 64 := by omega
      subst hi2
      refine AGo_turn ?_
      refine wl2 rK @hlt ?_
      refine AGo_markL ?_ (hK 64 _ _ ⟨by omega, agr, f0, f1, f2, f3⟩)
      · simp only [subs_nil, subs_if, lk_if, lk_nil, dropR_nil, dropR_cons, Nat.reduceLT, List.cons_append, List.nil_append, List.elem_nil, List.elem_cons, Nat.reduceBEq, beq_self_eq_true, Bool.true_or, Bool.false_or, Bool.or_true, Bool.or_false, Bool.false_eq_true, ↓reduceIte, if_true, if_false, Nat.reduceEqDiff, and_self, and_true, true_and, eq_self]
  rintro i H1 n1 ⟨hn, hA, f0, f1, f2, f3⟩
  simp only [List.cons_append, List.nil_append, dropR_nil, dropR_cons, Nat.reduceLT, ↓reduceIte]
  refine wl3 rK @f0 @zero8 ?_
  refine AGo_askV (sha_steps _ _) ?_
  refine wl2 rK @f0 ?_
  refine AGo_cycleD (α := Nat) 10 174 (fun k => [(94, .int .i64 (k : Nat)), (93, .agg ⟨fk .u32 64 kc⟩)]) (fun k H' n' => k ≤ 64 ∧ n1 + 2 ≤ n' ∧ Agree n H H' ∧ H' n = some (.cells (fk .u32 8 h) 124 (0, 0)) ∧ H' (n + 2) = some (.cells (fk .u32 8 (fun _ => 0)) 124 (0, 0)) ∧ H' (n + 3) = some (.cells (fk .u32 64 (wN b 64)) 162 (0, 0)) ∧ H' (n1 + 1) = some (.cells (fk .u32 8 (rds h b k)) 124 (0, 0))) (fun k H' n' => n1 + 2 ≤ n' ∧ Agree n H H' ∧ H' n = some (.cells (fk .u32 8 h) 124 (0, 0)) ∧ H' (n + 2) = some (.cells (fk .u32 8 (fun _ => 0)) 124 (0, 0)) ∧ H' (n1 + 1) = some (.cells (fk .u32 8 (rds h b 64)) 124 (0, 0))) (fun k => 64 - k) (0) ?_ (by simp only [subs_nil, subs_if, lk_if, lk_nil, dropR_nil, dropR_cons, Nat.reduceLT, List.cons_append, List.nil_append, List.elem_nil, List.elem_cons, Nat.reduceBEq, beq_self_eq_true, Bool.true_or, Bool.false_or, Bool.or_true, Bool.or_false, Bool.false_eq_true, ↓reduceIte, if_true, if_false, Nat.reduceEqDiff, and_self, and_true, true_and, eq_self]) ?_ ?_
  · refine ⟨Nat.zero_le _, by omega, agr, ?_, ?_, ?_, ?_⟩
    · exact up1 @f0
    · exact up1 @f2
    · exact up1 @f3
    · simp (disch := first | assumption | omega) only [upd_same, upd_neq, vcells_N, w_zero]
      exact congrArg (fun l => some (AObj.cells l _ _)) (fk_congr (k := .u32) (n := 8) (f := h) (g := rds h b 0) fun _ _ => (rds_zero h b _).symm)
  · clear f0 f1 f2 f3 hA
    rintro k H' n' kk ⟨hk, hn', hA, f0, f2, f3, f4⟩ hK hS
    simp only [List.cons_append, List.nil_append, dropR_nil, dropR_cons, Nat.reduceLT, ↓reduceIte]
    by_cases hlt : k < 64
    · refine AGo_turn ?_
      refine wl4 rK @hlt @f3 @f4 ?_
      refine AGo_askV (mix3 _ _ _ (rds h b k 4) 6 11 25 _ 3 (0, 0) (by omega) (by simp (disch := first | assumption | omega) only [upd_same, upd_neq]) (by decide) (by decide) (by decide) (by decide) (by decide) (by decide)) ?_
      refine wl5 rK @f3 @f4 @ch_fold @stepT_fold ?_
      refine AGo_askV (mix3 _ _ _ (rds h b k 0) 2 13 22 _ 3 (0, 0) (by omega) (by simp (disch := first | assumption | omega) only [upd_same, upd_neq]) (by decide) (by decide) (by decide) (by decide) (by decide) (by decide)) ?_
      refine wl5 rK @f3 @f4 @mj_fold @stepS_fold ?_
      refine AGo_le ?_ (hS (k + 1) _ _ ⟨by omega, by omega, agr, ?_, ?_, ?_, ?_⟩ (by omega))
      · simp only [subs_nil, subs_if, lk_if, lk_nil, dropR_nil, dropR_cons, Nat.reduceLT, List.cons_append, List.nil_append, List.elem_nil, List.elem_cons, Nat.reduceBEq, beq_self_eq_true, Bool.true_or, Bool.false_or, Bool.or_true, Bool.or_false, Bool.false_eq_true, ↓reduceIte, if_true, if_false, Nat.reduceEqDiff, and_self, and_true, true_and, eq_self]
      · exact up1 @f0
      · exact up1 @f2
      · exact up1 @f3
      · simp (disch := first | assumption | omega) only [upd_same, upd_neq, vcells_N, w_zero]
        rw [← stepS_fold, fk8]; simp only [Nat.reduceEqDiff, ↓reduceIte]
    · have hk2 : k = 64 := by omega
      subst hk2
      refine AGo_turn ?_
      refine wl2 rK @hlt ?_
      refine AGo_markL ?_ (hK 64 _ _ ⟨by omega, agr, f0, f2, f4⟩)
      · simp only [subs_nil, subs_if, lk_if, lk_nil, dropR_nil, dropR_cons, Nat.reduceLT, List.cons_append, List.nil_append, List.elem_nil, List.elem_cons, Nat.reduceBEq, beq_self_eq_true, Bool.true_or, Bool.false_or, Bool.or_true, Bool.or_false, Bool.false_eq_true, ↓reduceIte, if_true, if_false, Nat.reduceEqDiff, and_self, and_true, true_and, eq_self]
  clear f0 f1 f2 f3 hA
  rintro k H2 n2 ⟨hn2, hA, f0, f2, f4⟩
  simp only [List.cons_append, List.nil_append, dropR_nil, dropR_cons, Nat.reduceLT, ↓reduceIte]
  refine wl1 rK ?_
  refine AGo_cycleD (α := Nat) 12 174 (fun k => [(161, .int .i64 (k : Nat))]) (fun k H' n' => k ≤ 8 ∧ n1 + 2 ≤ n' ∧ Agree n H H' ∧ H' n = some (.cells (fk .u32 8 h) 124 (0, 0)) ∧ H' (n + 2) = some (.cells (fk .u32 8 (fun _ => 0)) 124 (0, 0)) ∧ H' (n1 + 1) = some (.cells (fk .u32 8 (fun j => if j < k then cmpr h b j else rds h b 64 j)) 124 (0, 0))) (fun k H' n' => n1 + 2 ≤ n' ∧ Agree n H H' ∧ H' (n + 2) = some (.cells (fk .u32 8 (fun _ => 0)) 124 (0, 0)) ∧ H' (n1 + 1) = some (.cells (fk .u32 8 (cmpr h b)) 124 (0, 0))) (fun k => 8 - k) (0) ?_ (by simp only [subs_nil, subs_if, lk_if, lk_nil, dropR_nil, dropR_cons, Nat.reduceLT, List.cons_append, List.nil_append, List.elem_nil, List.elem_cons, Nat.reduceBEq, beq_self_eq_true, Bool.true_or, Bool.false_or, Bool.or_true, Bool.or_false, Bool.false_eq_true, ↓reduceIte, if_true, if_false, Nat.reduceEqDiff, and_self, and_true, true_and, eq_self]) ?_ ?_
  · refine ⟨Nat.zero_le _, by omega, agr, f0, f2, ?_⟩
    rw [f4, fk_upto0]
  · clear f0 f2 f4 hA
    rintro k H' n' kk ⟨hk, hn', hA, f0, f2, f4⟩ hK hS
    simp only [List.cons_append, List.nil_append, dropR_nil, dropR_cons, Nat.reduceLT, ↓reduceIte]
    by_cases hlt : k < 8
    · refine AGo_turn ?_
      refine wl5 rK @hlt @f0 @f4 @Nat.lt_irrefl ?_
      refine AGo_le ?_ (hS (k + 1) _ _ ⟨by omega, by omega, agr, ?_, ?_, ?_⟩ (by omega))
      · simp only [subs_nil, subs_if, lk_if, lk_nil, dropR_nil, dropR_cons, Nat.reduceLT, List.cons_append, List.nil_append, List.elem_nil, List.elem_cons, Nat.reduceBEq, beq_self_eq_true, Bool.true_or, Bool.false_or, Bool.or_true, Bool.or_false, Bool.false_eq_true, ↓reduceIte, if_true, if_false, Nat.reduceEqDiff, and_self, and_true, true_and, eq_self]
      · exact up1 @f0
      · exact up1 @f2
      · simp (disch := first | assumption | omega) only [fk_upto (cmpr_fold h b k), upd_same, upd_neq, vcells_N, w_zero]
    · have hk2 : k = 8 := by omega
      subst hk2
      refine AGo_turn ?_
      refine wl2 rK @hlt ?_
      refine AGo_markL ?_ (hK 8 _ _ ⟨by omega, agr, f2, ?_⟩)
      · simp only [subs_nil, subs_if, lk_if, lk_nil, dropR_nil, dropR_cons, Nat.reduceLT, List.cons_append, List.nil_append, List.elem_nil, List.elem_cons, Nat.reduceBEq, beq_self_eq_true, Bool.true_or, Bool.false_or, Bool.or_true, Bool.or_false, Bool.false_eq_true, ↓reduceIte, if_true, if_false, Nat.reduceEqDiff, and_self, and_true, true_and, eq_self]
      rw [f4, fk_upto_all]
  clear f0 f2 f4 hA
  rintro k H3 n3 ⟨hn3, hA, f2, f4⟩
  simp only [List.cons_append, List.nil_append, dropR_nil, dropR_cons, Nat.reduceLT, ↓reduceIte]
  refine wl3 rK @f2 @f4 ?_
  exact ⟨rfl, agr⟩
end Go.Proofs.YtcjchcommaahdaaGreat

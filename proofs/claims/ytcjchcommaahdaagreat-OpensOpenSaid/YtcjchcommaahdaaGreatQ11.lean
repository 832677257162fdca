/- Long numbers as values, and what the model's integers come to. The walk's rules, bound together. Short names for the parts of compiled code. No conditions. -/
import Derived.Test.YtcjchcommaahdaaGreatQ10
import Derived.Test.YtcjchcommaahdaaGreatQ09
set_option maxRecDepth 20000
set_option maxHeartbeats 4000000
set_option linter.all false
namespace Go.Ab

def B : Nat := 2 ^ 64
theorem B_eq : B = 18446744073709551616 := by decide
theorem B_pos : 0 < B := by decide
def BB : Nat := 2 ^ 256
theorem BB_eq : BB = 115792089237316195423570985008687907853269984665640564039457584007913129639936 := by decide
theorem BB_B : BB = B * B * B * B := by decide
theorem BB_pos : 0 < BB := by decide
def w0 (x : Nat) : Nat := x % B
def w1 (x : Nat) : Nat := x / B % B
def w2 (x : Nat) : Nat := x / (B * B) % B
def w3 (x : Nat) : Nat := x / (B * B * B) % B
def N (x : Nat) : Value := .agg #[.int .u64 (w0 x : Nat), .int .u64 (w1 x : Nat), .int .u64 (w2 x : Nat), .int .u64 (w3 x : Nat)]
def pack (a b c d : Nat) : Nat := a + B * (b + B * (c + B * d))
theorem w0_lt (x : Nat) : w0 x < B := Nat.mod_lt _ B_pos
theorem w1_lt (x : Nat) : w1 x < B := Nat.mod_lt _ B_pos
theorem w2_lt (x : Nat) : w2 x < B := Nat.mod_lt _ B_pos
theorem w3_lt (x : Nat) : w3 x < B := Nat.mod_lt _ B_pos
theorem pack_w (x : Nat) : pack (w0 x) (w1 x) (w2 x) (w3 x) = x % BB := by
  unfold pack w0 w1 w2 w3; simp only [B_eq, BB_eq]; omega
theorem pack_lt {a b c d : Nat} (ha : a < B) (hb : b < B) (hc : c < B) (hd : d < B) : pack a b c d < BB := by
  unfold pack; simp only [B_eq, BB_eq] at *; omega
theorem pack_ws {a b c d : Nat} (ha : a < B) (hb : b < B) (hc : c < B) (hd : d < B) : w0 (pack a b c d) = a ∧ w1 (pack a b c d) = b ∧ w2 (pack a b c d) = c ∧ w3 (pack a b c d) = d := by
  unfold pack w0 w1 w2 w3; simp only [B_eq] at *; omega
theorem N_pack {a b c d : Nat} (ha : a < B) (hb : b < B) (hc : c < B) (hd : d < B) : N (pack a b c d) = .agg #[.int .u64 (a : Nat), .int .u64 (b : Nat), .int .u64 (c : Nat), .int .u64 (d : Nat)] := by
  obtain ⟨h0, h1, h2, h3⟩ := pack_ws ha hb hc hd
  unfold N; rw [h0, h1, h2, h3]
theorem N_mod (x : Nat) : N (x % BB) = N x := by
  unfold N
  rw [show w0 (x % BB) = w0 x by unfold w0; simp only [B_eq, BB_eq]; omega, show w1 (x % BB) = w1 x by unfold w1; simp only [B_eq, BB_eq]; omega,
    show w2 (x % BB) = w2 x by unfold w2; simp only [B_eq, BB_eq]; omega, show w3 (x % BB) = w3 x by unfold w3; simp only [B_eq, BB_eq]; omega]
theorem w_small {x : Nat} (h : x < B) : w0 x = x ∧ w1 x = 0 ∧ w2 x = 0 ∧ w3 x = 0 := by
  unfold w0 w1 w2 w3; simp only [B_eq] at *; omega
theorem N_small {x : Nat} (h : x < B) : N x = .agg #[.int .u64 (x : Nat), .int .u64 0, .int .u64 0, .int .u64 0] := by
  obtain ⟨h0, h1, h2, h3⟩ := w_small h
  unfold N; rw [h0, h1, h2, h3]; rfl
theorem w_inj {x y : Nat} (hx : x < BB) (hy : y < BB) (h0 : w0 x = w0 y) (h1 : w1 x = w1 y) (h2 : w2 x = w2 y) (h3 : w3 x = w3 y) : x = y := by
  have e1 := pack_w x; have e2 := pack_w y
  rw [h0, h1, h2, h3, e2] at e1
  rw [Nat.mod_eq_of_lt hx, Nat.mod_eq_of_lt hy] at e1; exact e1.symm
theorem w0_def (x : Nat) : w0 x = x % B := rfl
theorem w1_def (x : Nat) : w1 x = x / B % B := rfl
theorem w2_def (x : Nat) : w2 x = x / (B * B) % B := rfl
theorem w3_def (x : Nat) : w3 x = x / (B * B * B) % B := rfl
theorem pack_def (a b c d : Nat) : pack a b c d = a + B * (b + B * (c + B * d)) := rfl
theorem vcells_N (x : Nat) : vcells (N x) = [.int .u64 (w0 x : Nat), .int .u64 (w1 x : Nat), .int .u64 (w2 x : Nat), .int .u64 (w3 x : Nat)] := rfl
theorem hdChan_N (x : Nat) (l : List Value) : hdChan (N x :: l) = false := rfl
theorem isTup_N (x : Nat) : isTup (N x) = false := rfl
theorem N_fold (x : Nat) : Value.agg #[.int .u64 (w0 x : Nat), .int .u64 (w1 x : Nat), .int .u64 (w2 x : Nat), .int .u64 (w3 x : Nat)] = N x := rfl
theorem N_zero : Value.agg #[.int .u64 ((0 : Nat) : Int), .int .u64 ((0 : Nat) : Int), .int .u64 ((0 : Nat) : Int), .int .u64 ((0 : Nat) : Int)] = N 0 := by
  unfold N w0 w1 w2 w3; simp
theorem vcells_N0 : vcells (N 0) = [.int .u64 ((0 : Nat) : Int), .int .u64 ((0 : Nat) : Int), .int .u64 ((0 : Nat) : Int), .int .u64 ((0 : Nat) : Int)] := by
  simp [vcells, N, w0, w1, w2, w3]
theorem N_one : Value.agg #[.int .u64 ((1 : Nat) : Int), .int .u64 ((0 : Nat) : Int), .int .u64 ((0 : Nat) : Int), .int .u64 ((0 : Nat) : Int)] = N 1 := by
  unfold N w0 w1 w2 w3; simp [B_eq]
theorem rN : type_of% (And.intro @N_fold (And.intro @N_zero @N_one)) := (And.intro @N_fold (And.intro @N_zero @N_one))
attribute [irreducible] B BB w0 w1 w2 w3 pack
theorem eqvS_agg (neg : Bool) (sh : List Nat) (a b : List Value) : eqvS neg sh (.agg ⟨a⟩) (.agg ⟨b⟩) = match cellsEq sh a b with | some r => some (.bool (bif neg then !r else r), none) | none => none := rfl
theorem N_beq0 (x y : Nat) (hx : x < BB) (hy : y < BB) :
    (((w0 x : Int) == (w0 y : Int)) && (((w1 x : Int) == (w1 y : Int)) && (((w2 x : Int) == (w2 y : Int)) && ((w3 x : Int) == (w3 y : Int))))) = decide (x = y) := by
  by_cases h : x = y
  · subst h; simp
  · rw [decide_eq_false h]
    simp only [Bool.and_eq_false_iff, beq_eq_false_iff_ne, ne_eq, Int.natCast_inj]
    by_cases h0 : w0 x = w0 y
    · by_cases h1 : w1 x = w1 y
      · by_cases h2 : w2 x = w2 y
        · exact .inr (.inr (.inr fun h3 => h (w_inj hx hy h0 h1 h2 h3)))
        · exact .inr (.inr (.inl h2))
      · exact .inr (.inl h1)
    · exact .inl h0
theorem eqvS_N (neg : Bool) (x y : Nat) (hx : x < BB) (hy : y < BB) : eqvS neg [0, 0, 0, 0] (N x) (N y) = some (.bool (bif neg then !decide (x = y) else decide (x = y)), none) := by
  rw [← N_beq0 x y hx hy]
  simp [eqvS, N, cellsEq, cellEq]

/-- Integers: every number is one of Nat. -/
theorem un_wrap (k : IntKind) (h : k.signed = false) (n : Nat) : k.wrap (n : Int) = ((n % 2 ^ k.bits : Nat) : Int) := by
  simp [IntKind.wrap, h]
theorem i64_wrap {n : Nat} (h : n < 9223372036854775808) : IntKind.i64.wrap (n : Int) = (n : Int) := by
  simp only [IntKind.wrap, IntKind.bits, IntKind.signed]
  have e : (n : Int) % (2 ^ 64 : Int) = n := Int.emod_eq_of_lt (by omega) (by omega)
  simp only [e]; simp; omega
theorem min_lt {a b : Nat} (h : a < b) : min a b = a := Nat.min_eq_left (Nat.le_of_lt h)
section bin
variable (a b : Nat)
theorem bin_eql (k : IntKind) : binInt .eql k a k b = some (.bool (decide (a = b))) := by
  simp only [binInt, if_pos]; congr 2
  by_cases h : a = b
  · subst h; simp
  · rw [decide_eq_false h]; simp; omega
theorem bin_neq (k : IntKind) : binInt .neq k a k b = some (.bool (!decide (a = b))) := by
  simp only [binInt, if_pos]; congr 2
  by_cases h : a = b
  · subst h; simp
  · rw [decide_eq_false h]; simp; omega
theorem bin_lss (k : IntKind) : binInt .lss k a k b = some (.bool (decide (a < b))) := by
  simp only [binInt, if_pos]; congr 2; simp
theorem bin_leq (k : IntKind) : binInt .leq k a k b = some (.bool (decide (a ≤ b))) := by
  simp only [binInt, if_pos]; congr 2; simp
theorem bin_gtr (k : IntKind) : binInt .gtr k a k b = some (.bool (decide (b < a))) := by
  simp only [binInt, if_pos]; congr 2; simp
theorem bin_geq (k : IntKind) : binInt .geq k a k b = some (.bool (decide (b ≤ a))) := by
  simp only [binInt, if_pos]; congr 2; simp
theorem bin_shr (k k' : IntKind) : binInt .shr k a k' b = some (.int k (a / 2 ^ (min b k.bits) : Nat)) := by
  simp only [binInt, if_pos (Int.natCast_nonneg b)]
  rw [Int.fdiv_eq_ediv_of_nonneg _ (Int.le_of_lt (Int.pow_pos (by decide)))]; simp

theorem u64_pow : (2 : Nat) ^ IntKind.u64.bits = B := by rw [B_eq]; decide
theorem u64_wrap : IntKind.u64.wrap (a : Int) = ((a % B : Nat) : Int) := by rw [un_wrap .u64 rfl, u64_pow]
theorem bin_add_u64 : binInt .add .u64 a .u64 b = some (.int .u64 ((a + b) % B : Nat)) := by
  simp only [binInt, if_pos]; rw [← Int.natCast_add, u64_wrap]
theorem bin_mul_u64 : binInt .mul .u64 a .u64 b = some (.int .u64 ((a * b) % B : Nat)) := by
  simp only [binInt, if_pos]; rw [← Int.natCast_mul, u64_wrap]
theorem bin_sub_u64 : binInt .sub .u64 a .u64 b = some (.int .u64 ((a + (B - b % B)) % B : Nat)) := by
  simp only [binInt, if_pos]; congr 2
  simp only [IntKind.wrap, IntKind.bits, IntKind.signed, B_eq]; simp; omega
theorem bin_shl_u64 (k' : IntKind) : binInt .shl .u64 a k' b = some (.int .u64 (a * 2 ^ (min b 64) % B : Nat)) := by
  simp only [binInt, if_pos (Int.natCast_nonneg b)]
  rw [show ((a : Int) * 2 ^ (min (b : Int).toNat IntKind.u64.bits)) = ((a * 2 ^ (min b 64) : Nat) : Int) by simp [IntKind.bits], u64_wrap]
theorem bin_shr_u64 (k' : IntKind) : binInt .shr .u64 a k' b = some (.int .u64 (a / 2 ^ (min b 64) : Nat)) := bin_shr a b .u64 k'
theorem bin_and_u64 : binInt .and .u64 a .u64 b = some (.int .u64 ((a &&& b) % B : Nat)) := by
  simp only [binInt, if_pos]; rw [u64_wrap]
  simp only [BitVec.toNat_and, BitVec.ofInt_natCast, BitVec.toNat_ofNat, u64_pow]; rw [← u64_pow, ← Nat.and_mod_two_pow, Nat.mod_mod]
theorem bin_or_u64 : binInt .or .u64 a .u64 b = some (.int .u64 ((a ||| b) % B : Nat)) := by
  simp only [binInt, if_pos]; rw [u64_wrap]
  simp only [BitVec.toNat_or, BitVec.ofInt_natCast, BitVec.toNat_ofNat, u64_pow]; rw [← u64_pow, ← Nat.or_mod_two_pow, Nat.mod_mod]
theorem bin_xor_u64 : binInt .xor .u64 a .u64 b = some (.int .u64 ((a ^^^ b) % B : Nat)) := by
  simp only [binInt, if_pos]; rw [u64_wrap]
  simp only [BitVec.toNat_xor, BitVec.ofInt_natCast, BitVec.toNat_ofNat, u64_pow]; rw [← u64_pow, ← Nat.xor_mod_two_pow, Nat.mod_mod]
theorem bin_quo_u64 (h : b ≠ 0) : binInt .quo .u64 a .u64 b = some (.int .u64 (a / b % B : Nat)) := by
  simp only [binInt, if_pos]; rw [if_neg (by omega), ← Int.ofNat_tdiv, u64_wrap]
theorem bin_rem_u64 (h : b ≠ 0) : binInt .rem .u64 a .u64 b = some (.int .u64 (a % b : Nat)) := by
  simp only [binInt, if_pos]; rw [if_neg (by omega), ← Int.ofNat_tmod]

theorem u32_pow : (2 : Nat) ^ IntKind.u32.bits = 4294967296 := by decide
theorem u32_wrap : IntKind.u32.wrap (a : Int) = ((a % 4294967296 : Nat) : Int) := by rw [un_wrap .u32 rfl, u32_pow]
theorem bin_add_u32 : binInt .add .u32 a .u32 b = some (.int .u32 ((a + b) % 4294967296 : Nat)) := by
  simp only [binInt, if_pos]; rw [← Int.natCast_add, u32_wrap]
theorem bin_mul_u32 : binInt .mul .u32 a .u32 b = some (.int .u32 ((a * b) % 4294967296 : Nat)) := by
  simp only [binInt, if_pos]; rw [← Int.natCast_mul, u32_wrap]
theorem bin_sub_u32 : binInt .sub .u32 a .u32 b = some (.int .u32 ((a + (4294967296 - b % 4294967296)) % 4294967296 : Nat)) := by
  simp only [binInt, if_pos]; congr 2
  simp only [IntKind.wrap, IntKind.bits, IntKind.signed]; simp; omega
theorem bin_shl_u32 (k' : IntKind) : binInt .shl .u32 a k' b = some (.int .u32 (a * 2 ^ (min b 32) % 4294967296 : Nat)) := by
  simp only [binInt, if_pos (Int.natCast_nonneg b)]
  rw [show ((a : Int) * 2 ^ (min (b : Int).toNat IntKind.u32.bits)) = ((a * 2 ^ (min b 32) : Nat) : Int) by simp [IntKind.bits], u32_wrap]
theorem bin_shr_u32 (k' : IntKind) : binInt .shr .u32 a k' b = some (.int .u32 (a / 2 ^ (min b 32) : Nat)) := bin_shr a b .u32 k'
theorem bin_and_u32 : binInt .and .u32 a .u32 b = some (.int .u32 ((a &&& b) % 4294967296 : Nat)) := by
  simp only [binInt, if_pos]; rw [u32_wrap]
  simp only [BitVec.toNat_and, BitVec.ofInt_natCast, BitVec.toNat_ofNat, u32_pow]; rw [← u32_pow, ← Nat.and_mod_two_pow, Nat.mod_mod]
theorem bin_or_u32 : binInt .or .u32 a .u32 b = some (.int .u32 ((a ||| b) % 4294967296 : Nat)) := by
  simp only [binInt, if_pos]; rw [u32_wrap]
  simp only [BitVec.toNat_or, BitVec.ofInt_natCast, BitVec.toNat_ofNat, u32_pow]; rw [← u32_pow, ← Nat.or_mod_two_pow, Nat.mod_mod]
theorem bin_xor_u32 : binInt .xor .u32 a .u32 b = some (.int .u32 ((a ^^^ b) % 4294967296 : Nat)) := by
  simp only [binInt, if_pos]; rw [u32_wrap]
  simp only [BitVec.toNat_xor, BitVec.ofInt_natCast, BitVec.toNat_ofNat, u32_pow]; rw [← u32_pow, ← Nat.xor_mod_two_pow, Nat.mod_mod]
theorem bin_quo_u32 (h : b ≠ 0) : binInt .quo .u32 a .u32 b = some (.int .u32 (a / b % 4294967296 : Nat)) := by
  simp only [binInt, if_pos]; rw [if_neg (by omega), ← Int.ofNat_tdiv, u32_wrap]
theorem bin_rem_u32 (h : b ≠ 0) : binInt .rem .u32 a .u32 b = some (.int .u32 (a % b : Nat)) := by
  simp only [binInt, if_pos]; rw [if_neg (by omega), ← Int.ofNat_tmod]

theorem u8_pow : (2 : Nat) ^ IntKind.u8.bits = 256 := by decide
theorem u8_wrap : IntKind.u8.wrap (a : Int) = ((a % 256 : Nat) : Int) := by rw [un_wrap .u8 rfl, u8_pow]
theorem bin_add_u8 : binInt .add .u8 a .u8 b = some (.int .u8 ((a + b) % 256 : Nat)) := by
  simp only [binInt, if_pos]; rw [← Int.natCast_add, u8_wrap]
theorem bin_mul_u8 : binInt .mul .u8 a .u8 b = some (.int .u8 ((a * b) % 256 : Nat)) := by
  simp only [binInt, if_pos]; rw [← Int.natCast_mul, u8_wrap]
theorem bin_sub_u8 : binInt .sub .u8 a .u8 b = some (.int .u8 ((a + (256 - b % 256)) % 256 : Nat)) := by
  simp only [binInt, if_pos]; congr 2
  simp only [IntKind.wrap, IntKind.bits, IntKind.signed]; simp; omega
theorem bin_shl_u8 (k' : IntKind) : binInt .shl .u8 a k' b = some (.int .u8 (a * 2 ^ (min b 8) % 256 : Nat)) := by
  simp only [binInt, if_pos (Int.natCast_nonneg b)]
  rw [show ((a : Int) * 2 ^ (min (b : Int).toNat IntKind.u8.bits)) = ((a * 2 ^ (min b 8) : Nat) : Int) by simp [IntKind.bits], u8_wrap]
theorem bin_shr_u8 (k' : IntKind) : binInt .shr .u8 a k' b = some (.int .u8 (a / 2 ^ (min b 8) : Nat)) := bin_shr a b .u8 k'
theorem bin_and_u8 : binInt .and .u8 a .u8 b = some (.int .u8 ((a &&& b) % 256 : Nat)) := by
  simp only [binInt, if_pos]; rw [u8_wrap]
  simp only [BitVec.toNat_and, BitVec.ofInt_natCast, BitVec.toNat_ofNat, u8_pow]; rw [← u8_pow, ← Nat.and_mod_two_pow, Nat.mod_mod]
theorem bin_or_u8 : binInt .or .u8 a .u8 b = some (.int .u8 ((a ||| b) % 256 : Nat)) := by
  simp only [binInt, if_pos]; rw [u8_wrap]
  simp only [BitVec.toNat_or, BitVec.ofInt_natCast, BitVec.toNat_ofNat, u8_pow]; rw [← u8_pow, ← Nat.or_mod_two_pow, Nat.mod_mod]
theorem bin_xor_u8 : binInt .xor .u8 a .u8 b = some (.int .u8 ((a ^^^ b) % 256 : Nat)) := by
  simp only [binInt, if_pos]; rw [u8_wrap]
  simp only [BitVec.toNat_xor, BitVec.ofInt_natCast, BitVec.toNat_ofNat, u8_pow]; rw [← u8_pow, ← Nat.xor_mod_two_pow, Nat.mod_mod]
theorem bin_quo_u8 (h : b ≠ 0) : binInt .quo .u8 a .u8 b = some (.int .u8 (a / b % 256 : Nat)) := by
  simp only [binInt, if_pos]; rw [if_neg (by omega), ← Int.ofNat_tdiv, u8_wrap]
theorem bin_rem_u8 (h : b ≠ 0) : binInt .rem .u8 a .u8 b = some (.int .u8 (a % b : Nat)) := by
  simp only [binInt, if_pos]; rw [if_neg (by omega), ← Int.ofNat_tmod]

theorem bin_add_i64 (h : a + b < 9223372036854775808) : binInt .add .i64 a .i64 b = some (.int .i64 (a + b : Nat)) := by
  simp only [binInt, if_pos]; rw [← Int.natCast_add, i64_wrap h]
theorem bin_mul_i64 (h : a * b < 9223372036854775808) : binInt .mul .i64 a .i64 b = some (.int .i64 (a * b : Nat)) := by
  simp only [binInt, if_pos]; rw [← Int.natCast_mul, i64_wrap h]
theorem bin_sub_i64 (h : b ≤ a) (h2 : a < 9223372036854775808) : binInt .sub .i64 a .i64 b = some (.int .i64 (a - b : Nat)) := by
  simp only [binInt, if_pos]; rw [← Int.natCast_sub h, i64_wrap (by omega)]
theorem bin_quo_i64 (h : b ≠ 0) (h2 : a < 9223372036854775808) : binInt .quo .i64 a .i64 b = some (.int .i64 (a / b : Nat)) := by
  simp only [binInt, if_pos]; rw [if_neg (by omega), ← Int.ofNat_tdiv, i64_wrap (Nat.lt_of_le_of_lt (Nat.div_le_self _ _) h2)]
theorem bin_rem_i64 (h : b ≠ 0) : binInt .rem .i64 a .i64 b = some (.int .i64 (a % b : Nat)) := by
  simp only [binInt, if_pos]; rw [if_neg (by omega), ← Int.ofNat_tmod]
theorem bin_sub_01 : binInt .sub .i64 ((0 : Nat) : Int) .i64 ((1 : Nat) : Int) = some (.int .i64 (-1)) := rfl
theorem bin_geq_m1 : binInt .geq .i64 (-1) .i64 ((0 : Nat) : Int) = some (.bool false) := rfl
end bin
end Go.Ab
namespace Go.Ab
theorem walk1 : type_of% (And.intro @op_mv <| And.intro @op_pick <| And.intro @op_alloc <| And.intro @op_box <| And.intro @op_build <| And.intro @op_mkSlice <| And.intro @op_load <| And.intro @op_store <| And.intro @op_bin <| And.intro @op_eqv <| And.intro @op_eqS <| And.intro @op_eqNil <| And.intro @op_un <| And.intro @op_conv <| And.intro @op_mkIface <| And.intro @op_mkFunc <| And.intro @op_fieldAddr <| And.intro @op_field <| And.intro @op_indexAddr <| And.intro @op_index <| And.intro @op_extract <| And.intro @op_len <| And.intro @op_cap <| And.intro @op_slice <| And.intro @op_makeSlice <| And.intro @op_copy <| And.intro @op_minmax <| And.intro @op_nilCheck <| And.intro @op_tassert <| And.intro @op_toArr <| And.intro @op_indexS <| And.intro @op_storeA <| And.intro @op_call <| And.intro @op_append <| And.intro @bin_eql <| And.intro @bin_neq <| And.intro @bin_lss <| And.intro @bin_leq <| And.intro @bin_gtr <| And.intro @bin_geq <| And.intro @bin_add_u64 <| And.intro @bin_sub_u64 <| And.intro @bin_mul_u64 <| And.intro @bin_shl_u64 <| And.intro @bin_shr_u64 <| And.intro @bin_and_u64 <| And.intro @bin_or_u64 <| @bin_xor_u64) := And.intro @op_mv <| And.intro @op_pick <| And.intro @op_alloc <| And.intro @op_box <| And.intro @op_build <| And.intro @op_mkSlice <| And.intro @op_load <| And.intro @op_store <| And.intro @op_bin <| And.intro @op_eqv <| And.intro @op_eqS <| And.intro @op_eqNil <| And.intro @op_un <| And.intro @op_conv <| And.intro @op_mkIface <| And.intro @op_mkFunc <| And.intro @op_fieldAddr <| And.intro @op_field <| And.intro @op_indexAddr <| And.intro @op_index <| And.intro @op_extract <| And.intro @op_len <| And.intro @op_cap <| And.intro @op_slice <| And.intro @op_makeSlice <| And.intro @op_copy <| And.intro @op_minmax <| And.intro @op_nilCheck <| And.intro @op_tassert <| And.intro @op_toArr <| And.intro @op_indexS <| And.intro @op_storeA <| And.intro @op_call <| And.intro @op_append <| And.intro @bin_eql <| And.intro @bin_neq <| And.intro @bin_lss <| And.intro @bin_leq <| And.intro @bin_gtr <| And.intro @bin_geq <| And.intro @bin_add_u64 <| And.intro @bin_sub_u64 <| And.intro @bin_mul_u64 <| And.intro @bin_shl_u64 <| And.intro @bin_shr_u64 <| And.intro @bin_and_u64 <| And.intro @bin_or_u64 <| @bin_xor_u64
theorem walk2 : type_of% (And.intro @bin_add_u32 <| And.intro @bin_sub_u32 <| And.intro @bin_mul_u32 <| And.intro @bin_shl_u32 <| And.intro @bin_shr_u32 <| And.intro @bin_and_u32 <| And.intro @bin_or_u32 <| And.intro @bin_xor_u32 <| And.intro @bin_add_u8 <| And.intro @bin_sub_u8 <| And.intro @bin_mul_u8 <| And.intro @bin_shl_u8 <| And.intro @bin_shr_u8 <| And.intro @bin_and_u8 <| And.intro @bin_or_u8 <| And.intro @bin_xor_u8 <| And.intro @bin_add_i64 <| And.intro @bin_sub_i64 <| And.intro @bin_mul_i64 <| And.intro @bin_quo_i64 <| And.intro @bin_rem_i64 <| And.intro @u64_wrap <| And.intro @u32_wrap <| And.intro @u8_wrap <| And.intro @i64_wrap <| And.intro @OnS_some <| And.intro @OnSA_some <| And.intro @CondV_bool <| And.intro @CondB_true <| And.intro @CondB_false <| And.intro @GuardV_bool <| And.intro @GuardB_true <| And.intro @GuardB_false <| And.intro @ev_i <| And.intro @ev_v <| And.intro @put_FR <| And.intro @put_no <| And.intro @lk_if <| And.intro @lk_nil <| And.intro @FR_getI <| And.intro @enumA_cons <| And.intro @enumA_nil <| And.intro @dropR_cons <| And.intro @dropR_nil <| And.intro @AGo_rangeV <| And.intro @setPs_FR <| And.intro @setPs_nil <| @vcells_N) := And.intro @bin_add_u32 <| And.intro @bin_sub_u32 <| And.intro @bin_mul_u32 <| And.intro @bin_shl_u32 <| And.intro @bin_shr_u32 <| And.intro @bin_and_u32 <| And.intro @bin_or_u32 <| And.intro @bin_xor_u32 <| And.intro @bin_add_u8 <| And.intro @bin_sub_u8 <| And.intro @bin_mul_u8 <| And.intro @bin_shl_u8 <| And.intro @bin_shr_u8 <| And.intro @bin_and_u8 <| And.intro @bin_or_u8 <| And.intro @bin_xor_u8 <| And.intro @bin_add_i64 <| And.intro @bin_sub_i64 <| And.intro @bin_mul_i64 <| And.intro @bin_quo_i64 <| And.intro @bin_rem_i64 <| And.intro @u64_wrap <| And.intro @u32_wrap <| And.intro @u8_wrap <| And.intro @i64_wrap <| And.intro @OnS_some <| And.intro @OnSA_some <| And.intro @CondV_bool <| And.intro @CondB_true <| And.intro @CondB_false <| And.intro @GuardV_bool <| And.intro @GuardB_true <| And.intro @GuardB_false <| And.intro @ev_i <| And.intro @ev_v <| And.intro @put_FR <| And.intro @put_no <| And.intro @lk_if <| And.intro @lk_nil <| And.intro @FR_getI <| And.intro @enumA_cons <| And.intro @enumA_nil <| And.intro @dropR_cons <| And.intro @dropR_nil <| And.intro @AGo_rangeV <| And.intro @setPs_FR <| And.intro @setPs_nil <| @vcells_N
theorem walk3 : type_of% (And.intro @isTup_N <| And.intro @isTup_c <| And.intro @vcells_c <| And.intro @hdChan_c <| And.intro @hdChan_N <| And.intro @eqvS_N <| And.intro @eqvS_agg <| And.intro @app_none <| And.intro @app_some <| And.intro @AGo_seq <| And.intro @AGo_region <| And.intro @AGo_regNil <| And.intro @AGo_block <| And.intro @AGo_inBlock <| And.intro @AGo_loop <| And.intro @AGo_cond <| And.intro @AGo_skip <| And.intro @AGo_scope <| And.intro @AGo_inScope <| And.intro @AGo_exit <| And.intro @AGo_ret <| And.intro @AGo_nil <| And.intro @AGo_guard <| And.intro @Nat.add_zero <| And.intro @Nat.zero_add <| And.intro @Nat.add_assoc <| And.intro @Nat.mul_one <| And.intro @Nat.zero_mul <| And.intro @Nat.one_mul <| And.intro @Int.natCast_nonneg <| And.intro @Int.ofNat_lt <| And.intro @Int.ofNat_le <| And.intro @Int.toNat_natCast <| And.intro @decide_true <| And.intro @decide_false <| And.intro @and_self <| And.intro @and_true <| And.intro @true_and <| And.intro @and_false <| And.intro @false_and <| And.intro @Bool.false_eq_true <| And.intro @Bool.true_eq_false <| And.intro @min_lt <| And.intro @upd_same <| And.intro @upd_neq <| And.intro @upd_upd <| And.intro @bin_sub_01 <| @bin_geq_m1) := And.intro @isTup_N <| And.intro @isTup_c <| And.intro @vcells_c <| And.intro @hdChan_c <| And.intro @hdChan_N <| And.intro @eqvS_N <| And.intro @eqvS_agg <| And.intro @app_none <| And.intro @app_some <| And.intro @AGo_seq <| And.intro @AGo_region <| And.intro @AGo_regNil <| And.intro @AGo_block <| And.intro @AGo_inBlock <| And.intro @AGo_loop <| And.intro @AGo_cond <| And.intro @AGo_skip <| And.intro @AGo_scope <| And.intro @AGo_inScope <| And.intro @AGo_exit <| And.intro @AGo_ret <| And.intro @AGo_nil <| And.intro @AGo_guard <| And.intro @Nat.add_zero <| And.intro @Nat.zero_add <| And.intro @Nat.add_assoc <| And.intro @Nat.mul_one <| And.intro @Nat.zero_mul <| And.intro @Nat.one_mul <| And.intro @Int.natCast_nonneg <| And.intro @Int.ofNat_lt <| And.intro @Int.ofNat_le <| And.intro @Int.toNat_natCast <| And.intro @decide_true <| And.intro @decide_false <| And.intro @and_self <| And.intro @and_true <| And.intro @true_and <| And.intro @and_false <| And.intro @false_and <| And.intro @Bool.false_eq_true <| And.intro @Bool.true_eq_false <| And.intro @min_lt <| And.intro @upd_same <| And.intro @upd_neq <| And.intro @upd_upd <| And.intro @bin_sub_01 <| @bin_geq_m1
theorem walk4 : type_of% (And.intro @blk_ne <| And.intro @blk_eq <| And.intro @bounds_nn <| And.intro @bounds_nh <| And.intro @bounds_ln <| And.intro @bounds_lh <| And.intro @beq_bt <| And.intro @beq_bf <| And.intro @Bool.not_false <| And.intro @Bool.not_true <| And.intro @Bool.and_true <| And.intro @Bool.true_and <| And.intro @Bool.and_self <| And.intro @Nat.le_refl <| And.intro @Nat.min_self <| And.intro (@List.set_cons_zero Value) <| And.intro (@List.set_cons_succ Value) <| And.intro (@List.length_cons Value) <| And.intro (@List.length_nil Value) <| And.intro (@List.replicate_succ Value) <| And.intro (@List.replicate_zero Value) <| And.intro (@List.cons_append Value) <| And.intro (@List.nil_append Value) <| And.intro (@List.append_nil Value) <| And.intro (@List.drop_zero Value) <| And.intro (@List.drop_succ_cons Value) <| And.intro (@List.take_zero Value) <| And.intro (@List.take_succ_cons Value) <| And.intro (@List.getElem?_cons_zero Value) <| And.intro (@List.getElem?_cons_succ Value) <| And.intro (@List.all_cons Value) <| And.intro (@List.all_nil Value) <| And.intro (@List.length_append Value) <| And.intro (@List.length_drop Value) <| And.intro (@List.length_take Value) <| And.intro (@List.length_cons AOper) <| And.intro (@List.length_nil AOper) <| And.intro (@List.all_cons Opd) <| And.intro (@List.all_nil Opd) <| And.intro (@List.map_cons Opd Value) <| And.intro (@List.map_nil Opd Value) <| And.intro (@cond_true Bool) <| And.intro (@cond_false Bool) <| And.intro (@cond_true Value) <| And.intro (@cond_false Value) <| (@Option.map_some Value (Value × Eff))) := And.intro @blk_ne <| And.intro @blk_eq <| And.intro @bounds_nn <| And.intro @bounds_nh <| And.intro @bounds_ln <| And.intro @bounds_lh <| And.intro @beq_bt <| And.intro @beq_bf <| And.intro @Bool.not_false <| And.intro @Bool.not_true <| And.intro @Bool.and_true <| And.intro @Bool.true_and <| And.intro @Bool.and_self <| And.intro @Nat.le_refl <| And.intro @Nat.min_self <| And.intro (@List.set_cons_zero Value) <| And.intro (@List.set_cons_succ Value) <| And.intro (@List.length_cons Value) <| And.intro (@List.length_nil Value) <| And.intro (@List.replicate_succ Value) <| And.intro (@List.replicate_zero Value) <| And.intro (@List.cons_append Value) <| And.intro (@List.nil_append Value) <| And.intro (@List.append_nil Value) <| And.intro (@List.drop_zero Value) <| And.intro (@List.drop_succ_cons Value) <| And.intro (@List.take_zero Value) <| And.intro (@List.take_succ_cons Value) <| And.intro (@List.getElem?_cons_zero Value) <| And.intro (@List.getElem?_cons_succ Value) <| And.intro (@List.all_cons Value) <| And.intro (@List.all_nil Value) <| And.intro (@List.length_append Value) <| And.intro (@List.length_drop Value) <| And.intro (@List.length_take Value) <| And.intro (@List.length_cons AOper) <| And.intro (@List.length_nil AOper) <| And.intro (@List.all_cons Opd) <| And.intro (@List.all_nil Opd) <| And.intro (@List.map_cons Opd Value) <| And.intro (@List.map_nil Opd Value) <| And.intro (@cond_true Bool) <| And.intro (@cond_false Bool) <| And.intro (@cond_true Value) <| And.intro (@cond_false Value) <| (@Option.map_some Value (Value × Eff))
end Go.Ab
namespace Go.Ab.K
def o (d : Nat) (p : AOp) : AOper := ⟨some d, p, none, []⟩
def q (p : AOp) : AOper := ⟨none, p, none, []⟩
def g (d : Nat) (p : AOp) (i : Nat) (b : Bool) : AOper := ⟨some d, p, some (i, b), []⟩
def l (d n a : Nat) : AOper := ⟨some d, .load true n (.t a), none, []⟩
def m (d a : Nat) : AOper := ⟨some d, .load false 1 (.t a), none, []⟩
def f (d n a : Nat) : AOper := ⟨some d, .fieldAddr n (.t a), none, []⟩
def v (d a : Nat) : AOper := ⟨some d, .mv (.t a), none, []⟩
def u (d : Nat) (x : Value) : AOper := ⟨some d, .mv (.v x), none, []⟩
def k (d f : Nat) (l : List Opd) : AOper := ⟨some d, .call (.v (.func (.func f) #[] #[])) l, none, []⟩
def s (n a x : Nat) : AOper := ⟨none, .store n (.t a) (.t x), none, []⟩
def x (d a i : Nat) : AOper := ⟨some d, .extract (.t a) i, none, []⟩
def h (d : Nat) (p : BinOp) (a b : Nat) : AOper := ⟨some d, .bin p (.t a) (.t b), none, []⟩
def w (d : Nat) (p : BinOp) (a : Nat) (y : Value) : AOper := ⟨some d, .bin p (.t a) (.v y), none, []⟩
def n (d a : Nat) : AOper := ⟨some d, .len false (.t a), none, []⟩
def e (d : Nat) (z : Option Nat) (n a i : Nat) : AOper := ⟨some d, .indexAddr z n (.t a) (.t i), none, []⟩
def a (d i e : Nat) (z : List Value) : AOper := ⟨some d, .alloc i e z, none, []⟩
def b (d i e a : Nat) : AOper := ⟨some d, .box i e (.t a), none, []⟩
def r (l : List AOper) : ACode := .region l false
def R (l : List AOper) : ACode := .region l true
def j (c d : ACode) : ACode := .seq c d
def y (n : Nat) : Value := .int .i64 (n : Nat)
def z (n : Nat) : Value := .int .u64 (n : Nat)
def t (n : Nat) : Value := .int .u32 (n : Nat)
def c (n : Nat) : Value := .int .u8 (n : Nat)
def Z0 : List Value := [.int .u64 (0 : Nat), .int .u64 (0 : Nat), .int .u64 (0 : Nat), .int .u64 (0 : Nat), .int .u64 (0 : Nat), .int .u64 (0 : Nat), .int .u64 (0 : Nat), .int .u64 (0 : Nat), .int .u64 (0 : Nat), .int .u64 (0 : Nat), .int .u64 (0 : Nat), .int .u64 (0 : Nat), .int .u64 (0 : Nat), .int .u64 (0 : Nat), .int .u64 (0 : Nat), .int .u64 (0 : Nat), .int .i64 (0 : Nat), .int .i64 (0 : Nat), .slice none 0 0]
def Z1 : List Value := [.int .u64 (0 : Nat), .int .u8 (0 : Nat), .slice none 0 0, .slice none 0 0, .slice none 0 0, .int .u64 (0 : Nat), .int .u64 (0 : Nat), .int .u64 (0 : Nat), .int .u64 (0 : Nat), .int .u64 (0 : Nat), .int .u64 (0 : Nat), .int .u64 (0 : Nat), .int .u64 (0 : Nat)]
def Z2 : List Value := [.int .u64 (0 : Nat), .int .u8 (0 : Nat), .int .u8 (0 : Nat), .int .u64 (0 : Nat), .int .u64 (0 : Nat), .int .u64 (0 : Nat), .int .u64 (0 : Nat), .int .u64 (0 : Nat), .int .u64 (0 : Nat), .int .u64 (0 : Nat), .int .u64 (0 : Nat), .int .u64 (0 : Nat), .int .u64 (0 : Nat), .int .u64 (0 : Nat), .int .u64 (0 : Nat)]
def Z3 : List Value := [.int .u64 (0 : Nat), .int .u64 (0 : Nat), .int .u64 (0 : Nat), .int .u64 (0 : Nat), .int .u64 (0 : Nat), .int .u64 (0 : Nat), .int .u64 (0 : Nat), .int .u64 (0 : Nat), .int .u64 (0 : Nat), .int .u64 (0 : Nat), .int .u64 (0 : Nat), .int .u64 (0 : Nat), .int .u64 (0 : Nat), .int .u64 (0 : Nat), .int .u64 (0 : Nat), .int .u64 (0 : Nat)]
def Z4 : List Value := [.int .u64 (0 : Nat), .int .u64 (0 : Nat), .int .u64 (0 : Nat), .int .u64 (0 : Nat)]
def Z5 : List Value := [.int .u8 (0 : Nat), .int .u8 (0 : Nat)]
def Z6 : List Value := [.int .u8 (0 : Nat), .int .u8 (0 : Nat), .int .u8 (0 : Nat), .int .u8 (0 : Nat), .int .u8 (0 : Nat), .int .u8 (0 : Nat), .int .u8 (0 : Nat), .int .u8 (0 : Nat), .int .u8 (0 : Nat), .int .u8 (0 : Nat), .int .u8 (0 : Nat), .int .u8 (0 : Nat), .int .u8 (0 : Nat), .int .u8 (0 : Nat), .int .u8 (0 : Nat), .int .u8 (0 : Nat), .int .u8 (0 : Nat), .int .u8 (0 : Nat), .int .u8 (0 : Nat), .int .u8 (0 : Nat), .int .u8 (0 : Nat), .int .u8 (0 : Nat), .int .u8 (0 : Nat), .int .u8 (0 : Nat), .int .u8 (0 : Nat), .int .u8 (0 : Nat), .int .u8 (0 : Nat), .int .u8 (0 : Nat), .int .u8 (0 : Nat), .int .u8 (0 : Nat), .int .u8 (0 : Nat), .int .u8 (0 : Nat)]
def Z7 : List Value := [.int .u8 (0 : Nat)]
def Z8 : List Value := [.slice none 0 0, .slice none 0 0, .slice none 0 0]
def Z9 : List Value := [.int .u64 (0 : Nat), .int .u64 (0 : Nat), .int .u64 (0 : Nat), .int .u64 (0 : Nat), .int .u64 (0 : Nat), .int .u64 (0 : Nat), .int .u64 (0 : Nat), .int .u64 (0 : Nat)]
def Z10 : List Value := [.int .u64 (0 : Nat)]
def Z11 : List Value := [.int .u64 (0 : Nat), .int .u64 (0 : Nat), .int .u64 (0 : Nat), .int .u64 (0 : Nat), .int .u64 (0 : Nat), .int .u64 (0 : Nat), .int .u64 (0 : Nat), .int .u64 (0 : Nat), .int .u64 (0 : Nat), .int .u64 (0 : Nat), .int .u64 (0 : Nat), .int .u64 (0 : Nat), .int .u64 (0 : Nat), .int .u64 (0 : Nat), .int .u64 (0 : Nat), .int .u64 (0 : Nat), .string ⟨#[]⟩]
def Z12 : List Value := [.int .u64 (0 : Nat), .int .u64 (0 : Nat), .int .u64 (0 : Nat), .int .u64 (0 : Nat), .int .u64 (0 : Nat), .int .u64 (0 : Nat), .int .u64 (0 : Nat), .int .u64 (0 : Nat), .int .u64 (0 : Nat), .int .u64 (0 : Nat), .int .u64 (0 : Nat), .int .u64 (0 : Nat), .int .u64 (0 : Nat), .int .u64 (0 : Nat), .int .u64 (0 : Nat), .int .u64 (0 : Nat), .int .u64 (0 : Nat), .int .u64 (0 : Nat), .int .u64 (0 : Nat), .int .u64 (0 : Nat), .int .u64 (0 : Nat), .int .u64 (0 : Nat), .int .u64 (0 : Nat), .int .u64 (0 : Nat)]
def Z13 : List Value := [.slice none 0 0, .slice none 0 0]
def Z14 : List Value := [.int .u64 (0 : Nat), .int .u64 (0 : Nat)]
def Z15 : List Value := [.nilFunc]
def Z16 : List Value := [.int .i64 (0 : Nat), .int .u32 (0 : Nat), .int .u32 (0 : Nat), .int .u32 (0 : Nat), .int .u32 (0 : Nat), .int .u32 (0 : Nat), .int .u32 (0 : Nat), .int .u32 (0 : Nat), .int .u32 (0 : Nat), .int .u8 (0 : Nat), .int .u8 (0 : Nat), .int .u8 (0 : Nat), .int .u8 (0 : Nat), .int .u8 (0 : Nat), .int .u8 (0 : Nat), .int .u8 (0 : Nat), .int .u8 (0 : Nat), .int .u8 (0 : Nat), .int .u8 (0 : Nat), .int .u8 (0 : Nat), .int .u8 (0 : Nat), .int .u8 (0 : Nat), .int .u8 (0 : Nat), .int .u8 (0 : Nat), .int .u8 (0 : Nat), .int .u8 (0 : Nat), .int .u8 (0 : Nat), .int .u8 (0 : Nat), .int .u8 (0 : Nat), .int .u8 (0 : Nat), .int .u8 (0 : Nat), .int .u8 (0 : Nat), .int .u8 (0 : Nat), .int .u8 (0 : Nat), .int .u8 (0 : Nat), .int .u8 (0 : Nat), .int .u8 (0 : Nat), .int .u8 (0 : Nat), .int .u8 (0 : Nat), .int .u8 (0 : Nat), .int .u8 (0 : Nat), .int .u8 (0 : Nat), .int .u8 (0 : Nat), .int .u8 (0 : Nat), .int .u8 (0 : Nat), .int .u8 (0 : Nat), .int .u8 (0 : Nat), .int .u8 (0 : Nat), .int .u8 (0 : Nat), .int .u8 (0 : Nat), .int .u8 (0 : Nat), .int .u8 (0 : Nat), .int .u8 (0 : Nat), .int .u8 (0 : Nat), .int .u8 (0 : Nat), .int .u8 (0 : Nat), .int .u8 (0 : Nat), .int .u8 (0 : Nat), .int .u8 (0 : Nat), .int .u8 (0 : Nat), .int .u8 (0 : Nat), .int .u8 (0 : Nat), .int .u8 (0 : Nat), .int .u8 (0 : Nat), .int .u8 (0 : Nat), .int .u8 (0 : Nat), .int .u8 (0 : Nat), .int .u8 (0 : Nat), .int .u8 (0 : Nat), .int .u8 (0 : Nat), .int .u8 (0 : Nat), .int .u8 (0 : Nat), .int .u8 (0 : Nat), .int .u64 (0 : Nat)]
def Z17 : List Value := [.slice none 0 0]
def Z18 : List Value := [.int .u32 (0 : Nat), .int .u32 (0 : Nat), .int .u32 (0 : Nat), .int .u32 (0 : Nat), .int .u32 (0 : Nat), .int .u32 (0 : Nat), .int .u32 (0 : Nat), .int .u32 (0 : Nat)]
def Z19 : List Value := [.int .u32 (0 : Nat), .int .u32 (0 : Nat), .int .u32 (0 : Nat), .int .u32 (0 : Nat), .int .u32 (0 : Nat), .int .u32 (0 : Nat), .int .u32 (0 : Nat), .int .u32 (0 : Nat), .int .u32 (0 : Nat), .int .u32 (0 : Nat), .int .u32 (0 : Nat), .int .u32 (0 : Nat), .int .u32 (0 : Nat), .int .u32 (0 : Nat), .int .u32 (0 : Nat), .int .u32 (0 : Nat), .int .u32 (0 : Nat), .int .u32 (0 : Nat), .int .u32 (0 : Nat), .int .u32 (0 : Nat), .int .u32 (0 : Nat), .int .u32 (0 : Nat), .int .u32 (0 : Nat), .int .u32 (0 : Nat), .int .u32 (0 : Nat), .int .u32 (0 : Nat), .int .u32 (0 : Nat), .int .u32 (0 : Nat), .int .u32 (0 : Nat), .int .u32 (0 : Nat), .int .u32 (0 : Nat), .int .u32 (0 : Nat), .int .u32 (0 : Nat), .int .u32 (0 : Nat), .int .u32 (0 : Nat), .int .u32 (0 : Nat), .int .u32 (0 : Nat), .int .u32 (0 : Nat), .int .u32 (0 : Nat), .int .u32 (0 : Nat), .int .u32 (0 : Nat), .int .u32 (0 : Nat), .int .u32 (0 : Nat), .int .u32 (0 : Nat), .int .u32 (0 : Nat), .int .u32 (0 : Nat), .int .u32 (0 : Nat), .int .u32 (0 : Nat), .int .u32 (0 : Nat), .int .u32 (0 : Nat), .int .u32 (0 : Nat), .int .u32 (0 : Nat), .int .u32 (0 : Nat), .int .u32 (0 : Nat), .int .u32 (0 : Nat), .int .u32 (0 : Nat), .int .u32 (0 : Nat), .int .u32 (0 : Nat), .int .u32 (0 : Nat), .int .u32 (0 : Nat), .int .u32 (0 : Nat), .int .u32 (0 : Nat), .int .u32 (0 : Nat), .int .u32 (0 : Nat)]
def Z20 : List Value := [.int .i64 (0 : Nat)]
def Z21 : List Value := [.int .i64 (0 : Nat), .int .i64 (0 : Nat)]
def Z22 : List Value := [.int .i64 (0 : Nat), .int .i64 (0 : Nat), .int .i64 (0 : Nat)]
def Z23 : List Value := [.int .u64 (0 : Nat), .int .u64 (0 : Nat), .int .u64 (0 : Nat), .int .u64 (0 : Nat), .int .u64 (0 : Nat), .int .u64 (0 : Nat), .int .u64 (0 : Nat), .int .u64 (0 : Nat), .int .u64 (0 : Nat), .int .u64 (0 : Nat), .int .u64 (0 : Nat), .int .u64 (0 : Nat), .int .u64 (0 : Nat), .int .u64 (0 : Nat), .int .u64 (0 : Nat), .int .u64 (0 : Nat), .int .u64 (0 : Nat), .int .u64 (0 : Nat), .int .u64 (0 : Nat), .int .u64 (0 : Nat), .int .u64 (0 : Nat), .int .u64 (0 : Nat), .int .u64 (0 : Nat), .int .u64 (0 : Nat), .int .u64 (0 : Nat), .int .u64 (0 : Nat), .int .u64 (0 : Nat), .int .u64 (0 : Nat), .int .u64 (0 : Nat), .int .u64 (0 : Nat), .int .u64 (0 : Nat), .int .u64 (0 : Nat)]
theorem rules : type_of% (And.intro (And.intro (And.intro (And.intro (And.intro @o.eq_1 (And.intro @q.eq_1 @g.eq_1)) (And.intro @l.eq_1 (And.intro @m.eq_1 @f.eq_1))) (And.intro (And.intro @v.eq_1 (And.intro @u.eq_1 @k.eq_1)) (And.intro @s.eq_1 (And.intro @x.eq_1 @h.eq_1)))) (And.intro (And.intro (And.intro @w.eq_1 (And.intro @n.eq_1 @e.eq_1)) (And.intro @a.eq_1 (And.intro @b.eq_1 @r.eq_1))) (And.intro (And.intro @R.eq_1 (And.intro @j.eq_1 @y.eq_1)) (And.intro @z.eq_1 (And.intro @t.eq_1 @c.eq_1))))) (And.intro (And.intro (And.intro (And.intro @Z0.eq_1 (And.intro @Z1.eq_1 @Z2.eq_1)) (And.intro @Z3.eq_1 (And.intro @Z4.eq_1 @Z5.eq_1))) (And.intro (And.intro @Z6.eq_1 (And.intro @Z7.eq_1 @Z8.eq_1)) (And.intro @Z9.eq_1 (And.intro @Z10.eq_1 @Z11.eq_1)))) (And.intro (And.intro (And.intro @Z12.eq_1 (And.intro @Z13.eq_1 @Z14.eq_1)) (And.intro @Z15.eq_1 (And.intro @Z16.eq_1 @Z17.eq_1))) (And.intro (And.intro @Z18.eq_1 (And.intro @Z19.eq_1 @Z20.eq_1)) (And.intro @Z21.eq_1 (And.intro @Z22.eq_1 @Z23.eq_1)))))) := (And.intro (And.intro (And.intro (And.intro (And.intro @o.eq_1 (And.intro @q.eq_1 @g.eq_1)) (And.intro @l.eq_1 (And.intro @m.eq_1 @f.eq_1))) (And.intro (And.intro @v.eq_1 (And.intro @u.eq_1 @k.eq_1)) (And.intro @s.eq_1 (And.intro @x.eq_1 @h.eq_1)))) (And.intro (And.intro (And.intro @w.eq_1 (And.intro @n.eq_1 @e.eq_1)) (And.intro @a.eq_1 (And.intro @b.eq_1 @r.eq_1))) (And.intro (And.intro @R.eq_1 (And.intro @j.eq_1 @y.eq_1)) (And.intro @z.eq_1 (And.intro @t.eq_1 @c.eq_1))))) (And.intro (And.intro (And.intro (And.intro @Z0.eq_1 (And.intro @Z1.eq_1 @Z2.eq_1)) (And.intro @Z3.eq_1 (And.intro @Z4.eq_1 @Z5.eq_1))) (And.intro (And.intro @Z6.eq_1 (And.intro @Z7.eq_1 @Z8.eq_1)) (And.intro @Z9.eq_1 (And.intro @Z10.eq_1 @Z11.eq_1)))) (And.intro (And.intro (And.intro @Z12.eq_1 (And.intro @Z13.eq_1 @Z14.eq_1)) (And.intro @Z15.eq_1 (And.intro @Z16.eq_1 @Z17.eq_1))) (And.intro (And.intro @Z18.eq_1 (And.intro @Z19.eq_1 @Z20.eq_1)) (And.intro @Z21.eq_1 (And.intro @Z22.eq_1 @Z23.eq_1))))))
end Go.Ab.K

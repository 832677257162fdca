/- Numbers that go round: what is computed. Layer 4: numbers that go round. Layer 4, further. Layer 4: powers. Layer 4: Exp and Inv. Layer 4: inverses. No conditions. -/
import Derived.Test.YtcjchcommaahdaaGreatQ12
import Derived.Test.YtcjchcommaahdaaGreatQ16
set_option maxRecDepth 20000
set_option maxHeartbeats 4000000
set_option linter.all false
namespace Go.Proofs.YtcjchcommaahdaaGreat
open Go.Ab
abbrev U := Fin BB
def uz : U := ⟨0, BB_pos⟩
theorem one_lt_BB : 1 < BB := by rw [BB_eq]; decide
def u1 : U := ⟨1, one_lt_BB⟩
/-- A number, made to fit. -/
def ur (k : Nat) : U := ⟨k % BB, Nat.mod_lt _ BB_pos⟩
theorem ur_val {k : Nat} (h : k < BB) : (ur k).val = k := Nat.mod_eq_of_lt h
theorem ur_of (x : U) : ur x.val = x := Fin.ext (ur_val x.isLt)
theorem ur_mod {k : Nat} {m : U} (h : 0 < m.val) : (ur (k % m.val)).val = k % m.val := ur_val (Nat.lt_trans (Nat.mod_lt _ h) m.isLt)
theorem uz_val : uz.val = 0 := rfl
theorem u1_val : u1.val = 1 := rfl
def mayM (a b m : U) : Bool := decide (1 < m.val) && (decide (a.val < m.val) && decide (b.val < m.val))
theorem mayM_iff {a b m : U} : mayM a b m = true ↔ 1 < m.val ∧ a.val < m.val ∧ b.val < m.val := by simp [mayM]
def modAdd (a b m : U) : U × Nat := if mayM a b m then (ur ((a.val + b.val) % m.val), 0) else (uz, 1)
def modSub (a b m : U) : U × Nat := if mayM a b m then (ur ((a.val + m.val - b.val) % m.val), 0) else (uz, 1)
def modMul (a b m : U) : U × Nat := if mayM a b m then (ur (a.val * b.val % m.val), 0) else (uz, 1)
/-- A power, bit by bit. -/
def pwS {α : Type} (op : α → α → α) (a one : α) (n : Nat) : Nat → α
  | 0 => one
  | k + 1 => let t := op (pwS op a one n k) (pwS op a one n k); if bitOf n (nbits n - 1 - k) = 1 then op t a else t
def pw {α : Type} (op : α → α → α) (a one : α) (n : Nat) : α := pwS op a one n (nbits n)
def modExp (a n m : U) : U × Nat := if mayM a a m then (ur (pw (fun x y => x * y % m.val) a.val 1 n.val), 0) else (uz, 1)
theorem pwS_mod {a m n : Nat} (hm : 1 < m) : ∀ k, k ≤ nbits n → pwS (fun x y => x * y % m) a 1 n k = a ^ (n / 2 ^ (nbits n - k)) % m
  | 0, _ => by
    rw [pwS, Nat.sub_zero, Nat.div_eq_of_lt (lt_nbits n), Nat.pow_zero, Nat.mod_eq_of_lt hm]
  | k + 1, h => by
    have ih := pwS_mod (a := a) (n := n) hm k (by omega)
    have ht := top_step n (nbits n) k (by omega)
    simp only [pwS]
    rw [ih, ht]
    have hb : bitOf n (nbits n - 1 - k) = n / 2 ^ (nbits n - 1 - k) % 2 := rfl
    rw [← hb]
    have hb2 : bitOf n (nbits n - 1 - k) = 0 ∨ bitOf n (nbits n - 1 - k) = 1 := by rw [hb]; omega
    rcases hb2 with h0 | h1
    · rw [h0, if_neg (by decide), Nat.add_zero, Nat.two_mul, Nat.pow_add, ← Nat.mul_mod]
    · rw [h1, if_pos rfl, Nat.pow_succ, Nat.two_mul, Nat.pow_add, ← Nat.mul_mod, Nat.mod_mul_mod]
theorem pw_mod {a m n : Nat} (hm : 1 < m) : pw (fun x y => x * y % m) a 1 n = a ^ n % m := by
  rw [pw, pwS_mod hm _ (Nat.le_refl _)]; simp
theorem pwS_lt {a m n : Nat} (hm : 1 < m) (k : Nat) : pwS (fun x y => x * y % m) a 1 n k < m := by
  cases k with
  | zero => exact hm
  | succ k => simp only [pwS]; split <;> exact Nat.mod_lt _ (by omega)

/-- What a number must be multiplied with: x times a leaves r, y times a leaves s. -/
def invGo (m : Nat) : Nat → Nat → Nat → Nat → Nat → Nat
  | 0, _, _, _, y => y
  | f + 1, r, s, x, y => if s = 1 then y else invGo m f s (r % s) y ((x + m - r / s * y % m) % m)
def modInv (a m : U) : U × Nat :=
  if mayM a a m then (if Nat.gcd a.val m.val = 1 then (ur (invGo m.val (m.val + 1) m.val a.val 0 1), 0) else (uz, 7)) else (uz, 1)

theorem add_cancel_mod {a b c m : Nat} (h : (a + c) % m = (b + c) % m) : a % m = b % m := by
  rcases Nat.eq_zero_or_pos m with h0 | h0
  · subst h0; simp only [Nat.mod_zero] at h ⊢; omega
  · have e : ∀ t, (t + c + c * (m - 1)) % m = t % m := by
      intro t
      have : t + c + c * (m - 1) = t + c * m := by
        obtain ⟨k, rfl⟩ : ∃ k, m = k + 1 := ⟨m - 1, by omega⟩
        rw [Nat.add_sub_cancel, Nat.mul_succ]; omega
      rw [this, Nat.add_mul_mod_self_right]
    rw [← e a, ← e b, Nat.add_mod, h, ← Nat.add_mod]
/-- The state at the head of Euclid's loop. -/
structure InvAt (a m r s x y : Nat) : Prop where
  m1 : 1 < m
  x1 : x < m
  y1 : y < m
  r1 : r ≤ m
  s1 : 0 < s
  sr : s < r
  g : Nat.gcd r s = 1
  ex : x * a % m = r % m
  ey : y * a % m = s % m
theorem InvAt.start {a m : Nat} (hm : 1 < m) (ha : a < m) (hg : Nat.gcd a m = 1) : InvAt a m m a 0 1 := by
  refine ⟨hm, by omega, hm, Nat.le_refl _, ?_, ha, by rw [Nat.gcd_comm]; exact hg, by simp, by simp⟩
  rcases Nat.eq_zero_or_pos a with h | h
  · subst h; rw [Nat.gcd_zero_left] at hg; omega
  · exact h
theorem InvAt.next {a m r s x y : Nat} (h : InvAt a m r s x y) (hs : s ≠ 1) : InvAt a m s (r % s) y ((x + m - r / s * y % m) % m) := by
  have hm := h.m1
  have hq : r / s * y % m < m := Nat.mod_lt _ (by omega)
  have hg : Nat.gcd s (r % s) = 1 := by rw [← h.g, Nat.gcd_comm r s, Nat.gcd_rec s r, Nat.gcd_comm]
  refine ⟨hm, h.y1, Nat.mod_lt _ (by omega), Nat.le_trans (Nat.le_of_lt h.sr) h.r1, ?_, Nat.mod_lt _ h.s1, hg, h.ey, ?_⟩
  · rcases Nat.eq_zero_or_pos (r % s) with h0 | h0
    · rw [h0, Nat.gcd_zero_right] at hg; omega
    · exact h0
  · -- z a = x a - q y a = r - q s
    have e0 := Nat.div_add_mod r s
    have hz : ((x + m - r / s * y % m) % m * a + r / s * (y * a)) % m = x * a % m := by
      rw [Nat.add_mod, Nat.mod_mul_mod]
      have e1 : r / s * (y * a) % m = r / s * y % m * a % m := by rw [← Nat.mul_assoc, Nat.mod_mul_mod]
      rw [e1, ← Nat.add_mod, ← Nat.add_mul, show x + m - r / s * y % m + r / s * y % m = x + m by omega, Nat.add_mul, Nat.add_mul_mod_self_left]
    have hy : r / s * (y * a) % m = r / s * s % m := by rw [Nat.mul_mod, h.ey, ← Nat.mul_mod]
    have h2 : ((x + m - r / s * y % m) % m * a + r / s * s) % m = r % m := by
      rw [Nat.add_mod, ← hy, ← Nat.add_mod, hz, h.ex]
    have h3 : ((x + m - r / s * y % m) % m * a + r / s * s) % m = (r % s + r / s * s) % m := by
      rw [h2]; congr 1; rw [Nat.mul_comm]; omega
    have h4 := add_cancel_mod h3
    exact h4
end Go.Proofs.YtcjchcommaahdaaGreat
namespace Go.Proofs.YtcjchcommaahdaaGreat
open Go.Ab

/-- A number, and an error's number. -/
def RV (p : U × Nat) : Value := .tuple #[N p.1.val, .int .i64 (p.2 : Nat)]
theorem low_func {n : Nat} {g : FuncId} {cap : List Value} (h : LowL n cap) : Low n (.func (.func g) #[] ⟨cap⟩) := by
  intro ρ ρ' v' hr h'
  simp only [VRel, ARel, LRel] at h' ⊢
  obtain ⟨fn', f', c', h1, h2, h3, h4⟩ := h'
  exact ⟨fn', f', c', h1, h2, h3, h _ _ _ hr h4⟩

theorem mods_word (a b m : Nat) (ha : a < m) (hb : b < m) (hm : m < B) (H : Heap) (n : Nat) : ACall Tryz.prog 98 [.int .u64 (a : Nat), .int .u64 (b : Nat), .int .u64 (m : Nat)] H n (Ret (.int .u64 (a * b % m : Nat)) H n) := by
  refine acall_retF mix lw Tryz.func98 ok98 (fun _ _ => Tryz.call98 _ _) rfl ?_
  have haB : a < B := Nat.lt_trans ha hm
  have hbB : b < B := Nat.lt_trans hb hm
  have hhi : a * b / B < m := by
    rw [Nat.div_lt_iff_lt_mul B_pos]
    exact Nat.lt_of_le_of_lt (Nat.mul_le_mul_left a (Nat.le_of_lt hbB)) (Nat.mul_lt_mul_of_pos_right ha B_pos)
  have he : a * b / B * B + a * b % B = a * b := by rw [Nat.mul_comm]; exact Nat.div_add_mod _ _
  refine wk1 @c98.eq_1 ?_
  refine AGo_askV (mul64 a b haB hbB _ _) ?_
  refine wk0 ?_
  refine AGo_askV (div64 (a * b / B) (a * b % B) m hhi (Nat.mod_lt _ B_pos) hm _ _) ?_
  refine wk1 @he ?_
  exact ⟨rfl, agr⟩

theorem mods_times (a b m : Nat) (ha : a < m) (hb : b < m) (hm : m < BB) (H : Heap) (n : Nat) : ACall Tryz.prog 91 [N a, N b, N m] H n (Ret (N (a * b % m)) H n) := by
  refine acall_retF mix lw Tryz.func91 ok91 (fun _ _ => Tryz.call91 _ _) rfl ?_
  have haB : a < BB := Nat.lt_trans ha hm
  have hbB : b < BB := Nat.lt_trans hb hm
  have hm0 : m ≠ 0 := by omega
  have e : decide (nbits m ≤ 64) = decide (m < B) := by rw [B_pow]; exact decide_eq_decide.2 nbits_le
  by_cases h : m < B
  · obtain ⟨s0, -⟩ := w_small h
    obtain ⟨sa, -⟩ := w_small (Nat.lt_trans ha h)
    obtain ⟨sb, -⟩ := w_small (Nat.lt_trans hb h)
    refine wk2 @c91.eq_1 rN ?_
    refine AGo_askV (limbs_Bits m hm _ _) ?_
    refine wk3 rN @e @h ?_
    rw [s0, sa, sb]
    refine AGo_askV (mods_word a b m ha hb h _ _) ?_
    refine wk0 ?_
    refine AGo_askV (limbs_Of (a * b % m) (Nat.lt_trans (Nat.mod_lt _ (by omega)) h) _ _) ?_
    refine wk1 rN ?_
    exact ⟨rfl, agr⟩
  · refine wk2 @c91.eq_1 rN ?_
    refine AGo_askV (limbs_Bits m hm _ _) ?_
    refine wk3 rN @e @h ?_
    refine AGo_askV (limbs_Mul a b haB hbB _ _) ?_
    refine wk1 rN ?_
    refine AGo_askV (wide_any (a * b % BB) (a * b / BB) m (Nat.mod_lt _ BB_pos) ((Nat.div_lt_iff_lt_mul BB_pos).2 (Nat.mul_lt_mul_of_lt_of_lt haB hbB)) hm hm0 _ _) ?_
    refine wk1 rN ?_
    rw [show a * b / BB * BB + a * b % BB = a * b by rw [Nat.mul_comm]; exact Nat.div_add_mod _ _]
    exact ⟨rfl, agr⟩
end Go.Proofs.YtcjchcommaahdaaGreat
namespace Go.Proofs.YtcjchcommaahdaaGreat
open Go.Ab

theorem deed_no (g : FuncId) (cap : Array Value) (a b m : U) (h : mayM a b m = false) (H : Heap) (n : Nat) : ACall Tryz.prog 92 [.agg #[.func (.func g) #[] cap], N a.val, N b.val, N m.val] H n (Ret (RV (uz, 1)) H n) := by
  refine acall_retF mix lw Tryz.func92 ok92 (fun _ _ => Tryz.call92 _ _) rfl ?_
  have bbp := BB_pos
  have ob := one_lt_BB
  have h1B : 1 < B := by rw [B_eq]; decide
  have ha := a.isLt; have hb := b.isLt; have hm := m.isLt
  have hc : m.val ≤ 1 ∨ (¬ m.val ≤ 1 ∧ m.val ≤ a.val) ∨ (¬ m.val ≤ 1 ∧ ¬ m.val ≤ a.val ∧ m.val ≤ b.val) := by
    have h' : ¬ (1 < m.val ∧ a.val < m.val ∧ b.val < m.val) := fun hh => by rw [mayM_iff.2 hh] at h; cases h
    omega
  clear h
  generalize a.val = x at *; generalize b.val = y at *; generalize m.val = z at *
  rcases hc with h1 | ⟨h1, h2⟩ | ⟨h1, h2, h3⟩
  · refine wk4 @c92.eq_1 rN @RV.eq_1 @uz_val ?_
    repeat (first | (refine AGo_askV (limbs_Of 1 h1B _ _ ) ?_; refine wk4 rN @cmp_leq @cmp_geq @h1 ?_) | (refine AGo_askV (limbs_Cmp z 1 hm ob _ _ ) ?_; refine wk4 rN @cmp_leq @cmp_geq @h1 ?_))
    exact ⟨rfl, agr⟩
  · refine wk4 @c92.eq_1 rN @RV.eq_1 @uz_val ?_
    repeat (first | (refine AGo_askV (limbs_Of 1 h1B _ _ ) ?_; refine wk5 rN @cmp_leq @cmp_geq @h1 @h2 ?_) | (refine AGo_askV (limbs_Cmp z 1 hm ob _ _ ) ?_; refine wk5 rN @cmp_leq @cmp_geq @h1 @h2 ?_) | (refine AGo_askV (limbs_Cmp x z ha hm _ _ ) ?_; refine wk5 rN @cmp_leq @cmp_geq @h1 @h2 ?_))
    exact ⟨rfl, agr⟩
  · refine wk4 @c92.eq_1 rN @RV.eq_1 @uz_val ?_
    repeat (first | (refine AGo_askV (limbs_Of 1 h1B _ _ ) ?_; refine wk6 rN @cmp_leq @cmp_geq @h1 @h2 @h3 ?_) | (refine AGo_askV (limbs_Cmp z 1 hm ob _ _ ) ?_; refine wk6 rN @cmp_leq @cmp_geq @h1 @h2 @h3 ?_) | (refine AGo_askV (limbs_Cmp x z ha hm _ _ ) ?_; refine wk6 rN @cmp_leq @cmp_geq @h1 @h2 @h3 ?_) | (refine AGo_askV (limbs_Cmp y z hb hm _ _ ) ?_; refine wk6 rN @cmp_leq @cmp_geq @h1 @h2 @h3 ?_))
    exact ⟨rfl, agr⟩
theorem deed_ok (H : Heap) (n : Nat) (g : FuncId) (cap : Array Value) (a b m v : U) (h : mayM a b m = true) (hdo : ∀ H' n', Agree n H H' → n ≤ n' → ACall Tryz.prog g ((#[] : Array Value).toList ++ [N a.val, N b.val, N m.val] ++ cap.toList) H' n' (Ret (N v.val) H' n')) : ACall Tryz.prog 92 [.agg #[.func (.func g) #[] cap], N a.val, N b.val, N m.val] H n (Ret (RV (v, 0)) H n) := by
  refine acall_retF mix lw Tryz.func92 ok92 (fun _ _ => Tryz.call92 _ _) rfl ?_
  have bbp := BB_pos
  have ob := one_lt_BB
  have h1B : 1 < B := by rw [B_eq]; decide
  have ha := a.isLt; have hb := b.isLt; have hm := m.isLt
  obtain ⟨g1, g2, g3⟩ := mayM_iff.1 h
  have h1 := Nat.not_le.2 g1; have h2 := Nat.not_le.2 g2; have h3 := Nat.not_le.2 g3
  refine wk4 @c92.eq_1 rN @RV.eq_1 @uz_val ?_
  repeat (first | (refine AGo_askV (limbs_Of 1 h1B _ _ ) ?_; refine wk6 rN @cmp_leq @cmp_geq @h1 @h2 @h3 ?_) | (refine AGo_askV (limbs_Cmp m.val 1 hm ob _ _ ) ?_; refine wk6 rN @cmp_leq @cmp_geq @h1 @h2 @h3 ?_) | (refine AGo_askV (limbs_Cmp a.val m.val ha hm _ _ ) ?_; refine wk6 rN @cmp_leq @cmp_geq @h1 @h2 @h3 ?_) | (refine AGo_askV (limbs_Cmp b.val m.val hb hm _ _ ) ?_; refine wk6 rN @cmp_leq @cmp_geq @h1 @h2 @h3 ?_))
  refine AGo_askV (hdo _ _ agr (by omega)) ?_
  refine wk1 rN ?_
  exact ⟨rfl, agr⟩

theorem add_cases {a b m : Nat} (ha : a < m) (hb : b < m) (hm : m < BB) : ∃ X d, (a + b) % BB = X ∧ (a + b) / BB = d ∧ X < BB ∧
    ((d = 1 ∧ (X + BB - m) % BB = (a + b) % m) ∨ (d = 0 ∧ ¬ X < m ∧ (X + BB - m) % BB = (a + b) % m) ∨ (d = 0 ∧ X < m ∧ X = (a + b) % m)) := by
  by_cases h1 : BB ≤ a + b
  · refine ⟨_, _, rfl, rfl, Nat.mod_lt _ BB_pos, .inl ⟨?_, ?_⟩⟩
    · rw [show a + b = (a + b - BB) + BB * 1 by omega, Nat.add_mul_div_left _ _ BB_pos, Nat.div_eq_of_lt (by omega)]
    · rw [Nat.mod_eq_sub_mod h1, Nat.mod_eq_of_lt (show a + b - BB < BB by omega), Nat.mod_eq_of_lt (show a + b - BB + BB - m < BB by omega), Nat.mod_eq_sub_mod (show m ≤ a + b by omega), Nat.mod_eq_of_lt (by omega)]; omega
  · refine ⟨_, _, rfl, rfl, Nat.mod_lt _ BB_pos, .inr ?_⟩
    rw [Nat.mod_eq_of_lt (show a + b < BB by omega), Nat.div_eq_of_lt (show a + b < BB by omega)]
    by_cases h2 : a + b < m
    · exact .inr ⟨rfl, h2, (Nat.mod_eq_of_lt h2).symm⟩
    · refine .inl ⟨rfl, h2, ?_⟩
      rw [show a + b + BB - m = (a + b - m) + BB by omega, Nat.add_mod_right, Nat.mod_eq_of_lt (by omega), Nat.mod_eq_sub_mod (by omega), Nat.mod_eq_of_lt (by omega)]
theorem add_do (a b m : Nat) (ha : a < m) (hb : b < m) (hm : m < BB) (H : Heap) (n : Nat) : ACall Tryz.prog 128 [N a, N b, N m] H n (Ret (N ((a + b) % m)) H n) := by
  refine acall_retF mix lw Tryz.func128 ok128 (fun _ _ => Tryz.call128 _ _) rfl ?_
  have bbp := BB_pos
  obtain ⟨X, d, hX, hd, hXB, hc⟩ := add_cases ha hb hm
  generalize hq : (a + b) % m = q at *
  refine wk2 @c128.eq_1 rN ?_
  refine AGo_askV (limbs_Add a b (Nat.lt_trans ha hm) (Nat.lt_trans hb hm) _ _) ?_
  refine wk3 rN @hX @hd ?_
  refine AGo_askV (limbs_Sub X m hXB hm _ _) ?_
  refine wk1 rN ?_
  rcases hc with ⟨rfl, h1⟩ | ⟨rfl, h0, h1⟩ | ⟨rfl, h0, h1⟩
  · refine wk2 rN @h1 ?_
    exact ⟨rfl, agr⟩
  · refine wk3 rN @h0 @h1 ?_
    exact ⟨rfl, agr⟩
  · refine wk2 rN @h0 ?_
    rw [h1]
    exact ⟨rfl, agr⟩
theorem sub_do (a b m : Nat) (ha : a < m) (hb : b < m) (hm : m < BB) (H : Heap) (n : Nat) : ACall Tryz.prog 135 [N a, N b, N m] H n (Ret (N ((a + m - b) % m)) H n) := by
  refine acall_retF mix lw Tryz.func135 ok135 (fun _ _ => Tryz.call135 _ _) rfl ?_
  have bbp := BB_pos
  have hXB : (a + BB - b) % BB < BB := Nat.mod_lt _ bbp
  generalize hX : (a + BB - b) % BB = X at *
  by_cases h : a < b
  · have e : (X + m) % BB = (a + m - b) % m := by
      rw [Nat.mod_eq_of_lt (show a + m - b < m by omega), ← hX, Nat.mod_eq_of_lt (show a + BB - b < BB by omega), show a + BB - b + m = (a + m - b) + BB by omega, Nat.add_mod_right, Nat.mod_eq_of_lt (by omega)]
    refine wk2 @c135.eq_1 rN ?_
    refine AGo_askV (limbs_Sub a b (Nat.lt_trans ha hm) (Nat.lt_trans hb hm) _ _) ?_
    refine wk3 rN @hX @h ?_
    refine AGo_askV (limbs_Add X m hXB hm _ _) ?_
    refine wk2 rN @e ?_
    exact ⟨rfl, agr⟩
  · have e : X = (a + m - b) % m := by
      rw [← hX, show a + BB - b = (a - b) + BB by omega, show a + m - b = (a - b) + m by omega, Nat.add_mod_right, Nat.add_mod_right, Nat.mod_eq_of_lt (show a - b < BB by omega), Nat.mod_eq_of_lt (show a - b < m by omega)]
    refine wk2 @c135.eq_1 rN ?_
    refine AGo_askV (limbs_Sub a b (Nat.lt_trans ha hm) (Nat.lt_trans hb hm) _ _) ?_
    refine wk3 rN @hX @h ?_
    rw [e]
    exact ⟨rfl, agr⟩
theorem mods_Add (a b m : U) (H : Heap) (n : Nat) : ACall Tryz.prog 86 [N a.val, N b.val, N m.val] H n (Ret (RV (modAdd a b m)) H n) := by
  refine acall_retF mix lw Tryz.func86 ok86 (fun _ _ => Tryz.call86 _ _) rfl ?_
  cases h : mayM a b m with
  | true =>
    obtain ⟨g1, g2, g3⟩ := mayM_iff.1 h
    have hv : (ur ((a.val + b.val) % m.val)).val = (a.val + b.val) % m.val := ur_mod (by omega)
    rw [show modAdd a b m = (ur ((a.val + b.val) % m.val), 0) by rw [modAdd, if_pos h]]
    refine wk2 @c86.eq_1 rN ?_
    refine AGo_askV (deed_ok _ _ 128 #[] a b m (ur ((a.val + b.val) % m.val)) h (fun H' n' _ _ => by rw [hv]; exact add_do _ _ _ g2 g3 m.isLt H' n')) ?_
    refine wk2 rN @RV.eq_1 ?_
    exact ⟨rfl, agr⟩
  | false =>
    rw [show modAdd a b m = (uz, 1) by rw [modAdd, h]; rfl]
    refine wk2 @c86.eq_1 rN ?_
    refine AGo_askV (deed_no 128 #[] a b m h _ _) ?_
    refine wk2 rN @RV.eq_1 ?_
    exact ⟨rfl, agr⟩
theorem mods_Sub (a b m : U) (H : Heap) (n : Nat) : ACall Tryz.prog 90 [N a.val, N b.val, N m.val] H n (Ret (RV (modSub a b m)) H n) := by
  refine acall_retF mix lw Tryz.func90 ok90 (fun _ _ => Tryz.call90 _ _) rfl ?_
  cases h : mayM a b m with
  | true =>
    obtain ⟨g1, g2, g3⟩ := mayM_iff.1 h
    have hv : (ur ((a.val + m.val - b.val) % m.val)).val = (a.val + m.val - b.val) % m.val := ur_mod (by omega)
    rw [show modSub a b m = (ur ((a.val + m.val - b.val) % m.val), 0) by rw [modSub, if_pos h]]
    refine wk2 @c90.eq_1 rN ?_
    refine AGo_askV (deed_ok _ _ 135 #[] a b m (ur ((a.val + m.val - b.val) % m.val)) h (fun H' n' _ _ => by rw [hv]; exact sub_do _ _ _ g2 g3 m.isLt H' n')) ?_
    refine wk2 rN @RV.eq_1 ?_
    exact ⟨rfl, agr⟩
  | false =>
    rw [show modSub a b m = (uz, 1) by rw [modSub, h]; rfl]
    refine wk2 @c90.eq_1 rN ?_
    refine AGo_askV (deed_no 135 #[] a b m h _ _) ?_
    refine wk2 rN @RV.eq_1 ?_
    exact ⟨rfl, agr⟩
theorem mods_Mul (a b m : U) (H : Heap) (n : Nat) : ACall Tryz.prog 104 [N a.val, N b.val, N m.val] H n (Ret (RV (modMul a b m)) H n) := by
  refine acall_retF mix lw Tryz.func104 ok104 (fun _ _ => Tryz.call104 _ _) rfl ?_
  cases h : mayM a b m with
  | true =>
    obtain ⟨g1, g2, g3⟩ := mayM_iff.1 h
    have hv : (ur (a.val * b.val % m.val)).val = a.val * b.val % m.val := ur_mod (by omega)
    rw [show modMul a b m = (ur (a.val * b.val % m.val), 0) by rw [modMul, if_pos h]]
    refine wk2 @c104.eq_1 rN ?_
    refine AGo_askV (deed_ok _ _ 91 #[] a b m (ur (a.val * b.val % m.val)) h (fun H' n' _ _ => by rw [hv]; exact mods_times _ _ _ g2 g3 m.isLt H' n')) ?_
    refine wk2 rN @RV.eq_1 ?_
    exact ⟨rfl, agr⟩
  | false =>
    rw [show modMul a b m = (uz, 1) by rw [modMul, h]; rfl]
    refine wk2 @c104.eq_1 rN ?_
    refine AGo_askV (deed_no 91 #[] a b m h _ _) ?_
    refine wk2 rN @RV.eq_1 ?_
    exact ⟨rfl, agr⟩
end Go.Proofs.YtcjchcommaahdaaGreat
namespace Go.Proofs.YtcjchcommaahdaaGreat
open Go.Ab

theorem pwS_in {α : Type} {op : α → α → α} {S : α → Prop} {a one : α} (ha : S a) (h1 : S one) (hop : ∀ x y, S x → S y → S (op x y)) (n : Nat) : ∀ k, S (pwS op a one n k)
  | 0 => h1
  | k + 1 => by
    have ih := pwS_in ha h1 hop n k
    simp only [pwS]
    split
    · exact hop _ _ (hop _ _ ih ih) ha
    · exact hop _ _ ih ih
theorem power64 (H : Heap) (n : Nat) (g : FuncId) (cap : Array Value) (op : Nat → Nat → Nat) (S : Nat → Prop) (a one e : Nat) (he : e < BB) (ha : S a) (h1 : S one) (hop : ∀ x y, S x → S y → S (op x y)) (hdo : ∀ x y, S x → S y → ∀ H' n', Agree n H H' → n ≤ n' → ACall Tryz.prog g ((#[] : Array Value).toList ++ [.int .u64 (x : Nat), .int .u64 (y : Nat)] ++ cap.toList) H' n' (Ret (.int .u64 (op x y : Nat)) H' n')) : ACall Tryz.prog 96 [.int .u64 (a : Nat), .int .u64 (one : Nat), N e, .func (.func g) #[] cap] H n (Ret (.int .u64 (pw op a one e : Nat)) H n) := by
  refine acall_retF mix lw Tryz.func96 ok96 (fun _ _ => Tryz.call96 _ _) rfl ?_
  have bbp := BB_pos
  have hin := pwS_in ha h1 hop e
  have hnb : nbits e ≤ 256 := nbits_le.2 (by rw [← BB_pow]; exact he)
  refine wk2 @c96.eq_1 rN ?_
  refine AGo_askV (limbs_Bits e he _ _) ?_
  refine wk1 rN ?_
  unfold pw
  refine AGo_cycleD (α := Nat) 15 34 (fun k => [(14, .int .i64 (k : Nat)), (9, .int .u64 (pwS op a one e k : Nat))]) (fun k H' n' => k ≤ nbits e ∧ n + 1 ≤ n' ∧ Agree n H H' ∧ H' n = some (.cells (vcells (N e)) 24 (0, 0))) (fun k H' n' => k = nbits e ∧ Agree n H H') (fun k => nbits e - k) (0) ?_ (by simp only [pwS, subs_nil, subs_if, lk_if, lk_nil, dropR_nil, dropR_cons, Nat.reduceLT, List.cons_append, List.nil_append, List.elem_nil, List.elem_cons, Nat.reduceBEq, beq_self_eq_true, Bool.true_or, Bool.false_or, Bool.or_true, Bool.or_false, Bool.false_eq_true, ↓reduceIte, if_true, if_false, Nat.reduceEqDiff, and_self, and_true, true_and, eq_self]) ?_ ?_
  · refine ⟨Nat.zero_le _, by omega, agr, ?_⟩
    simp (disch := first | assumption | omega) only [upd_same, upd_neq, vcells_N, w_zero]
  · rintro k H' n' kk ⟨hk, hn, hA, f0⟩ hK hS
    simp only [List.cons_append, List.nil_append, dropR_nil, dropR_cons, Nat.reduceLT, ↓reduceIte]
    simp only [vcells_N] at f0
    by_cases hlt : k < nbits e
    · have hi : nbits e - 1 - k < 256 := by omega
      refine AGo_turn ?_
      refine wk3 rN @f0 @hlt ?_
      refine AGo_askV (hdo _ _ (hin k) (hin k) _ _ agr (by omega)) ?_
      refine wk2 rN @f0 ?_
      refine AGo_askV (limbs_Bits e he _ _) ?_
      refine wk2 rN @f0 ?_
      refine AGo_askV (limbs_Bit e (nbits e - 1 - k) he hi _ _) ?_
      refine wk2 rN @f0 ?_
      by_cases hb : bitOf e (nbits e - 1 - k) = 1
      · refine wk2 @hb @f0 ?_
        refine AGo_askV (hdo _ _ (hop _ _ (hin k) (hin k)) ha _ _ agr (by omega)) ?_
        refine wk1 @f0 ?_
        refine AGo_le ?_ (hS (k + 1) _ _ ⟨by omega, by omega, agr, ?_⟩ (by omega))
        · simp only [pwS, hb, if_true, subs_nil, subs_if, lk_if, lk_nil, dropR_nil, dropR_cons, Nat.reduceLT, List.cons_append, List.nil_append, List.elem_nil, List.elem_cons, Nat.reduceBEq, beq_self_eq_true, Bool.true_or, Bool.false_or, Bool.or_true, Bool.or_false, Bool.false_eq_true, ↓reduceIte, if_true, if_false, Nat.reduceEqDiff, and_self, and_true, true_and, eq_self]
        · exact up1 @f0
      · refine wk2 @hb @f0 ?_
        refine AGo_le ?_ (hS (k + 1) _ _ ⟨by omega, by omega, agr, ?_⟩ (by omega))
        · simp only [pwS, hb, if_false, subs_nil, subs_if, lk_if, lk_nil, dropR_nil, dropR_cons, Nat.reduceLT, List.cons_append, List.nil_append, List.elem_nil, List.elem_cons, Nat.reduceBEq, beq_self_eq_true, Bool.true_or, Bool.false_or, Bool.or_true, Bool.or_false, Bool.false_eq_true, ↓reduceIte, if_true, if_false, Nat.reduceEqDiff, and_self, and_true, true_and, eq_self]
        · exact up1 @f0
    · refine AGo_turn ?_
      refine wk3 rN @f0 @hlt ?_
      refine AGo_markL ?_ (hK k _ _ ⟨by omega, agr⟩)
      · simp only [subs_nil, subs_if, lk_if, lk_nil, dropR_nil, dropR_cons, Nat.reduceLT, List.cons_append, List.nil_append, List.elem_nil, List.elem_cons, Nat.reduceBEq, beq_self_eq_true, Bool.true_or, Bool.false_or, Bool.or_true, Bool.or_false, Bool.false_eq_true, ↓reduceIte, if_true, if_false, Nat.reduceEqDiff, and_self, and_true, true_and, eq_self]
  rintro k H' n' ⟨rfl, hA⟩
  simp only [List.cons_append, List.nil_append, dropR_nil, dropR_cons, Nat.reduceLT, ↓reduceIte]
  refine wk1 rN ?_
  exact ⟨rfl, agr⟩
theorem powerN (H : Heap) (n : Nat) (g : FuncId) (cap : Array Value) (op : Nat → Nat → Nat) (S : Nat → Prop) (a one e : Nat) (he : e < BB) (ha : S a) (h1 : S one) (hop : ∀ x y, S x → S y → S (op x y)) (hdo : ∀ x y, S x → S y → ∀ H' n', Agree n H H' → n ≤ n' → ACall Tryz.prog g ((#[] : Array Value).toList ++ [N x, N y] ++ cap.toList) H' n' (Ret (N (op x y)) H' n')) : ACall Tryz.prog 99 [N a, N one, N e, .func (.func g) #[] cap] H n (Ret (N (pw op a one e)) H n) := by
  refine acall_retF mix lw Tryz.func99 ok99 (fun _ _ => Tryz.call99 _ _) rfl ?_
  have bbp := BB_pos
  have hin := pwS_in ha h1 hop e
  have hnb : nbits e ≤ 256 := nbits_le.2 (by rw [← BB_pow]; exact he)
  refine wk2 @c99.eq_1 rN ?_
  refine AGo_askV (limbs_Bits e he _ _) ?_
  refine wk1 rN ?_
  unfold pw
  refine AGo_cycleD (α := Nat) 15 34 (fun k => [(14, .int .i64 (k : Nat))]) (fun k H' n' => k ≤ nbits e ∧ n + 6 ≤ n' ∧ Agree n H H' ∧ H' n = some (.cells (vcells (N a)) 24 (0, 0)) ∧ H' (n + 2) = some (.cells (vcells (N e)) 24 (0, 0)) ∧ H' (n + 3) = some (.cells (vcells (N 0)) 24 (0, 0)) ∧ H' (n + 5) = some (.cells (vcells (N (pwS op a one e k))) 24 (0, 0))) (fun k H' n' => n + 6 ≤ n' ∧ Agree n H H' ∧ H' (n + 3) = some (.cells (vcells (N 0)) 24 (0, 0)) ∧ H' (n + 5) = some (.cells (vcells (N (pwS op a one e (nbits e)))) 24 (0, 0))) (fun k => nbits e - k) (0) ?_ (by simp only [subs_nil, subs_if, lk_if, lk_nil, dropR_nil, dropR_cons, Nat.reduceLT, List.cons_append, List.nil_append, List.elem_nil, List.elem_cons, Nat.reduceBEq, beq_self_eq_true, Bool.true_or, Bool.false_or, Bool.or_true, Bool.or_false, Bool.false_eq_true, ↓reduceIte, if_true, if_false, Nat.reduceEqDiff, and_self, and_true, true_and, eq_self]) ?_ ?_
  · refine ⟨Nat.zero_le _, by omega, agr, ?_, ?_, ?_, ?_⟩
    · exact up0
    · exact up0
    · exact up0
    · simp (disch := first | assumption | omega) only [pwS, upd_same, upd_neq, vcells_N, w_zero]
  · rintro k H' n' kk ⟨hk, hn, hA, f0, f2, f3, f5⟩ hK hS
    simp only [List.cons_append, List.nil_append, dropR_nil, dropR_cons, Nat.reduceLT, ↓reduceIte]
    simp only [vcells_N] at f0 f2 f3 f5
    by_cases hlt : k < nbits e
    · have hi : nbits e - 1 - k < 256 := by omega
      refine AGo_turn ?_
      refine wk6 rN @f0 @f2 @f3 @f5 @hlt ?_
      refine AGo_askV (hdo _ _ (hin k) (hin k) _ _ agr (by omega)) ?_
      refine wk5 rN @f0 @f2 @f3 @f5 ?_
      refine AGo_askV (limbs_Bits e he _ _) ?_
      refine wk5 rN @f0 @f2 @f3 @f5 ?_
      refine AGo_askV (limbs_Bit e (nbits e - 1 - k) he hi _ _) ?_
      refine wk5 rN @f0 @f2 @f3 @f5 ?_
      by_cases hb : bitOf e (nbits e - 1 - k) = 1
      · refine wk6 @hb rN @f0 @f2 @f3 @f5 ?_
        refine AGo_askV (hdo _ _ (hop _ _ (hin k) (hin k)) ha _ _ agr (by omega)) ?_
        refine wk5 rN @f0 @f2 @f3 @f5 ?_
        refine AGo_le ?_ (hS (k + 1) _ _ ⟨by omega, by omega, agr, ?_, ?_, ?_, ?_⟩ (by omega))
        · simp only [subs_nil, subs_if, lk_if, lk_nil, dropR_nil, dropR_cons, Nat.reduceLT, List.cons_append, List.nil_append, List.elem_nil, List.elem_cons, Nat.reduceBEq, beq_self_eq_true, Bool.true_or, Bool.false_or, Bool.or_true, Bool.or_false, Bool.false_eq_true, ↓reduceIte, if_true, if_false, Nat.reduceEqDiff, and_self, and_true, true_and, eq_self]
        · exact up1 @f0
        · exact up1 @f2
        · exact up1 @f3
        · simp (disch := first | assumption | omega) only [pwS, hb, if_true, upd_same, upd_neq, vcells_N, w_zero]
      · refine wk6 @hb rN @f0 @f2 @f3 @f5 ?_
        refine AGo_le ?_ (hS (k + 1) _ _ ⟨by omega, by omega, agr, ?_, ?_, ?_, ?_⟩ (by omega))
        · simp only [subs_nil, subs_if, lk_if, lk_nil, dropR_nil, dropR_cons, Nat.reduceLT, List.cons_append, List.nil_append, List.elem_nil, List.elem_cons, Nat.reduceBEq, beq_self_eq_true, Bool.true_or, Bool.false_or, Bool.or_true, Bool.or_false, Bool.false_eq_true, ↓reduceIte, if_true, if_false, Nat.reduceEqDiff, and_self, and_true, true_and, eq_self]
        · exact up1 @f0
        · exact up1 @f2
        · exact up1 @f3
        · simp (disch := first | assumption | omega) only [pwS, hb, if_false, upd_same, upd_neq, vcells_N, w_zero]
    · have hkk : k = nbits e := by omega
      subst hkk
      refine AGo_turn ?_
      refine wk6 rN @f0 @f2 @f3 @f5 @hlt ?_
      refine AGo_markL ?_ (hK (nbits e) _ _ ⟨by omega, agr, ?_, ?_⟩)
      · simp only [subs_nil, subs_if, lk_if, lk_nil, dropR_nil, dropR_cons, Nat.reduceLT, List.cons_append, List.nil_append, List.elem_nil, List.elem_cons, Nat.reduceBEq, beq_self_eq_true, Bool.true_or, Bool.false_or, Bool.or_true, Bool.or_false, Bool.false_eq_true, ↓reduceIte, if_true, if_false, Nat.reduceEqDiff, and_self, and_true, true_and, eq_self]
      · exact up1 @f3
      · exact up1 @f5
  rintro k H' n' ⟨hn, hA, f3, f5⟩
  simp only [List.cons_append, List.nil_append, dropR_nil, dropR_cons, Nat.reduceLT, ↓reduceIte]
  simp only [vcells_N] at f3 f5
  refine wk3 rN @f3 @f5 ?_
  exact ⟨rfl, agr⟩
end Go.Proofs.YtcjchcommaahdaaGreat
namespace Go.Proofs.YtcjchcommaahdaaGreat
open Go.Ab

theorem exp_w (H : Heap) (n : Nat) (x y m bm : Nat) (hx : x < m) (hy : y < m) (hm : m < B) (hb : H bm = some (.cells (vcells (N m)) 24 (0, 0))) : ACall Tryz.prog 97 [.int .u64 (x : Nat), .int .u64 (y : Nat), .pointer (some ⟨bm, 0, none⟩)] H n (Ret (.int .u64 (x * y % m : Nat)) H n) := by
  refine acall_retF mix lw Tryz.func97 ok97 (fun _ _ => Tryz.call97 _ _) rfl ?_
  obtain ⟨s0, -⟩ := w_small hm
  simp only [vcells_N] at hb
  refine wk3 @c97.eq_1 @hb @s0 ?_
  refine AGo_askV (mods_word x y m hx hy hm _ _) ?_
  refine wk0 ?_
  exact ⟨rfl, agr⟩
theorem exp_n (H : Heap) (n : Nat) (x y m bm : Nat) (hx : x < m) (hy : y < m) (hm : m < BB) (hbn : bm < n) (hb : H bm = some (.cells (vcells (N m)) 24 (0, 0))) : ACall Tryz.prog 100 [N x, N y, .pointer (some ⟨bm, 0, none⟩)] H n (Ret (N (x * y % m)) H n) := by
  refine acall_retF mix lw Tryz.func100 ok100 (fun _ _ => Tryz.call100 _ _) rfl ?_
  simp only [vcells_N] at hb
  refine wk3 @c100.eq_1 rN @hb ?_
  refine AGo_askV (mods_times x y m hx hy hm _ _) ?_
  refine wk1 rN ?_
  exact ⟨rfl, agr⟩
theorem exp_do (H : Heap) (n : Nat) (a b m e bn : Nat) (ha : a < m) (h1 : 1 < m) (hm : m < BB) (he : e < BB) (hbn : bn < n) (hb : H bn = some (.cells (vcells (N e)) 24 (0, 0))) : ACall Tryz.prog 94 [N a, N b, N m, .pointer (some ⟨bn, 0, none⟩)] H n (Ret (N (pw (fun x y => x * y % m) a 1 e)) H n) := by
  refine acall_retF mix lw Tryz.func94 ok94 (fun _ _ => Tryz.call94 _ _) rfl ?_
  have bbp := BB_pos
  have hl : ∀ x y, x < m → y < m → x * y % m < m := fun x y _ _ => Nat.mod_lt _ (by omega)
  have hpw : pw (fun x y => x * y % m) a 1 e < m := pwS_lt h1 _
  have e0 : decide (nbits m ≤ 64) = decide (m < B) := by rw [B_pow]; exact decide_eq_decide.2 nbits_le
  have h1B : 1 < B := by rw [B_eq]; decide
  simp only [vcells_N] at hb
  by_cases h : m < B
  · obtain ⟨sa, -⟩ := w_small (Nat.lt_trans ha h)
    refine wk3 @c94.eq_1 rN @hb ?_
    refine AGo_askV (limbs_Bits m hm _ _) ?_
    refine wk4 rN @e0 @h @hb ?_
    rw [sa]
    refine AGo_askV (power64 _ _ _ _ (fun x y => x * y % m) (fun x => x < m) a 1 e he ha h1 hl (fun x y hx hy H' n' hA hn => exp_w H' n' x y m _ hx hy h ?_)) ?_
    · rw [hA _ (by omega)]
      simp (disch := first | assumption | omega) only [upd_same, upd_neq, vcells_N, w_zero]
    refine wk0 ?_
    refine AGo_askV (limbs_Of (pw (fun x y => x * y % m) a 1 e) (Nat.lt_trans hpw h) _ _) ?_
    refine wk1 rN ?_
    exact ⟨rfl, agr⟩
  · refine wk3 @c94.eq_1 rN @hb ?_
    refine AGo_askV (limbs_Bits m hm _ _) ?_
    refine wk4 rN @e0 @h @hb ?_
    refine AGo_askV (limbs_Of 1 h1B _ _) ?_
    refine wk2 rN @hb ?_
    refine AGo_askV (powerN _ _ _ _ (fun x y => x * y % m) (fun x => x < m) a 1 e he ha h1 hl (fun x y hx hy H' n' hA hn => exp_n H' n' x y m _ hx hy hm (by omega) ?_)) ?_
    · rw [hA _ (by omega)]
      simp (disch := first | assumption | omega) only [upd_same, upd_neq, vcells_N, w_zero]
    refine wk1 rN ?_
    exact ⟨rfl, agr⟩
theorem mods_Exp (a e m : U) (H : Heap) (n : Nat) : ACall Tryz.prog 52 [N a.val, N e.val, N m.val] H n (Ret (RV (modExp a e m)) H n) := by
  refine acall_retF mix lw Tryz.func52 ok52 (fun _ _ => Tryz.call52 _ _) rfl ?_
  cases h : mayM a a m with
  | true =>
    obtain ⟨g1, g2, g3⟩ := mayM_iff.1 h
    have hpw : pw (fun x y => x * y % m.val) a.val 1 e.val < m.val := pwS_lt g1 _
    have hv : (ur (pw (fun x y => x * y % m.val) a.val 1 e.val)).val = pw (fun x y => x * y % m.val) a.val 1 e.val := ur_val (Nat.lt_trans hpw m.isLt)
    rw [show modExp a e m = (ur (pw (fun x y => x * y % m.val) a.val 1 e.val), 0) by rw [modExp, if_pos h]]
    refine wk2 @c52.eq_1 rN ?_
    refine AGo_askV (deed_ok _ _ 94 _ a a m _ h (fun H' n' hA hn => by rw [hv]; exact exp_do H' n' _ _ _ e.val _ g2 g1 m.isLt e.isLt (by omega) (by rw [hA _ (by omega)]; simp (disch := first | assumption | omega) only [upd_same, upd_neq, vcells_N]))) ?_
    refine wk2 rN @RV.eq_1 ?_
    exact ⟨rfl, agr⟩
  | false =>
    rw [show modExp a e m = (uz, 1) by rw [modExp, h]; rfl]
    refine wk2 @c52.eq_1 rN ?_
    refine AGo_askV (deed_no 94 _ a a m h _ _) ?_
    refine wk2 rN @RV.eq_1 ?_
    exact ⟨rfl, agr⟩
end Go.Proofs.YtcjchcommaahdaaGreat
namespace Go.Proofs.YtcjchcommaahdaaGreat
open Go.Ab

theorem sub_nat (x y m : Nat) (hx : x < m) (hy : y < m) (h1 : 1 < m) (hm : m < BB) (H : Heap) (n : Nat) : ACall Tryz.prog 90 [N x, N y, N m] H n (Ret (.tuple #[N ((x + m - y) % m), .int .i64 (0 : Nat)]) H n) := by
  have h := mods_Sub ⟨x, Nat.lt_trans hx hm⟩ ⟨y, Nat.lt_trans hy hm⟩ ⟨m, hm⟩ H n
  have hM : mayM (⟨x, Nat.lt_trans hx hm⟩ : U) ⟨y, Nat.lt_trans hy hm⟩ ⟨m, hm⟩ = true := mayM_iff.2 ⟨h1, hx, hy⟩
  rw [modSub, if_pos hM] at h
  simp only [RV] at h
  rw [ur_val (Nat.lt_trans (Nat.mod_lt _ (by omega)) hm)] at h
  exact h

def invV (a m : Nat) : Nat := if Nat.gcd a m = 1 then invGo m (m + 1) m a 0 1 else 0
theorem inv_do (a b m : Nat) (ha : a < m) (h1 : 1 < m) (hm : m < BB) (hbB : b < BB) (H : Heap) (n : Nat) : ACall Tryz.prog 87 [N a, N b, N m] H n (Ret (N (invV a m)) H n) := by
  refine acall_retF mix lw Tryz.func87 ok87 (fun _ _ => Tryz.call87 _ _) rfl ?_
  have bbp := BB_pos
  have ob := one_lt_BB
  have h1B : 1 < B := by rw [B_eq]; decide
  have h0B : 0 < B := B_pos
  have haB : a < BB := Nat.lt_trans ha hm
  have hgB : Nat.gcd a m < BB := Nat.lt_of_le_of_lt (Nat.gcd_le_right _ (by omega)) hm
  by_cases hg : Nat.gcd a m = 1
  · refine wk2 @c87.eq_1 rN ?_
    refine AGo_askV (div_Common a m haB hm _ _) ?_
    refine wk1 rN ?_
    refine AGo_askV (limbs_Of 1 h1B _ _) ?_
    refine wk2 rN @hg ?_
    refine AGo_askV (limbs_Of 0 h0B _ _) ?_
    refine wk2 rN @hg ?_
    refine AGo_askV (limbs_Of 1 h1B _ _) ?_
    refine wk2 rN @hg ?_
    obtain ⟨V, hV⟩ : ∃ V, invGo m (m + 1) m a 0 1 = V := ⟨_, rfl⟩
    have hVV : invV a m = V := by rw [invV, if_pos hg, hV]
    rw [hVV]
    refine AGo_cycleD (α := Nat × Nat × Nat × Nat × Nat) 26 51 (fun _ => []) (fun x H' n' => InvAt a m x.2.1 x.2.2.1 x.2.2.2.1 x.2.2.2.2 ∧ x.2.2.1 < x.1 ∧ invGo m x.1 x.2.1 x.2.2.1 x.2.2.2.1 x.2.2.2.2 = V ∧ n + 17 ≤ n' ∧ Agree n H H' ∧ H' (n + 2) = some (.cells (vcells (N (m))) 24 (0, 0)) ∧ H' (n + 3) = some (.cells (vcells (N (0))) 24 (0, 0)) ∧ H' (n + 13) = some (.cells (vcells (N (x.2.1))) 24 (0, 0)) ∧ H' (n + 14) = some (.cells (vcells (N (x.2.2.1))) 24 (0, 0)) ∧ H' (n + 15) = some (.cells (vcells (N (x.2.2.2.1))) 24 (0, 0)) ∧ H' (n + 16) = some (.cells (vcells (N (x.2.2.2.2))) 24 (0, 0))) (fun _ H' n' => n + 17 ≤ n' ∧ Agree n H H' ∧ H' (n + 3) = some (.cells (vcells (N (0))) 24 (0, 0)) ∧ H' (n + 16) = some (.cells (vcells (N (V))) 24 (0, 0))) (fun x => x.1) ((m + 1, m, a, 0, 1)) ?_ (by simp only [subs_nil, subs_if, lk_if, lk_nil, dropR_nil, dropR_cons, Nat.reduceLT, List.cons_append, List.nil_append, List.elem_nil, List.elem_cons, Nat.reduceBEq, beq_self_eq_true, Bool.true_or, Bool.false_or, Bool.or_true, Bool.or_false, Bool.false_eq_true, ↓reduceIte, if_true, if_false, Nat.reduceEqDiff, and_self, and_true, true_and, eq_self]) ?_ ?_
    · refine ⟨InvAt.start h1 ha hg, by show a < m + 1; omega, hV, by omega, agr, ?_, ?_, ?_, ?_, ?_, ?_⟩
      · exact up0
      · exact up0
      · exact up0
      · exact up0
      · exact up0
      · exact up0
    · rintro ⟨f, r, s, x, y⟩ H' n' kk ⟨hI, hf, hgo, hn, hA, f2, f3, f13, f14, f15, f16⟩ hK hS
      dsimp only at hI hf hgo f13 f14 f15 f16
      simp only [List.cons_append, List.nil_append, dropR_nil, dropR_cons, Nat.reduceLT, ↓reduceIte]
      simp only [vcells_N] at f2 f3 f13 f14 f15 f16
      have hs1 := hI.s1; have hsr := hI.sr; have hr1 := hI.r1; have hx1 := hI.x1; have hy1 := hI.y1
      have hsB : s < BB := by omega
      obtain ⟨f', rfl⟩ : ∃ f', f = f' + 1 := ⟨f - 1, by omega⟩
      by_cases h0 : s = 1
      · subst h0
        rw [invGo, if_pos rfl] at hgo
        subst hgo
        refine AGo_turn ?_
        refine wk2 rN @f14 ?_
        refine AGo_askV (limbs_Of 1 h1B _ _) ?_
        refine wk2 rN @f14 ?_
        refine AGo_markL ?_ (hK (0, 0, 0, 0, 0) _ _ ⟨by omega, agr, ?_, ?_⟩)
        · simp only [subs_nil, subs_if, lk_if, lk_nil, dropR_nil, dropR_cons, Nat.reduceLT, List.cons_append, List.nil_append, List.elem_nil, List.elem_cons, Nat.reduceBEq, beq_self_eq_true, Bool.true_or, Bool.false_or, Bool.or_true, Bool.or_false, Bool.false_eq_true, ↓reduceIte, if_true, if_false, Nat.reduceEqDiff, and_self, and_true, true_and, eq_self]
        · exact up1 @f3
        · exact up1 @f16
      · rw [invGo, if_neg h0] at hgo
        have hq : r / s < m := by
          have h2 : 2 ≤ s := by omega
          exact (Nat.div_lt_iff_lt_mul hs1).2 (by have := Nat.mul_le_mul_left m h2; omega)
        have hqy : r / s * y % m < m := Nat.mod_lt _ (by omega)
        refine AGo_turn ?_
        refine wk2 rN @f14 ?_
        refine AGo_askV (limbs_Of 1 h1B _ _) ?_
        refine wk8 rN @h0 @f2 @f3 @f13 @f14 @f15 @f16 ?_
        refine AGo_askV (div_any r s (by omega) hsB (by omega) _ _) ?_
        refine wk7 rN @f2 @f3 @f13 @f14 @f15 @f16 ?_
        refine AGo_askV (mods_times (r / s) y m hq hy1 hm _ _) ?_
        refine wk7 rN @f2 @f3 @f13 @f14 @f15 @f16 ?_
        refine AGo_askV (sub_nat x (r / s * y % m) m hx1 hqy h1 hm _ _) ?_
        refine wk7 rN @f2 @f3 @f13 @f14 @f15 @f16 ?_
        refine AGo_le ?_ (hS (f', s, r % s, y, (x + m - r / s * y % m) % m) _ _ ⟨hI.next h0, ?_, hgo, by omega, agr, ?_, ?_, ?_, ?_, ?_, ?_⟩ (by show f' < f' + 1; omega))
        · simp only [subs_nil, subs_if, lk_if, lk_nil, dropR_nil, dropR_cons, Nat.reduceLT, List.cons_append, List.nil_append, List.elem_nil, List.elem_cons, Nat.reduceBEq, beq_self_eq_true, Bool.true_or, Bool.false_or, Bool.or_true, Bool.or_false, Bool.false_eq_true, ↓reduceIte, if_true, if_false, Nat.reduceEqDiff, and_self, and_true, true_and, eq_self]
        · show r % s < f'
          have := Nat.mod_lt r hs1; omega
        · exact up1 @f2
        · exact up1 @f3
        · exact up0
        · exact up0
        · exact up0
        · exact up0
    rintro x H' n' ⟨hn, hA, f3, f16⟩
    simp only [List.cons_append, List.nil_append, dropR_nil, dropR_cons, Nat.reduceLT, ↓reduceIte]
    simp only [vcells_N] at f3 f16
    refine wk3 rN @f3 @f16 ?_
    exact ⟨rfl, agr⟩
  · refine wk2 @c87.eq_1 rN ?_
    refine AGo_askV (div_Common a m haB hm _ _) ?_
    refine wk1 rN ?_
    refine AGo_askV (limbs_Of 1 h1B _ _) ?_
    refine wk3 rN @hg @invV.eq_1 ?_
    exact ⟨rfl, agr⟩
end Go.Proofs.YtcjchcommaahdaaGreat

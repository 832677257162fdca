/- Layers 4, 8 and 9: inverses, groups, scalars. Lists by their places; digits. Digits of sums, differences and products. No conditions. -/
import Derived.Test.YtcjchcommaahdaaGreatQ12
import Derived.Test.YtcjchcommaahdaaGreatQ17
set_option maxRecDepth 20000
set_option maxHeartbeats 4000000
set_option linter.all false
namespace Go.Proofs.YtcjchcommaahdaaGreat
open Go.Ab

theorem inv_prop {a m : Nat} : ∀ (f r s x y : Nat), InvAt a m r s x y → s < f → invGo m f r s x y < m ∧ invGo m f r s x y * a % m = 1
  | 0, _, _, _, _, _, h => by omega
  | f + 1, r, s, x, y, hI, hf => by
    rw [invGo]
    split
    · rename_i h1; subst h1
      exact ⟨hI.y1, by rw [hI.ey, Nat.mod_eq_of_lt hI.m1]⟩
    · rename_i h1
      have hI2 := hI.next h1
      exact inv_prop f _ _ _ _ hI2 (by have := Nat.mod_lt r hI.s1; omega)
theorem mods_Inv (a m : U) (H : Heap) (n : Nat) : ACall Tryz.prog 50 [N a.val, N m.val] H n (Ret (RV (modInv a m)) H n) := by
  refine acall_retF mix lw Tryz.func50 ok50 (fun _ _ => Tryz.call50 _ _) rfl ?_
  have bbp := BB_pos
  have h0B : 0 < B := B_pos
  cases h : mayM a a m with
  | true =>
    obtain ⟨g1, g2, g3⟩ := mayM_iff.1 h
    by_cases hg : Nat.gcd a.val m.val = 1
    · obtain ⟨p1, p2⟩ := inv_prop (m.val + 1) m.val a.val 0 1 (InvAt.start g1 g2 hg) (by omega)
      generalize hV : invGo m.val (m.val + 1) m.val a.val 0 1 = V at *
      have hVB : V < BB := Nat.lt_trans p1 m.isLt
      have hV0 : V ≠ 0 := by rintro rfl; simp at p2
      have hv : (ur V).val = V := ur_val hVB
      rw [show modInv a m = (ur V, 0) by rw [modInv, if_pos h, if_pos hg, hV]]
      refine wk2 @c50.eq_1 rN ?_
      refine AGo_askV (deed_ok _ _ 87 #[] a a m (ur V) h (fun H' n' hA hn => by rw [hv, ← hV, show invGo m.val (m.val + 1) m.val a.val 0 1 = invV a.val m.val by rw [invV, if_pos hg]]; exact inv_do _ _ _ g2 g1 m.isLt a.isLt H' n')) ?_
      refine wk2 rN @RV.eq_1 ?_
      refine AGo_askV (limbs_Of 0 h0B _ _) ?_
      refine wk4 rN @RV.eq_1 @hv @hV0 ?_
      exact ⟨rfl, agr⟩
    · have hv : (ur 0).val = 0 := ur_val BB_pos
      rw [show modInv a m = (uz, 7) by rw [modInv, if_pos h, if_neg hg]]
      refine wk2 @c50.eq_1 rN ?_
      refine AGo_askV (deed_ok _ _ 87 #[] a a m (ur 0) h (fun H' n' hA hn => by rw [hv, show (0 : Nat) = invV a.val m.val by rw [invV, if_neg hg]]; exact inv_do _ _ _ g2 g1 m.isLt a.isLt H' n')) ?_
      refine wk2 rN @RV.eq_1 ?_
      refine AGo_askV (limbs_Of 0 h0B _ _) ?_
      refine wk4 rN @RV.eq_1 @hv @uz_val ?_
      exact ⟨rfl, agr⟩
  | false =>
    rw [show modInv a m = (uz, 1) by rw [modInv, h]; rfl]
    refine wk2 @c50.eq_1 rN ?_
    refine AGo_askV (deed_no 87 #[] a a m h _ _) ?_
    refine wk2 rN @RV.eq_1 ?_
    exact ⟨rfl, agr⟩

/-- A group. -/
structure Grp where
  p : U
  q : U
  g : U
  h : U
def GV (G : Grp) : Value := .agg #[.int .u64 (w0 G.p.val : Nat), .int .u64 (w1 G.p.val : Nat), .int .u64 (w2 G.p.val : Nat), .int .u64 (w3 G.p.val : Nat), .int .u64 (w0 G.q.val : Nat), .int .u64 (w1 G.q.val : Nat), .int .u64 (w2 G.q.val : Nat), .int .u64 (w3 G.q.val : Nat),
  .int .u64 (w0 G.g.val : Nat), .int .u64 (w1 G.g.val : Nat), .int .u64 (w2 G.g.val : Nat), .int .u64 (w3 G.g.val : Nat), .int .u64 (w0 G.h.val : Nat), .int .u64 (w1 G.h.val : Nat), .int .u64 (w2 G.h.val : Nat), .int .u64 (w3 G.h.val : Nat)]
theorem GV_fold (G : Grp) : Value.agg #[.int .u64 (w0 G.p.val : Nat), .int .u64 (w1 G.p.val : Nat), .int .u64 (w2 G.p.val : Nat), .int .u64 (w3 G.p.val : Nat), .int .u64 (w0 G.q.val : Nat), .int .u64 (w1 G.q.val : Nat), .int .u64 (w2 G.q.val : Nat), .int .u64 (w3 G.q.val : Nat),
  .int .u64 (w0 G.g.val : Nat), .int .u64 (w1 G.g.val : Nat), .int .u64 (w2 G.g.val : Nat), .int .u64 (w3 G.g.val : Nat), .int .u64 (w0 G.h.val : Nat), .int .u64 (w1 G.h.val : Nat), .int .u64 (w2 G.h.val : Nat), .int .u64 (w3 G.h.val : Nat)] = GV G := rfl
theorem vcells_GV (G : Grp) : vcells (GV G) = [.int .u64 (w0 G.p.val : Nat), .int .u64 (w1 G.p.val : Nat), .int .u64 (w2 G.p.val : Nat), .int .u64 (w3 G.p.val : Nat), .int .u64 (w0 G.q.val : Nat), .int .u64 (w1 G.q.val : Nat), .int .u64 (w2 G.q.val : Nat), .int .u64 (w3 G.q.val : Nat),
  .int .u64 (w0 G.g.val : Nat), .int .u64 (w1 G.g.val : Nat), .int .u64 (w2 G.g.val : Nat), .int .u64 (w3 G.g.val : Nat), .int .u64 (w0 G.h.val : Nat), .int .u64 (w1 G.h.val : Nat), .int .u64 (w2 G.h.val : Nat), .int .u64 (w3 G.h.val : Nat)] := rfl
theorem isTup_GV (G : Grp) : isTup (GV G) = false := rfl
theorem rG : type_of% (And.intro @GV_fold (And.intro @vcells_GV @isTup_GV)) := (And.intro @GV_fold (And.intro @vcells_GV @isTup_GV))
theorem hdChan_GV (G : Grp) (l : List Value) : hdChan (GV G :: l) = false := rfl

theorem sc_Add (G : Grp) (a b : U) (H : Heap) (n : Nat) : ACall Tryz.prog 48 [GV G, N a.val, N b.val] H n (Ret (RV (modAdd a b G.q)) H n) := by
  refine acall_retF mix lw Tryz.func48 ok48 (fun _ _ => Tryz.call48 _ _) rfl ?_
  refine wk3 @c48.eq_1 rN rG ?_
  refine AGo_askV (mods_Add a b G.q _ _) ?_
  refine wk3 rN rG @RV.eq_1 ?_
  exact ⟨rfl, agr⟩
theorem sc_Sub (G : Grp) (a b : U) (H : Heap) (n : Nat) : ACall Tryz.prog 79 [GV G, N a.val, N b.val] H n (Ret (RV (modSub a b G.q)) H n) := by
  refine acall_retF mix lw Tryz.func79 ok79 (fun _ _ => Tryz.call79 _ _) rfl ?_
  refine wk3 @c79.eq_1 rN rG ?_
  refine AGo_askV (mods_Sub a b G.q _ _) ?_
  refine wk3 rN rG @RV.eq_1 ?_
  exact ⟨rfl, agr⟩
theorem sc_Mul (G : Grp) (a b : U) (H : Heap) (n : Nat) : ACall Tryz.prog 63 [GV G, N a.val, N b.val] H n (Ret (RV (modMul a b G.q)) H n) := by
  refine acall_retF mix lw Tryz.func63 ok63 (fun _ _ => Tryz.call63 _ _) rfl ?_
  refine wk3 @c63.eq_1 rN rG ?_
  refine AGo_askV (mods_Mul a b G.q _ _) ?_
  refine wk3 rN rG @RV.eq_1 ?_
  exact ⟨rfl, agr⟩
theorem sc_Inv (G : Grp) (a : U) (H : Heap) (n : Nat) : ACall Tryz.prog 20 [GV G, N a.val] H n (Ret (RV (modInv a G.q)) H n) := by
  refine acall_retF mix lw Tryz.func20 ok20 (fun _ _ => Tryz.call20 _ _) rfl ?_
  refine wk3 @c20.eq_1 rN rG ?_
  refine AGo_askV (mods_Inv a G.q _ _) ?_
  refine wk3 rN rG @RV.eq_1 ?_
  exact ⟨rfl, agr⟩
def mayG (G : Grp) (a : U) : Bool := decide (1 < G.p.val) && (decide (a.val ≠ 0) && decide (a.val < G.p.val))
theorem gr_may (G : Grp) (a : U) (H : Heap) (n : Nat) : ACall Tryz.prog 51 [GV G, N a.val] H n (Ret (.bool (mayG G a)) H n) := by
  refine acall_retF mix lw Tryz.func51 ok51 (fun _ _ => Tryz.call51 _ _) rfl ?_
  have bbp := BB_pos
  have ob := one_lt_BB
  have h1B : 1 < B := by rw [B_eq]; decide
  have h0B : 0 < B := B_pos
  have ha := a.isLt; have hp := G.p.isLt
  by_cases h1 : 1 < G.p.val
  · by_cases h2 : a.val = 0
    · refine wk3 @c51.eq_1 rN rG ?_
      refine AGo_askV (limbs_Of 1 h1B _ _) ?_
      refine wk2 rN rG ?_
      refine AGo_askV (limbs_Cmp G.p.val 1 hp ob _ _) ?_
      refine wk4 rN rG @cmp_gtr @h1 ?_
      refine AGo_askV (limbs_Of 0 h0B _ _) ?_
      refine wk3 rN rG @h2 ?_
      exact ⟨by simp [mayG, h1, h2], agr⟩
    · refine wk3 @c51.eq_1 rN rG ?_
      refine AGo_askV (limbs_Of 1 h1B _ _) ?_
      refine wk2 rN rG ?_
      refine AGo_askV (limbs_Cmp G.p.val 1 hp ob _ _) ?_
      refine wk4 rN rG @cmp_gtr @h1 ?_
      refine AGo_askV (limbs_Of 0 h0B _ _) ?_
      refine wk3 rN rG @h2 ?_
      refine AGo_askV (limbs_Cmp a.val G.p.val ha hp _ _) ?_
      refine wk4 rN rG @cmp_lss @h1 ?_
      exact ⟨by simp [mayG, h1, h2], agr⟩
  · refine wk3 @c51.eq_1 rN rG ?_
    refine AGo_askV (limbs_Of 1 h1B _ _) ?_
    refine wk2 rN rG ?_
    refine AGo_askV (limbs_Cmp G.p.val 1 hp ob _ _) ?_
    refine wk4 rN rG @cmp_gtr @h1 ?_
    exact ⟨by simp [mayG, h1], agr⟩
def grpExp (G : Grp) (a n : U) : U × Nat := if mayG G a then modExp a n G.p else (uz, 1)
def grpMul (G : Grp) (a b : U) : U × Nat := if mayG G a && mayG G b then modMul a b G.p else (uz, 1)
def grpIn (G : Grp) (a : U) : Bool := decide ((grpExp G a G.q).2 = 0) && decide ((grpExp G a G.q).1.val = 1)
theorem gr_Exp (G : Grp) (a n0 : U) (H : Heap) (n : Nat) : ACall Tryz.prog 21 [GV G, N a.val, N n0.val] H n (Ret (RV (grpExp G a n0)) H n) := by
  refine acall_retF mix lw Tryz.func21 ok21 (fun _ _ => Tryz.call21 _ _) rfl ?_
  cases h : mayG G a with
  | true =>
    rw [show grpExp G a n0 = modExp a n0 G.p by rw [grpExp, if_pos h]]
    refine wk3 @c21.eq_1 rN rG ?_
    refine AGo_askV (gr_may G a _ _) ?_
    refine wk3 rN rG @h ?_
    refine AGo_askV (mods_Exp a n0 G.p _ _) ?_
    refine wk3 rN rG @RV.eq_1 ?_
    exact ⟨rfl, agr⟩
  | false =>
    rw [show grpExp G a n0 = (uz, 1) by rw [grpExp, h]; rfl]
    refine wk3 @c21.eq_1 rN rG ?_
    refine AGo_askV (gr_may G a _ _) ?_
    refine wk5 rN rG @h @RV.eq_1 @uz_val ?_
    exact ⟨rfl, agr⟩
theorem gr_Mul (G : Grp) (a b : U) (H : Heap) (n : Nat) : ACall Tryz.prog 59 [GV G, N a.val, N b.val] H n (Ret (RV (grpMul G a b)) H n) := by
  refine acall_retF mix lw Tryz.func59 ok59 (fun _ _ => Tryz.call59 _ _) rfl ?_
  cases h : mayG G a with
  | true =>
    cases h2 : mayG G b with
    | true =>
      rw [show grpMul G a b = modMul a b G.p by rw [grpMul, h, h2]; rfl]
      refine wk3 @c59.eq_1 rN rG ?_
      refine AGo_askV (gr_may G a _ _) ?_
      refine wk3 rN rG @h ?_
      refine AGo_askV (gr_may G b _ _) ?_
      refine wk3 rN rG @h2 ?_
      refine AGo_askV (mods_Mul a b G.p _ _) ?_
      refine wk3 rN rG @RV.eq_1 ?_
      exact ⟨rfl, agr⟩
    | false =>
      rw [show grpMul G a b = (uz, 1) by rw [grpMul, h, h2]; rfl]
      refine wk3 @c59.eq_1 rN rG ?_
      refine AGo_askV (gr_may G a _ _) ?_
      refine wk3 rN rG @h ?_
      refine AGo_askV (gr_may G b _ _) ?_
      refine wk5 rN rG @h2 @RV.eq_1 @uz_val ?_
      exact ⟨rfl, agr⟩
  | false =>
    rw [show grpMul G a b = (uz, 1) by rw [grpMul, h]; rfl]
    refine wk3 @c59.eq_1 rN rG ?_
    refine AGo_askV (gr_may G a _ _) ?_
    refine wk5 rN rG @h @RV.eq_1 @uz_val ?_
    exact ⟨rfl, agr⟩
theorem gr_In (G : Grp) (a : U) (H : Heap) (n : Nat) : ACall Tryz.prog 19 [GV G, N a.val] H n (Ret (.bool (grpIn G a)) H n) := by
  refine acall_retF mix lw Tryz.func19 ok19 (fun _ _ => Tryz.call19 _ _) rfl ?_
  have bbp := BB_pos
  have ob := one_lt_BB
  have h1B : 1 < B := by rw [B_eq]; decide
  generalize hX : grpExp G a G.q = X
  have hx := X.1.isLt
  by_cases h : X.2 = 0
  · refine wk3 @c19.eq_1 rN rG ?_
    refine AGo_askV (gr_Exp G a G.q _ _) ?_
    refine wk5 rN rG @RV.eq_1 @hX @h ?_
    refine AGo_askV (limbs_Of 1 h1B _ _) ?_
    refine wk2 rN rG ?_
    exact ⟨by simp [grpIn, hX, h], agr⟩
  · refine wk3 @c19.eq_1 rN rG ?_
    refine AGo_askV (gr_Exp G a G.q _ _) ?_
    refine wk5 rN rG @RV.eq_1 @hX @h ?_
    exact ⟨by simp [grpIn, hX, h], agr⟩
end Go.Proofs.YtcjchcommaahdaaGreat
namespace Go.Proofs.YtcjchcommaahdaaGreat
open Go.Ab

/-- A list of words, by a function. -/
def fl (n : Nat) (f : Nat → Nat) : List Value := (List.range n).map fun i => .int .u64 (f i : Nat)
theorem fl_length (n : Nat) (f : Nat → Nat) : (fl n f).length = n := by simp [fl]
theorem fl_get {n i : Nat} (f : Nat → Nat) (h : i < n) : (fl n f)[i]? = some (.int .u64 (f i : Nat)) := by simp [fl, h]
theorem fl_congr {n : Nat} {f g : Nat → Nat} (h : ∀ i, i < n → f i = g i) : fl n f = fl n g := by
  unfold fl; apply List.map_congr_left; intro i hi; rw [h i (by simpa using hi)]
theorem fl_splice {n i v : Nat} (f : Nat → Nat) (h : i < n) : splice (fl n f) i [.int .u64 (v : Nat)] = fl n (fun j => if j = i then v else f j) := by
  unfold splice
  apply List.ext_getElem?
  intro j
  rw [List.append_assoc, List.getElem?_append]
  simp only [List.length_take, fl_length, List.length_cons, List.length_nil]
  rw [show min i n = i by omega]
  split
  · rename_i hj
    rw [List.getElem?_take, if_pos hj, fl_get _ (by omega), fl_get _ (by omega), if_neg (by omega)]
  · rename_i hj
    by_cases e : j = i
    · subst e; rw [Nat.sub_self, fl_get _ h, if_pos rfl]; rfl
    · rw [List.getElem?_append_right (by simp; omega), List.getElem?_drop]
      simp only [List.length_cons, List.length_nil]
      rw [show i + (0 + 1) + (j - i - (0 + 1)) = j by omega]
      by_cases hn : j < n
      · rw [fl_get _ hn, fl_get _ hn, if_neg e]
      · rw [List.getElem?_eq_none (by rw [fl_length]; omega), List.getElem?_eq_none (by rw [fl_length]; omega)]
theorem fl_all (n : Nat) (f : Nat → Nat) : (fl n f).all Value.oneCell' = true := by simp [fl, Value.oneCell']
theorem fl_take (n : Nat) (f : Nat → Nat) : (fl n f).take n = fl n f := by rw [List.take_of_length_le (by rw [fl_length]; omega)]
theorem fl_splice_all (n : Nat) (f g : Nat → Nat) : splice (fl n f) 0 (fl n g) = fl n g := by
  unfold splice; rw [List.take_zero, List.nil_append, List.drop_eq_nil_of_le (by simp [fl_length]), List.append_nil]
theorem low_fl {m : Nat} (f : Nat → Nat) : ∀ l : List Nat, LowL m (l.map fun i => Value.int .u64 (f i : Nat))
  | [] => LowL.nil m
  | _ :: l => LowL.cons Low.int (low_fl f l)
theorem low_agg_fl (m n : Nat) (f : Nat → Nat) : Low m (.agg ⟨fl n f⟩) := Low.agg (low_fl f _)
theorem hdChan_fl (n : Nat) (f : Nat → Nat) (l : List Value) : hdChan (.agg ⟨fl n f⟩ :: l) = false := rfl

theorem ite_lt {α : Sort _} {a b : Nat} {x y : α} (h : a < b) : (if a < b then x else y) = x := if_pos h
theorem ite_le {α : Sort _} {a b : Nat} {x y : α} (h : a ≤ b) : (if a ≤ b then x else y) = x := if_pos h
theorem rI : type_of% (And.intro (And.intro @ite_lt.{1} @ite_lt.{0}) (And.intro @ite_le.{1} @ite_le.{0})) := (And.intro (And.intro @ite_lt.{1} @ite_lt.{0}) (And.intro @ite_le.{1} @ite_le.{0}))
theorem fl_upto {n k v : Nat} {f g : Nat → Nat} (hv : v = f k) : fl n (fun j => if j = k then v else if j < k then f j else g j) = fl n (fun j => if j < k + 1 then f j else g j) := by
  refine fl_congr fun j _ => ?_
  by_cases e : j = k
  · subst e; rw [if_pos rfl, if_pos (by omega), hv]
  · rw [if_neg e]
    by_cases h : j < k
    · rw [if_pos h, if_pos (by omega)]
    · rw [if_neg h, if_neg (by omega)]
theorem fl_all_upto {n : Nat} {f g : Nat → Nat} : fl n (fun j => if j < n then f j else g j) = fl n f := fl_congr fun _ h => if_pos h
theorem fl_upto0 {n : Nat} {f g : Nat → Nat} : fl n (fun j => if j < 0 then f j else g j) = fl n g := fl_congr fun _ _ => if_neg (by omega)
/-- A digit of 16 bits. -/
def dg (x i : Nat) : Nat := x / 65536 ^ i % 65536
theorem dg_lt (x i : Nat) : dg x i < 65536 := Nat.mod_lt _ (by decide)
theorem pow16 (i : Nat) : 65536 ^ i = 2 ^ (16 * i) := by rw [show (65536 : Nat) = 2 ^ 16 by decide, ← Nat.pow_mul]
theorem dg_word (x i : Nat) : dg x i = wK x (i / 4) / 2 ^ (16 * (i % 4)) % 65536 := by
  unfold dg wK
  rw [pow16, B_pow, show 16 * i = 64 * (i / 4) + 16 * (i % 4) by omega, Nat.pow_add, ← Nat.div_div_eq_div_mul]
  generalize x / 2 ^ (64 * (i / 4)) = y
  have h4 : i % 4 = 0 ∨ i % 4 = 1 ∨ i % 4 = 2 ∨ i % 4 = 3 := by omega
  rcases h4 with h | h | h | h <;> rw [h] <;> omega
theorem zero16 : [Value.int .u64 ((0 : Nat) : Int), .int .u64 ((0 : Nat) : Int), .int .u64 ((0 : Nat) : Int), .int .u64 ((0 : Nat) : Int), .int .u64 ((0 : Nat) : Int), .int .u64 ((0 : Nat) : Int), .int .u64 ((0 : Nat) : Int), .int .u64 ((0 : Nat) : Int), .int .u64 ((0 : Nat) : Int), .int .u64 ((0 : Nat) : Int), .int .u64 ((0 : Nat) : Int), .int .u64 ((0 : Nat) : Int), .int .u64 ((0 : Nat) : Int), .int .u64 ((0 : Nat) : Int), .int .u64 ((0 : Nat) : Int), .int .u64 ((0 : Nat) : Int)] = fl 16 (fun _ => 0) := rfl
theorem cell_wK (x k : Nat) (hk : k < 4) : [Value.int .u64 (w0 x : Nat), .int .u64 (w1 x : Nat), .int .u64 (w2 x : Nat), .int .u64 (w3 x : Nat)][k]? = some (.int .u64 (wK x k : Nat)) := by
  rw [← wAt_wK x k hk]; exact cell_word x k hk
theorem rL : type_of% (And.intro (And.intro (And.intro @ite_lt.{1} (And.intro @ite_lt.{0} @ite_le.{1})) (And.intro @ite_le.{0} (And.intro @bin_rem_u64 @bin_quo_u64))) (And.intro (And.intro @fl_get (And.intro @fl_splice @fl_splice_all)) (And.intro (And.intro @fl_length @fl_all) (And.intro @fl_take @cell_wK)))) := (And.intro (And.intro (And.intro @ite_lt.{1} (And.intro @ite_lt.{0} @ite_le.{1})) (And.intro @ite_le.{0} (And.intro @bin_rem_u64 @bin_quo_u64))) (And.intro (And.intro @fl_get (And.intro @fl_splice @fl_splice_all)) (And.intro (And.intro @fl_length @fl_all) (And.intro @fl_take @cell_wK))))

theorem r2_Digits (a : Nat) (H : Heap) (n : Nat) : ACall Tryz.prog 146 [N a] H n (Ret (.agg ⟨fl 16 (dg a)⟩) H n) := by
  refine acall_retF mix lw Tryz.func146 ok146 (fun _ _ => Tryz.call146 _ _) rfl ?_
  refine wk3 @c146.eq_1 rN @zero16 ?_
  refine AGo_cycleD (α := Nat) 5 20 (fun k => [(4, .int .i64 (k : Nat))]) (fun k H' n' => k ≤ 16 ∧ n + 4 ≤ n' ∧ Agree n H H' ∧ H' n = some (.cells (vcells (N a)) 24 (0, 0)) ∧ H' (n + 1) = some (.cells (fl 16 (fun _ => 0)) 160 (0, 0)) ∧ H' (n + 2) = some (.cells (fl 16 (fun j => if j < k then dg a j else 0)) 160 (0, 0))) (fun k H' n' => n + 4 ≤ n' ∧ Agree n H H' ∧ H' (n + 1) = some (.cells (fl 16 (fun _ => 0)) 160 (0, 0)) ∧ H' (n + 2) = some (.cells (fl 16 (dg a)) 160 (0, 0))) (fun k => 16 - k) (0) ?_ (by simp only [subs_nil, subs_if, lk_if, lk_nil, dropR_nil, dropR_cons, Nat.reduceLT, List.cons_append, List.nil_append, List.elem_nil, List.elem_cons, Nat.reduceBEq, beq_self_eq_true, Bool.true_or, Bool.false_or, Bool.or_true, Bool.or_false, Bool.false_eq_true, ↓reduceIte, if_true, if_false, Nat.reduceEqDiff, and_self, and_true, true_and, eq_self]) ?_ ?_
  · refine ⟨Nat.zero_le _, by omega, agr, ?_, ?_, ?_⟩
    · exact up0
    · exact up0
    · simp (disch := first | assumption | omega) only [Nat.not_lt_zero, if_false, upd_same, upd_neq, vcells_N, w_zero]
  · rintro k H' n' kk ⟨hk, hn, hA, f0, f1, f2⟩ hK hS
    simp only [List.cons_append, List.nil_append, dropR_nil, dropR_cons, Nat.reduceLT, ↓reduceIte]
    simp only [vcells_N] at f0
    by_cases hlt : k < 16
    · have h4 : k / 4 < 4 := by omega
      refine AGo_turn ?_
      refine wl5 rL @hlt @f0 @f1 @f2 ?_
      refine AGo_le ?_ (hS (k + 1) _ _ ⟨by omega, by omega, agr, ?_, ?_, ?_⟩ (by omega))
      · simp only [subs_nil, subs_if, lk_if, lk_nil, dropR_nil, dropR_cons, Nat.reduceLT, List.cons_append, List.nil_append, List.elem_nil, List.elem_cons, Nat.reduceBEq, beq_self_eq_true, Bool.true_or, Bool.false_or, Bool.or_true, Bool.or_false, Bool.false_eq_true, ↓reduceIte, if_true, if_false, Nat.reduceEqDiff, and_self, and_true, true_and, eq_self]
      · exact up1 @f0
      · exact up1 @f1
      · simp (disch := first | assumption | omega) only [← dg_word, fl_upto, upd_same, upd_neq, vcells_N, w_zero]
    · have hk2 : k = 16 := by omega
      subst hk2
      refine AGo_turn ?_
      refine wl5 rL @hlt @f0 @f1 @f2 ?_
      refine AGo_markL ?_ (hK 16 _ _ ⟨by omega, agr, ?_, ?_⟩)
      · simp only [subs_nil, subs_if, lk_if, lk_nil, dropR_nil, dropR_cons, Nat.reduceLT, List.cons_append, List.nil_append, List.elem_nil, List.elem_cons, Nat.reduceBEq, beq_self_eq_true, Bool.true_or, Bool.false_or, Bool.or_true, Bool.or_false, Bool.false_eq_true, ↓reduceIte, if_true, if_false, Nat.reduceEqDiff, and_self, and_true, true_and, eq_self]
      · exact up1 @f1
      · rw [f2, fl_congr (g := dg a) fun i hi => if_pos hi]
  rintro k H' n' ⟨hn, hA, f1, f2⟩
  simp only [List.cons_append, List.nil_append, dropR_nil, dropR_cons, Nat.reduceLT, ↓reduceIte]
  refine wl3 rL @f1 @f2 ?_
  exact ⟨rfl, agr⟩
end Go.Proofs.YtcjchcommaahdaaGreat
namespace Go.Proofs.YtcjchcommaahdaaGreat
open Go.Ab

/-- The number that digits are of. -/
def ofd (f : Nat → Nat) : Nat → Nat
  | 0 => 0
  | k + 1 => ofd f k + f k * 65536 ^ k
theorem p16 (k : Nat) : 0 < 65536 ^ k := Nat.pow_pos (by decide)
theorem ofd_lt {f : Nat → Nat} (hf : ∀ i, f i < 65536) : ∀ k, ofd f k < 65536 ^ k
  | 0 => by simp [ofd]
  | k + 1 => by
    have ih := ofd_lt hf k
    have h1 : f k * 65536 ^ k ≤ 65535 * 65536 ^ k := Nat.mul_le_mul_right _ (by have := hf k; omega)
    rw [ofd, Nat.pow_succ]; omega
theorem mod_digit (x k : Nat) : x % 65536 ^ (k + 1) = x % 65536 ^ k + dg x k * 65536 ^ k := by
  rw [Nat.pow_succ, Nat.mod_mul, dg, Nat.mul_comm (65536 ^ k)]
theorem ofd_dg (x : Nat) : ∀ k, ofd (dg x) k = x % 65536 ^ k
  | 0 => by simp [ofd, Nat.mod_one]
  | k + 1 => by rw [ofd, ofd_dg x k, mod_digit]
theorem ofd_congr {f g : Nat → Nat} : ∀ {k : Nat}, (∀ i, i < k → f i = g i) → ofd f k = ofd g k
  | 0, _ => rfl
  | k + 1, h => by rw [ofd, ofd, ofd_congr fun i hi => h i (by omega), h k (by omega)]
theorem BB16 : (65536 : Nat) ^ 16 = BB := by rw [BB_pow, pow16]
theorem ofd_all (x : Nat) : ofd (dg x) 16 = x % BB := by rw [ofd_dg, BB16]
theorem ofd_high (x : Nat) : ofd (fun j => dg x (16 + j)) 16 = x / BB % BB := by
  rw [← ofd_all, ← BB16]
  refine ofd_congr fun i _ => ?_
  simp only [dg]; rw [Nat.pow_add, Nat.div_div_eq_div_mul]
theorem ofd_word {f : Nat → Nat} (hf : ∀ i, f i < 65536) (k j : Nat) : wK (ofd f (k + 1)) j = if j = k / 4 then wK (ofd f k) j + f k * 2 ^ (16 * (k % 4)) else wK (ofd f k) j := by
  have h0 := ofd_lt hf k
  have hk := hf k
  have e : 65536 ^ k = 2 ^ (64 * (k / 4)) * 2 ^ (16 * (k % 4)) := by rw [pow16, ← Nat.pow_add]; congr 1; omega
  have hr : 2 ^ (16 * (k % 4)) * 65536 ≤ 2 ^ 64 := by
    have h4 : k % 4 = 0 ∨ k % 4 = 1 ∨ k % 4 = 2 ∨ k % 4 = 3 := by omega
    rcases h4 with h | h | h | h <;> rw [h] <;> decide
  simp only [wK, ofd, B_pow]
  rw [e] at h0 ⊢
  generalize ofd f k = x at *
  generalize f k = d at *
  generalize hR : 2 ^ (16 * (k % 4)) = R at *
  have hR0 : 0 < R := by rw [← hR]; exact Nat.pow_pos (by decide)
  generalize k / 4 = q at *
  have hx : x / 2 ^ (64 * q) < R := Nat.div_lt_of_lt_mul h0
  have hdR : d * R + R ≤ 2 ^ 64 := by
    have : (d + 1) * R ≤ 65536 * R := Nat.mul_le_mul_right R hk
    rw [Nat.succ_mul] at this; rw [Nat.mul_comm] at hr; omega
  have hs : x + d * (2 ^ (64 * q) * R) = x + 2 ^ (64 * q) * (d * R) := by congr 1; rw [Nat.mul_comm d, Nat.mul_assoc, Nat.mul_comm R]
  rw [hs]
  split
  · rename_i h; subst h
    rw [Nat.add_mul_div_left _ _ (Nat.pow_pos (by decide)), Nat.mod_eq_of_lt (show x / 2 ^ (64 * j) < 2 ^ 64 by omega), Nat.mod_eq_of_lt (by omega)]
  · rename_i h
    rcases Nat.lt_or_ge j q with hj | hj
    · have e2 : 2 ^ (64 * q) * (d * R) = 2 ^ (64 * j) * (2 ^ 64 * (2 ^ (64 * (q - j - 1)) * (d * R))) := by
        rw [← Nat.mul_assoc (2 ^ 64), ← Nat.pow_add, ← Nat.mul_assoc (2 ^ (64 * j)), ← Nat.pow_add]; congr 2; omega
      rw [e2, Nat.add_mul_div_left _ _ (Nat.pow_pos (by decide)), Nat.add_mul_mod_self_left]
    · have e3 : 2 ^ (64 * j) = 2 ^ (64 * q) * (2 ^ 64 * 2 ^ (64 * (j - q - 1))) := by rw [← Nat.pow_add, ← Nat.pow_add]; congr 1; omega
      have hp : 0 < 2 ^ (64 * (j - q - 1)) := Nat.pow_pos (by decide)
      rw [e3, ← Nat.div_div_eq_div_mul, ← Nat.div_div_eq_div_mul x, Nat.add_mul_div_left _ _ (Nat.pow_pos (by decide)), Nat.div_eq_of_lt (show x / 2 ^ (64 * q) + d * R < 2 ^ 64 * _ from ?_), Nat.div_eq_of_lt (show x / 2 ^ (64 * q) < 2 ^ 64 * _ from ?_)]
      · exact Nat.lt_of_lt_of_le (show _ < 2 ^ 64 by omega) (Nat.le_mul_of_pos_right _ hp)
      · exact Nat.lt_of_lt_of_le (show _ < 2 ^ 64 by omega) (Nat.le_mul_of_pos_right _ hp)
theorem ofd_word_lt {f : Nat → Nat} (hf : ∀ i, f i < 65536) (k : Nat) : wK (ofd f k) (k / 4) + f k * 2 ^ (16 * (k % 4)) < B := by
  have := ofd_word hf k (k / 4); rw [if_pos rfl] at this; rw [← this]; exact wK_lt _ _
theorem N_fl (x : Nat) : Value.agg ⟨fl 4 (wK x)⟩ = N x := by
  simp [fl, List.range, List.range.loop, wK0, wK1, wK2, wK3, N]
theorem fl_N (x : Nat) : fl 4 (wK x) = vcells (N x) := by
  simp [fl, List.range, List.range.loop, wK0, wK1, wK2, wK3, vcells_N]

/-- What is carried over. -/
def cyD (a b k : Nat) : Nat := (a % 65536 ^ k + b % 65536 ^ k) / 65536 ^ k
theorem cyD_zero (a b : Nat) : cyD a b 0 = 0 := by simp [cyD, Nat.mod_one]
theorem cyD_le (a b k : Nat) : cyD a b k ≤ 1 := by
  have h1 := Nat.mod_lt a (p16 k); have h2 := Nat.mod_lt b (p16 k)
  have : cyD a b k < 2 := (Nat.div_lt_iff_lt_mul (p16 k)).2 (by omega)
  omega
theorem add_digit (a b k : Nat) : (dg a k + dg b k + cyD a b k) % 65536 = dg (a + b) k ∧ (dg a k + dg b k + cyD a b k) / 65536 = cyD a b (k + 1) := by
  have hM := p16 k
  have e : a % 65536 ^ (k + 1) + b % 65536 ^ (k + 1) = (a % 65536 ^ k + b % 65536 ^ k) + 65536 ^ k * (dg a k + dg b k) := by
    rw [mod_digit, mod_digit, Nat.mul_comm (65536 ^ k), Nat.add_mul]; omega
  have en : (a % 65536 ^ (k + 1) + b % 65536 ^ (k + 1)) / 65536 ^ k = dg a k + dg b k + cyD a b k := by
    rw [e, Nat.add_mul_div_left _ _ hM, cyD]; omega
  constructor
  · rw [← en]; unfold dg; rw [← Nat.mod_mul_right_div_self, ← Nat.mod_mul_right_div_self, ← Nat.pow_succ, ← Nat.add_mod]
  · rw [← en, cyD, Nat.div_div_eq_div_mul, ← Nat.pow_succ]
theorem cyD_all {a b : Nat} (ha : a < BB) (hb : b < BB) : cyD a b 16 = (a + b) / BB := by
  rw [cyD, BB16, Nat.mod_eq_of_lt ha, Nat.mod_eq_of_lt hb]

/-- What is lent. -/
def bwD (a b k : Nat) : Nat := if a % 65536 ^ k < b % 65536 ^ k then 1 else 0
theorem bwD_zero (a b : Nat) : bwD a b 0 = 0 := by simp [bwD, Nat.mod_one]
theorem bwD_le (a b k : Nat) : bwD a b k ≤ 1 := by unfold bwD; split <;> omega
theorem sub_digit (a b k : Nat) (hk : k < 16) (hb : b < BB) : (dg a k + 65536 - dg b k - bwD a b k) % 65536 = dg (a + BB - b) k ∧ 1 - (dg a k + 65536 - dg b k - bwD a b k) / 65536 = bwD a b (k + 1) := by
  have hM := p16 k
  have ha1 := dg_lt a k; have hb1 := dg_lt b k
  have hA := Nat.mod_lt a hM; have hB := Nat.mod_lt b hM
  have mA := mod_digit a k; have mB := mod_digit b k
  have hw := bwD_le a b k
  have eX : (dg a k + 65536 - dg b k) * 65536 ^ k = dg a k * 65536 ^ k + 65536 * 65536 ^ k - dg b k * 65536 ^ k := by rw [Nat.sub_mul, Nat.add_mul]
  have hdb : dg b k * 65536 ^ k ≤ 65535 * 65536 ^ k := Nat.mul_le_mul_right _ (by omega)
  have hda : dg a k * 65536 ^ k ≤ 65535 * 65536 ^ k := Nat.mul_le_mul_right _ (by omega)
  constructor
  · have eBB : BB = 65536 ^ (k + 1) * 65536 ^ (15 - k) := by rw [← BB16, ← Nat.pow_add]; congr 1; omega
    have hlt := Nat.mod_lt b (p16 (k + 1))
    have e1 : (a + BB - b) % 65536 ^ (k + 1) = (a % 65536 ^ (k + 1) + 65536 ^ (k + 1) - b % 65536 ^ (k + 1)) % 65536 ^ (k + 1) := by
      have c1 : (a + BB - b + b % 65536 ^ (k + 1)) % 65536 ^ (k + 1) = a % 65536 ^ (k + 1) := by
        rw [Nat.add_mod_mod, show a + BB - b + b = a + BB by omega, eBB, Nat.add_mul_mod_self_left]
      have c2 : (a % 65536 ^ (k + 1) + 65536 ^ (k + 1) - b % 65536 ^ (k + 1) + b % 65536 ^ (k + 1)) % 65536 ^ (k + 1) = a % 65536 ^ (k + 1) := by
        rw [show a % 65536 ^ (k + 1) + 65536 ^ (k + 1) - b % 65536 ^ (k + 1) + b % 65536 ^ (k + 1) = a % 65536 ^ (k + 1) + 65536 ^ (k + 1) by omega, Nat.add_mod_right, Nat.mod_mod]
      exact add_cancel_mod (c1.trans c2.symm)
    have e2 : (a % 65536 ^ (k + 1) + 65536 ^ (k + 1) - b % 65536 ^ (k + 1)) / 65536 ^ k = dg a k + 65536 - dg b k - bwD a b k := by
      rw [mA, mB, Nat.pow_succ]
      unfold bwD
      split
      · rename_i h
        have : a % 65536 ^ k + dg a k * 65536 ^ k + 65536 ^ k * 65536 - (b % 65536 ^ k + dg b k * 65536 ^ k) = (65536 ^ k + a % 65536 ^ k - b % 65536 ^ k) + 65536 ^ k * (dg a k + 65536 - dg b k - 1) := by
          rw [Nat.mul_sub_one, Nat.mul_comm (65536 ^ k) (dg a k + 65536 - dg b k), eX]; omega
        rw [this, Nat.add_mul_div_left _ _ hM, Nat.div_eq_of_lt (by omega)]; omega
      · rename_i h
        have : a % 65536 ^ k + dg a k * 65536 ^ k + 65536 ^ k * 65536 - (b % 65536 ^ k + dg b k * 65536 ^ k) = (a % 65536 ^ k - b % 65536 ^ k) + 65536 ^ k * (dg a k + 65536 - dg b k) := by
          rw [Nat.mul_comm (65536 ^ k) (dg a k + 65536 - dg b k), eX]; omega
        rw [this, Nat.add_mul_div_left _ _ hM, Nat.div_eq_of_lt (by omega)]; omega
    rw [← e2]; unfold dg; rw [← Nat.mod_mul_right_div_self, ← Nat.mod_mul_right_div_self, ← Nat.pow_succ, e1]
  · have hc : bwD a b (k + 1) = if dg a k < dg b k + bwD a b k then 1 else 0 := by
      unfold bwD; rw [mA, mB]
      by_cases hd : dg a k < dg b k
      · have : (dg a k + 1) * 65536 ^ k ≤ dg b k * 65536 ^ k := Nat.mul_le_mul_right _ hd
        rw [Nat.succ_mul] at this
        rw [if_pos (by omega), if_pos (by omega)]
      · by_cases hd2 : dg a k = dg b k
        · rw [hd2]; repeat' split
          all_goals omega
        · have : (dg b k + 1) * 65536 ^ k ≤ dg a k * 65536 ^ k := Nat.mul_le_mul_right _ (by omega)
          rw [Nat.succ_mul] at this
          rw [if_neg (by omega)]; split <;> split <;> omega
    rw [hc]; split <;> omega
theorem bwD_all {a b : Nat} (ha : a < BB) (hb : b < BB) : bwD a b 16 = if a < b then 1 else 0 := by
  rw [bwD, BB16, Nat.mod_eq_of_lt ha, Nat.mod_eq_of_lt hb]

/-- A row of a product. -/
def rowT (P x b i k : Nat) : Nat := P % 65536 ^ (i + k) + x * (b % 65536 ^ k) * 65536 ^ i
theorem rowT_zero (P x b i : Nat) : rowT P x b i 0 = P % 65536 ^ i := by simp [rowT, Nat.mod_one]
theorem rowT_succ (P x b i k : Nat) : rowT P x b i (k + 1) = rowT P x b i k + 65536 ^ (i + k) * (dg P (i + k) + x * dg b k) := by
  unfold rowT
  rw [← Nat.add_assoc, mod_digit, mod_digit, Nat.mul_add x, Nat.add_mul, Nat.mul_add (65536 ^ (i + k)), Nat.mul_comm (65536 ^ (i + k)) (dg P (i + k)),
    show x * (dg b k * 65536 ^ k) * 65536 ^ i = 65536 ^ (i + k) * (x * dg b k) by rw [Nat.pow_add]; ac_rfl]
  omega
theorem rowT_n (P x b i k : Nat) : rowT P x b i (k + 1) / 65536 ^ (i + k) = dg P (i + k) + x * dg b k + rowT P x b i k / 65536 ^ (i + k) := by
  rw [rowT_succ, Nat.add_mul_div_left _ _ (p16 _)]; omega
theorem row_digit (P x b i k : Nat) : (dg P (i + k) + x * dg b k + rowT P x b i k / 65536 ^ (i + k)) % 65536 = dg (rowT P x b i (k + 1)) (i + k)
    ∧ (dg P (i + k) + x * dg b k + rowT P x b i k / 65536 ^ (i + k)) / 65536 = rowT P x b i (k + 1) / 65536 ^ (i + (k + 1)) := by
  rw [← rowT_n]
  exact ⟨rfl, by rw [Nat.div_div_eq_div_mul, ← Nat.pow_succ]; rfl⟩
theorem row_low (P x b i k j : Nat) (h : j < i + k) : dg (rowT P x b i (k + 1)) j = dg (rowT P x b i k) j := by
  have e : 65536 ^ (i + k) = 65536 ^ j * (65536 * 65536 ^ (i + k - j - 1)) := by
    rw [show (65536 : Nat) * 65536 ^ (i + k - j - 1) = 65536 ^ (i + k - j - 1 + 1) by rw [Nat.pow_succ, Nat.mul_comm], ← Nat.pow_add]; congr 1; omega
  rw [rowT_succ, dg, dg, e, Nat.mul_assoc, Nat.add_mul_div_left _ _ (p16 _), Nat.mul_assoc, Nat.add_mul_mod_self_left, dg]
theorem row_last (a b i : Nat) (hb : b < BB) : rowT (a % 65536 ^ i * b) (dg a i) b i 16 = a % 65536 ^ (i + 1) * b := by
  have h1 : a % 65536 ^ i * b < 65536 ^ (i + 16) := by
    rw [Nat.pow_add, BB16]; exact Nat.mul_lt_mul_of_lt_of_lt (Nat.mod_lt _ (p16 i)) hb
  rw [rowT, Nat.mod_eq_of_lt h1, BB16, Nat.mod_eq_of_lt hb, mod_digit, Nat.add_mul]
  congr 1; ac_rfl
theorem row_top (a b i : Nat) (hb : b < BB) : a % 65536 ^ (i + 1) * b / 65536 ^ (i + 16) = dg (a % 65536 ^ (i + 1) * b) (i + 16) := by
  have h1 : a % 65536 ^ (i + 1) * b < 65536 ^ (i + 16) * 65536 := by
    rw [← Nat.pow_succ, show (i + 16).succ = (i + 1) + 16 by omega, Nat.pow_add _ (i + 1), BB16]; exact Nat.mul_lt_mul_of_lt_of_lt (Nat.mod_lt _ (p16 _)) hb
  rw [dg, Nat.mod_eq_of_lt (Nat.div_lt_of_lt_mul h1)]
/-- A number that goes down to -1. -/
def predV (k : Nat) : Int := (k : Int) - 1
theorem predV_zero : predV 0 = -1 := rfl
theorem predV_succ (k : Nat) : predV (k + 1) = (k : Int) := by unfold predV; omega
theorem bin_sub_pred (j : Nat) (h : j < 1024) : binInt .sub .i64 (j : Nat) .i64 ((1 : Nat) : Int) = some (.int .i64 (predV j)) := by
  cases j with
  | zero => rfl
  | succ j =>
    simp only [binInt, if_pos]; congr 2
    rw [predV_succ, show ((j + 1 : Nat) : Int) - ((1 : Nat) : Int) = (j : Int) by omega, i64_wrap (by omega)]
theorem pv16 : predV 16 = ((15 : Nat) : Int) := rfl
theorem pv256 : predV 256 = ((255 : Nat) : Int) := rfl
theorem modB {x : Nat} (h : x < B) : x % B = x := Nat.mod_eq_of_lt h
theorem B_big : 1099511627776 ≤ B := by rw [B_eq]; decide
theorem dg_top {x y k : Nat} (h : x / 65536 ^ (k + 1) = y / 65536 ^ (k + 1)) : (dg x k < dg y k → x < y) ∧ (dg x k = dg y k → x / 65536 ^ k = y / 65536 ^ k) := by
  have e : ∀ z, z / 65536 ^ k = 65536 * (z / 65536 ^ (k + 1)) + dg z k := by
    intro z; rw [Nat.pow_succ, ← Nat.div_div_eq_div_mul, dg]; omega
  constructor
  · intro hd
    have : x / 65536 ^ k < y / 65536 ^ k := by rw [e x, e y, h]; omega
    exact Nat.lt_of_not_le fun hle => by have := Nat.div_le_div_right (c := 65536 ^ k) hle; omega
  · intro hd; rw [e x, e y, h, hd]
theorem bit_dg (a i : Nat) : dg a (i / 16) / 2 ^ (i % 16) % 2 = bitOf a i := by
  unfold dg bitOf
  rw [pow16]
  conv => rhs; rw [show i = 16 * (i / 16) + i % 16 by omega, Nat.pow_add, ← Nat.div_div_eq_div_mul]
  generalize a / 2 ^ (16 * (i / 16)) = y
  have h : i % 16 < 16 := Nat.mod_lt _ (by decide)
  generalize i % 16 = r at *
  have e : (65536 : Nat) = 2 ^ r * (2 * 2 ^ (15 - r)) := by
    rw [show (2 : Nat) * 2 ^ (15 - r) = 2 ^ (15 - r + 1) by rw [Nat.pow_succ, Nat.mul_comm], ← Nat.pow_add, show r + (15 - r + 1) = 16 by omega]
  rw [e, Nat.mod_mul_right_div_self, Nat.mod_mul_right_mod]
end Go.Proofs.YtcjchcommaahdaaGreat

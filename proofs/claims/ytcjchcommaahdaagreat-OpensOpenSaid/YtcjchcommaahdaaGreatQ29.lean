/- Proofs that two logarithms are one: the challenge. Proofs that two logarithms are one: Prove. Proofs that two logarithms are one: the document's. Proofs that two logarithms are one: the document's Prove; products. No conditions. -/
import Derived.Test.YtcjchcommaahdaaGreatQ12
import Derived.Test.YtcjchcommaahdaaGreatQ28
set_option maxRecDepth 20000
set_option maxHeartbeats 4000000
set_option linter.all false
namespace Go.Proofs.YtcjchcommaahdaaGreat
open Go.Ab
/-- Parts, each a list of the function's own. -/
def PartsB (nb n : Nat) (H : Heap) (vs : List Value) (ps : List (List Nat)) : Prop := vs.length = ps.length ∧ ∀ (i : Nat) v p, vs[i]? = some v → ps[i]? = some p → OwnB nb n H v (bs p) 5 1
theorem PartsB.nil (nb n : Nat) (H : Heap) : PartsB nb n H [] [] := ⟨rfl, fun i v p h => by simp at h⟩
theorem PartsB.keep {nb n n' : Nat} {H H' : Heap} {vs : List Value} {ps : List (List Nat)} (h : PartsB nb n H vs ps) (hA : ∀ j, nb ≤ j → j < n → H' j = H j) (hn : n ≤ n') : PartsB nb n' H' vs ps :=
  ⟨h.1, fun i v p h1 h2 => (h.2 i v p h1 h2).keep hA hn⟩
theorem PartsB.snoc {nb n : Nat} {H : Heap} {v : Value} {p : List Nat} {vs : List Value} {ps : List (List Nat)} (h2 : PartsB nb n H vs ps) (h : OwnB nb n H v (bs p) 5 1) : PartsB nb n H (vs ++ [v]) (ps ++ [p]) :=
  ⟨by simp [h2.1], fun i v' p' h3 h4 => by
    by_cases hi : i < vs.length
    · rw [List.getElem?_append_left hi] at h3; rw [List.getElem?_append_left (by rw [← h2.1]; exact hi)] at h4; exact h2.2 i v' p' h3 h4
    · by_cases hi2 : i = vs.length
      · subst hi2; rw [List.getElem?_append_right (Nat.le_refl _)] at h3; rw [List.getElem?_append_right (by rw [h2.1]; exact Nat.le_refl _)] at h4
        rw [h2.1] at h3 h4; simp at h3 h4; subst h3 h4; exact h
      · rw [List.getElem?_eq_none (by simp; omega)] at h3; cases h3⟩
theorem PartsB.toA {nb n : Nat} {H : Heap} {vs : List Value} {ps : List (List Nat)} (h : PartsB nb n H vs ps) : PartsA n H vs ps :=
  ⟨h.1, fun i v p h1 h2 => ⟨(h.2 i v p h1 h2).srcA (bs_all _), (h.2 i v p h1 h2).capd⟩⟩
theorem PartsB.one {nb n : Nat} {H : Heap} {vs : List Value} {ps : List (List Nat)} (h : PartsB nb n H vs ps) : vs.all Value.oneCell' = true := by
  rw [List.all_eq_true]
  intro v hv
  obtain ⟨i, hi⟩ := List.getElem?_of_mem hv
  obtain ⟨hlt, _⟩ := List.getElem?_eq_some_iff.1 hi
  obtain ⟨⟨b, k, cap, rest, rfl, -⟩, -⟩ := h.2 i v (ps[i]'(by rw [← h.1]; exact hlt)) hi (List.getElem?_eq_getElem _)
  rfl
/-- Long numbers, each as bytes. -/
def longs (a : Nat → U) (k : Nat) : List (List Nat) := (List.range k).map fun i => long (a i).val
theorem longs_length (a : Nat → U) (k : Nat) : (longs a k).length = k := by simp [longs]
theorem longs_succ (a : Nat → U) (k : Nat) : longs a (k + 1) = longs a k ++ [long (a k).val] := by simp [longs, List.range_succ]
theorem longs_ok (a : Nat → U) (k : Nat) : ∀ p, p ∈ longs a k → p.length ≤ 100000 ∧ ∀ c, c ∈ p → c < 256 := by
  intro p hp
  simp only [longs, List.mem_map] at hp
  obtain ⟨i, _, rfl⟩ := hp
  exact ⟨by rw [long_length]; omega, long_lt _⟩
theorem rep_flat (k : Nat) (x : Value) : (List.replicate k [x]).flatten = List.replicate k x := by
  induction k with
  | zero => rfl
  | succ k ih => rw [List.replicate_succ, List.flatten_cons, ih, List.replicate_succ]; rfl
theorem rep_set (vs : List Value) (k i : Nat) (x v : Value) (h : vs.length = i) (hi : i < k) : splice (vs ++ List.replicate (k - i) x) i [v] = (vs ++ [v]) ++ List.replicate (k - (i + 1)) x := by
  unfold splice
  rw [← h, List.take_left, List.drop_append, List.drop_eq_nil_of_le (by simp), List.nil_append]
  simp only [List.length_cons, List.length_nil, List.drop_replicate]
  congr 2; omega
attribute [local irreducible] bs longs numH numE long
theorem pf_challenge (G : Grp) (t : ByteArray) (a : Nat → U) (k bl cl : Nat) (csl : List Value) (el : TypeId) (fl' : Nat × Nat) (H : Heap) (n : Nat) (ht : t.size ≤ 1000) (hk : k < 200) (ha : ∀ i, i < k → i * 4 + 4 ≤ csl.length ∧ (csl.drop (i * 4)).take 4 = vcells (N (a i).val)) (hbl : bl < n) (hHl : H bl = some (.cells csl el fl')) : ACall Tryz.prog 62 [FV G t, .slice (some ⟨bl, 0, none⟩) k cl] H n (Ret (N (numH G.q.val t (longs a k))) H n) := by
  refine acall_retF mix lw Tryz.func62 ok62 (fun _ _ => Tryz.call62 _ _) rfl ?_
  have q1 : (((k : Nat) : Int) < 2 ^ 62 ∧ ((24 : Nat) : Int) * ((k : Nat) : Int) ≤ 2 ^ 48) = True := by
    apply propext; refine ⟨fun _ => trivial, fun _ => ⟨by omega, by omega⟩⟩
  refine wk7 @c62.eq_1 rN rG rF @q1 @rep_flat @Nat.le_refl ?_
  generalize hG : upd (upd (upd H _ _) _ _) _ _ = K
  have k0 : K n = some (.cells [.int .u64 (w0 G.p.val : Nat), .int .u64 (w1 G.p.val : Nat), .int .u64 (w2 G.p.val : Nat), .int .u64 (w3 G.p.val : Nat), .int .u64 (w0 G.q.val : Nat), .int .u64 (w1 G.q.val : Nat), .int .u64 (w2 G.q.val : Nat), .int .u64 (w3 G.q.val : Nat), .int .u64 (w0 G.g.val : Nat), .int .u64 (w1 G.g.val : Nat), .int .u64 (w2 G.g.val : Nat), .int .u64 (w3 G.g.val : Nat), .int .u64 (w0 G.h.val : Nat), .int .u64 (w1 G.h.val : Nat), .int .u64 (w2 G.h.val : Nat), .int .u64 (w3 G.h.val : Nat), .string t] 96 (0, 0)) := by rw [← hG, upd_ne _ _ (by omega), upd_ne _ _ (by omega), upd_same]
  have k1 : K (n + 1) = some (.cells [.int .u64 ((0 : Nat) : Int), .int .u64 ((0 : Nat) : Int), .int .u64 ((0 : Nat) : Int), .int .u64 ((0 : Nat) : Int)] 24 (0, 0)) := by rw [← hG, upd_ne _ _ (by omega), upd_same]
  have k4 : K (n + 4) = some (.cells (List.replicate k (.slice none 0 0)) 66 (0, 0)) := by rw [← hG, upd_same]
  have kA : Agree n H K := fun i hi => by rw [← hG, upd_ne _ _ (by omega), upd_ne _ _ (by omega), upd_ne _ _ (by omega)]
  clear hG
  refine AGo_cycleD (α := (Nat × List Value)) 16 37 (fun x => [(15, .int .i64 (x.1 : Nat))]) (fun x H' n' => x.1 ≤ k ∧ n + 9 ≤ n' ∧ H' n = some (.cells [.int .u64 (w0 G.p.val : Nat), .int .u64 (w1 G.p.val : Nat), .int .u64 (w2 G.p.val : Nat), .int .u64 (w3 G.p.val : Nat), .int .u64 (w0 G.q.val : Nat), .int .u64 (w1 G.q.val : Nat), .int .u64 (w2 G.q.val : Nat), .int .u64 (w3 G.q.val : Nat), .int .u64 (w0 G.g.val : Nat), .int .u64 (w1 G.g.val : Nat), .int .u64 (w2 G.g.val : Nat), .int .u64 (w3 G.g.val : Nat), .int .u64 (w0 G.h.val : Nat), .int .u64 (w1 G.h.val : Nat), .int .u64 (w2 G.h.val : Nat), .int .u64 (w3 G.h.val : Nat), .string t] 96 (0, 0)) ∧ H' (n + 1) = some (.cells [.int .u64 ((0 : Nat) : Int), .int .u64 ((0 : Nat) : Int), .int .u64 ((0 : Nat) : Int), .int .u64 ((0 : Nat) : Int)] 24 (0, 0)) ∧ H' (n + 4) = some (.cells (x.2 ++ List.replicate (k - x.1) (.slice none 0 0)) 66 (0, 0)) ∧ PartsB (n + 5) n' H' x.2 (longs a x.1) ∧ Agree n H H') (fun x H' n' => n + 9 ≤ n' ∧ H' n = some (.cells [.int .u64 (w0 G.p.val : Nat), .int .u64 (w1 G.p.val : Nat), .int .u64 (w2 G.p.val : Nat), .int .u64 (w3 G.p.val : Nat), .int .u64 (w0 G.q.val : Nat), .int .u64 (w1 G.q.val : Nat), .int .u64 (w2 G.q.val : Nat), .int .u64 (w3 G.q.val : Nat), .int .u64 (w0 G.g.val : Nat), .int .u64 (w1 G.g.val : Nat), .int .u64 (w2 G.g.val : Nat), .int .u64 (w3 G.g.val : Nat), .int .u64 (w0 G.h.val : Nat), .int .u64 (w1 G.h.val : Nat), .int .u64 (w2 G.h.val : Nat), .int .u64 (w3 G.h.val : Nat), .string t] 96 (0, 0)) ∧ H' (n + 1) = some (.cells [.int .u64 ((0 : Nat) : Int), .int .u64 ((0 : Nat) : Int), .int .u64 ((0 : Nat) : Int), .int .u64 ((0 : Nat) : Int)] 24 (0, 0)) ∧ H' (n + 4) = some (.cells x.2 66 (0, 0)) ∧ PartsB (n + 5) n' H' x.2 (longs a k) ∧ Agree n H H') (fun x => k - x.1) ((0, [])) ?_ (by simp only [subs_nil, subs_if, lk_if, lk_nil, dropR_nil, dropR_cons, Nat.reduceLT, List.cons_append, List.nil_append, List.elem_nil, List.elem_cons, Nat.reduceBEq, beq_self_eq_true, Bool.true_or, Bool.false_or, Bool.or_true, Bool.or_false, Bool.false_eq_true, ↓reduceIte, if_true, if_false, Nat.reduceEqDiff, and_self, and_true, true_and, eq_self]) ?_ ?_
  · exact ⟨Nat.zero_le _, by omega, k0, k1, k4, by unfold longs; exact PartsB.nil _ _ _, kA⟩
  · clear k0 k1 k4 kA
    rintro ⟨i, vs⟩ H' n' kk ⟨hi, hn, g0, g1, g4, gp, gA⟩ hK hS
    simp only at hi g4 gp
    simp only [List.cons_append, List.nil_append, dropR_nil, dropR_cons, Nat.reduceLT, ↓reduceIte]
    by_cases hlt : i < k
    · obtain ⟨a1, a2⟩ := ha i hlt
      have hHl' : H' bl = some (.cells csl el fl') := by rw [gA bl hbl]; exact hHl
      have hvl : vs.length = i := by rw [gp.1, longs_length]
      refine AGo_turn ?_
      refine wk8 rN rG rI @hlt @hHl' @a1 @a2 @agg_vN ?_
      generalize hG : upd H' (n' + 4) _ = K
      have j0 : K n = some (.cells [.int .u64 (w0 G.p.val : Nat), .int .u64 (w1 G.p.val : Nat), .int .u64 (w2 G.p.val : Nat), .int .u64 (w3 G.p.val : Nat), .int .u64 (w0 G.q.val : Nat), .int .u64 (w1 G.q.val : Nat), .int .u64 (w2 G.q.val : Nat), .int .u64 (w3 G.q.val : Nat), .int .u64 (w0 G.g.val : Nat), .int .u64 (w1 G.g.val : Nat), .int .u64 (w2 G.g.val : Nat), .int .u64 (w3 G.g.val : Nat), .int .u64 (w0 G.h.val : Nat), .int .u64 (w1 G.h.val : Nat), .int .u64 (w2 G.h.val : Nat), .int .u64 (w3 G.h.val : Nat), .string t] 96 (0, 0)) := by rw [← hG, upd_ne _ _ (by omega)]; exact g0
      have j1 : K (n + 1) = some (.cells [.int .u64 ((0 : Nat) : Int), .int .u64 ((0 : Nat) : Int), .int .u64 ((0 : Nat) : Int), .int .u64 ((0 : Nat) : Int)] 24 (0, 0)) := by rw [← hG, upd_ne _ _ (by omega)]; exact g1
      have j4 : K (n + 4) = some (.cells (vs ++ List.replicate (k - i) (.slice none 0 0)) 66 (0, 0)) := by rw [← hG, upd_ne _ _ (by omega)]; exact g4
      have jp : PartsB (n + 5) (n' + 7) K vs (longs a i) := gp.keep (fun j h1 h2 => by rw [← hG, upd_ne _ _ (by omega)]) (by omega)
      have jA : Agree n H K := fun i hi => by rw [← hG, upd_ne _ _ (by omega)]; exact gA i hi
      clear hG g0 g1 g4 gp gA
      refine AGo_makeB (nums_PutLong [] (a i).val _ _ _ (srcA_nil _ _) (by simp)) ?_
      intro v3 H3 n3 o3 hA3 hn3
      rw [List.nil_append] at o3
      have o3' := o3
      obtain ⟨⟨b, kb, cap, rest, rfl, -⟩, -⟩ := o3
      replace j4 := (hA3 (n + 4) (by omega)).trans j4
      have hln : (vs ++ List.replicate (k - i) (Value.slice none 0 0)).length = k := by rw [List.length_append, List.length_replicate]; omega
      simp (disch := first | assumption | omega) only [ite_lt, ite_le, bin_rem_u64, bin_quo_u64, fl_get, fl_splice, fl_splice_all, fl_length, fl_all, fl_take, cell_wK, j4, hln, hlt, rep_set vs k i (.slice none 0 0) _ hvl hlt, W1, sim, ↓reduceIte, Nat.reduceAdd, Nat.reduceSub, Nat.reduceMul, Nat.reduceLT, Nat.reduceLeDiff, Nat.reduceEqDiff, Nat.reduceBEq, Nat.reduceBNe, Nat.reduceMod, Nat.reduceDiv]
      refine AGo_le ?_ (hS (i + 1, vs ++ [.slice (some ⟨b, 0, none⟩) kb cap]) _ _ ⟨by simp only; omega, by omega, ?_, ?_, ?_, ?_, ?_⟩ (by simp only; omega))
      · simp only [subs_nil, subs_if, lk_if, lk_nil, dropR_nil, dropR_cons, Nat.reduceLT, List.cons_append, List.nil_append, List.elem_nil, List.elem_cons, Nat.reduceBEq, beq_self_eq_true, Bool.true_or, Bool.false_or, Bool.or_true, Bool.or_false, Bool.false_eq_true, ↓reduceIte, if_true, if_false, Nat.reduceEqDiff, and_self, and_true, true_and, eq_self]
      · rw [upd_ne _ _ (by omega), hA3 _ (by omega)]; exact j0
      · rw [upd_ne _ _ (by omega), hA3 _ (by omega)]; exact j1
      · rw [upd_same]
      · simp only; rw [longs_succ]
        refine PartsB.snoc (jp.keep (fun j h1 h2 => ?_) (by omega)) ((o3'.weaken (by omega)).keep (fun j h1 h2 => ?_) (by omega))
        · rw [upd_ne _ _ (by omega), hA3 _ (by omega)]
        · rw [upd_ne _ _ (by omega)]
      · intro i hi; rw [upd_ne _ _ (by omega), hA3 _ (by omega)]; exact jA i hi
    · have hik : i = k := by omega
      subst hik
      rw [Nat.sub_self, List.replicate_zero, List.append_nil] at g4
      refine AGo_turn ?_
      refine wk1 @hlt ?_
      refine AGo_markL ?_ (hK (i, vs) _ _ ⟨by omega, g0, g1, g4, gp.keep (fun _ _ _ => rfl) (by omega), gA⟩)
      · simp only [subs_nil, subs_if, lk_if, lk_nil, dropR_nil, dropR_cons, Nat.reduceLT, List.cons_append, List.nil_append, List.elem_nil, List.elem_cons, Nat.reduceBEq, beq_self_eq_true, Bool.true_or, Bool.false_or, Bool.or_true, Bool.or_false, Bool.false_eq_true, ↓reduceIte, if_true, if_false, Nat.reduceEqDiff, and_self, and_true, true_and, eq_self]
  clear k0 k1 k4 kA
  rintro ⟨i, vs⟩ H2 n2 ⟨hn2, g0, g1, g4, gp, gA⟩
  simp only at g4 gp
  simp only [List.cons_append, List.nil_append, dropR_nil, dropR_cons, Nat.reduceLT, ↓reduceIte]
  have hll := longs_length a k
  have hnum := fun m hm => h_Number G.q.val t (longs a k) vs [] (n + 4) k 66 (0, 0) H2 m G.q.isLt ht (by rw [hll]; exact hk) (longs_ok a k) (gp.toA.later (fun _ _ => rfl) hm) gp.one (by omega) (by rw [List.append_nil]; exact g4)
  rw [hll] at hnum
  refine wk3 rN rG @g0 ?_
  refine AGo_askV (hnum _ (by omega)) ?_
  refine wk3 rN rG @g1 ?_
  exact ⟨rfl, agr⟩
end Go.Proofs.YtcjchcommaahdaaGreat
namespace Go.Proofs.YtcjchcommaahdaaGreat
open Go.Ab
def six (a b c d e f : U) (i : Nat) : U := [a, b, c, d, e, f].getD i uz
theorem six_cells (a b c d e f : U) : ∀ i, i < 6 → i * 4 + 4 ≤ (vcells (N a.val) ++ (vcells (N b.val) ++ (vcells (N c.val) ++ (vcells (N d.val) ++ (vcells (N e.val) ++ vcells (N f.val)))))).length ∧ ((vcells (N a.val) ++ (vcells (N b.val) ++ (vcells (N c.val) ++ (vcells (N d.val) ++ (vcells (N e.val) ++ vcells (N f.val)))))).drop (i * 4)).take 4 = vcells (N (six a b c d e f i).val) := by
  intro i hi
  have h : i = 0 ∨ i = 1 ∨ i = 2 ∨ i = 3 ∨ i = 4 ∨ i = 5 := by omega
  rcases h with rfl | rfl | rfl | rfl | rfl | rfl <;> exact ⟨Nat.le_of_ble_eq_true rfl, rfl⟩
/-- A challenge. -/
def chal (G : Grp) (t : ByteArray) (a b c d e f : U) : U := ur (numH G.q.val t (longs (six a b c d e f) 6))
theorem chal_val (G : Grp) (t : ByteArray) (a b c d e f : U) : numH G.q.val t (longs (six a b c d e f) 6) = (chal G t a b c d e f).val := (ur_val (numH_lt G.q.isLt _ _)).symm
/-- Two numbers, as a proof, or a signature. -/
def PV (c s : U) : Value := .agg #[.int .u64 (w0 c.val : Nat), .int .u64 (w1 c.val : Nat), .int .u64 (w2 c.val : Nat), .int .u64 (w3 c.val : Nat), .int .u64 (w0 s.val : Nat), .int .u64 (w1 s.val : Nat), .int .u64 (w2 s.val : Nat), .int .u64 (w3 s.val : Nat)]
theorem PV_fold (c s : U) : Value.agg #[.int .u64 (w0 c.val : Nat), .int .u64 (w1 c.val : Nat), .int .u64 (w2 c.val : Nat), .int .u64 (w3 c.val : Nat), .int .u64 (w0 s.val : Nat), .int .u64 (w1 s.val : Nat), .int .u64 (w2 s.val : Nat), .int .u64 (w3 s.val : Nat)] = PV c s := rfl
theorem vcells_PV (c s : U) : vcells (PV c s) = [.int .u64 (w0 c.val : Nat), .int .u64 (w1 c.val : Nat), .int .u64 (w2 c.val : Nat), .int .u64 (w3 c.val : Nat), .int .u64 (w0 s.val : Nat), .int .u64 (w1 s.val : Nat), .int .u64 (w2 s.val : Nat), .int .u64 (w3 s.val : Nat)] := rfl
theorem isTup_PV (c s : U) : isTup (PV c s) = false := rfl
theorem rP : type_of% (And.intro @PV_fold (And.intro @vcells_PV @isTup_PV)) := (And.intro @PV_fold (And.intro @vcells_PV @isTup_PV))
theorem PV_zero : Value.agg #[.int .u64 ((0 : Nat) : Int), .int .u64 ((0 : Nat) : Int), .int .u64 ((0 : Nat) : Int), .int .u64 ((0 : Nat) : Int), .int .u64 ((0 : Nat) : Int), .int .u64 ((0 : Nat) : Int), .int .u64 ((0 : Nat) : Int), .int .u64 ((0 : Nat) : Int)] = PV uz uz := by
  unfold PV; rw [uz_val]; unfold w0 w1 w2 w3; simp
theorem low_PV (n : Nat) (c s : U) : Low n (PV c s) := Low.agg (LowL.cons Low.int (LowL.cons Low.int (LowL.cons Low.int (LowL.cons Low.int (LowL.cons Low.int (LowL.cons Low.int (LowL.cons Low.int (LowL.cons Low.int (LowL.nil n)))))))))
def proveOk (G : Grp) (x base y draw : U) : Bool := (mayG G base && mayG G y) && (isExp G x && (isExp G draw && decide (draw.val ≠ 0)))
def proveC (G : Grp) (t : ByteArray) (x base y draw : U) : U := chal G t base (grpExp G base x).1 y (grpExp G y x).1 (grpExp G base draw).1 (grpExp G y draw).1
def proveS (G : Grp) (t : ByteArray) (x base y draw : U) : U := (modAdd draw (modMul x (proveC G t x base y draw) G.q).1 G.q).1
def proveV (G : Grp) (t : ByteArray) (x base y draw : U) : Value :=
  if proveOk G x base y draw then .tuple #[PV (proveC G t x base y draw) (proveS G t x base y draw), .int .i64 ((0 : Nat) : Int)] else .tuple #[PV uz uz, .int .i64 ((1 : Nat) : Int)]
theorem proveV_ok {G : Grp} {t : ByteArray} {x base y draw : U} (h1 : (mayG G base && mayG G y) = true) (h2 : isExp G x = true) (h3 : isExp G draw = true) (h4 : ¬ draw.val = 0) : proveV G t x base y draw = .tuple #[PV (proveC G t x base y draw) (proveS G t x base y draw), .int .i64 ((0 : Nat) : Int)] := by
  unfold proveV proveOk; rw [h1, h2, h3, decide_eq_true h4]; rfl
theorem proveV_no {G : Grp} {t : ByteArray} {x base y draw : U} (h : proveOk G x base y draw = false) : proveV G t x base y draw = .tuple #[PV uz uz, .int .i64 ((1 : Nat) : Int)] := by
  unfold proveV; rw [h]; rfl
theorem proveC_def (G : Grp) (t : ByteArray) (x base y draw : U) : chal G t base (grpExp G base x).1 y (grpExp G y x).1 (grpExp G base draw).1 (grpExp G y draw).1 = proveC G t x base y draw := rfl
theorem proveS_def (G : Grp) (t : ByteArray) (x base y draw : U) : (modAdd draw (modMul x (proveC G t x base y draw) G.q).1 G.q).1 = proveS G t x base y draw := rfl
theorem low_proveV (n : Nat) (G : Grp) (t : ByteArray) (x base y draw : U) : Low n (proveV G t x base y draw) := by
  unfold proveV; split
  · exact low_pair (low_PV _ _ _) Low.int
  · exact low_pair (low_PV _ _ _) Low.int
theorem grpMul_ok {G : Grp} {a b : U} (h : (mayG G a && mayG G b) = true) : (grpMul G a b).2 = 0 := by
  rw [grpMul, if_pos h]
  simp only [mayG, Bool.and_eq_true, decide_eq_true_eq] at h
  rw [modMul, if_pos (by rw [mayM_iff]; omega)]
theorem grpMul_no {G : Grp} {a b : U} (h : (mayG G a && mayG G b) = false) : (grpMul G a b).2 = 1 := by
  rw [grpMul, h]; rfl
attribute [local irreducible] chal proveV proveC proveS numH longs isExp mayG grpExp grpMul modMul modAdd
theorem pf_Prove (G : Grp) (t : ByteArray) (x base y draw : U) (H : Heap) (n : Nat) (ht : t.size ≤ 1000) : ACall Tryz.prog 25 [GV G, .string t, N x.val, N base.val, N y.val, N draw.val] H n (Ret (proveV G t x base y draw) H n) := by
  refine acall_retF mix (low_proveV _ _ _ _ _ _ _) Tryz.func25 ok25 (fun _ _ => Tryz.call25 _ _) rfl ?_
  have bbp := BB_pos
  have hdlt := draw.isLt
  cases hm : (mayG G base && mayG G y) with
  | false =>
    rw [proveV_no (by unfold proveOk; rw [hm]; rfl)]
    refine wk6 @c25.eq_1 rN rG rF rP @PV_zero ?_
    refine AGo_askV (gr_Mul G base y _ _) ?_
    simp (disch := first | assumption | omega) only [N_fold, N_zero, N_one, GV_fold, vcells_GV, isTup_GV, RV, grpMul_no hm, FV_fold, vcells_FV, isTup_FV, PV_fold, vcells_PV, isTup_PV, PV_zero, W, sim, ↓reduceIte, Nat.reduceAdd, Nat.reduceSub, Nat.reduceMul, Nat.reduceLT, Nat.reduceLeDiff, Nat.reduceEqDiff, Nat.reduceBEq, Nat.reduceBNe, Nat.reduceMod, Nat.reduceDiv]
    exact ⟨rfl, agr⟩
  | true =>
    cases hx : isExp G x with
    | false =>
      rw [proveV_no (by unfold proveOk; rw [hm, hx]; rfl)]
      refine wk6 @c25.eq_1 rN rG rF rP @PV_zero ?_
      refine AGo_askV (gr_Mul G base y _ _) ?_
      simp (disch := first | assumption | omega) only [N_fold, N_zero, N_one, GV_fold, vcells_GV, isTup_GV, RV, grpMul_ok hm, FV_fold, vcells_FV, isTup_FV, PV_fold, vcells_PV, isTup_PV, PV_zero, W, sim, ↓reduceIte, Nat.reduceAdd, Nat.reduceSub, Nat.reduceMul, Nat.reduceLT, Nat.reduceLeDiff, Nat.reduceEqDiff, Nat.reduceBEq, Nat.reduceBNe, Nat.reduceMod, Nat.reduceDiv]
      refine AGo_askV (pf_exponent G t x _ _) ?_
      refine wk6 rN rG @hx rF rP @PV_zero ?_
      exact ⟨rfl, agr⟩
    | true =>
      cases hd : isExp G draw with
      | false =>
        rw [proveV_no (by unfold proveOk; rw [hm, hx, hd]; rfl)]
        refine wk6 @c25.eq_1 rN rG rF rP @PV_zero ?_
        refine AGo_askV (gr_Mul G base y _ _) ?_
        simp (disch := first | assumption | omega) only [N_fold, N_zero, N_one, GV_fold, vcells_GV, isTup_GV, RV, grpMul_ok hm, FV_fold, vcells_FV, isTup_FV, PV_fold, vcells_PV, isTup_PV, PV_zero, W, sim, ↓reduceIte, Nat.reduceAdd, Nat.reduceSub, Nat.reduceMul, Nat.reduceLT, Nat.reduceLeDiff, Nat.reduceEqDiff, Nat.reduceBEq, Nat.reduceBNe, Nat.reduceMod, Nat.reduceDiv]
        refine AGo_askV (pf_exponent G t x _ _) ?_
        refine wk6 rN rG @hx rF rP @PV_zero ?_
        refine AGo_askV (pf_exponent G t draw _ _) ?_
        refine wk6 rN rG @hd rF rP @PV_zero ?_
        exact ⟨rfl, agr⟩
      | true =>
        by_cases h0 : draw.val = 0
        · rw [proveV_no (by unfold proveOk; rw [hm, hx, hd, h0]; rfl)]
          refine wk6 @c25.eq_1 rN rG rF rP @PV_zero ?_
          refine AGo_askV (gr_Mul G base y _ _) ?_
          simp (disch := first | assumption | omega) only [N_fold, N_zero, N_one, GV_fold, vcells_GV, isTup_GV, RV, grpMul_ok hm, FV_fold, vcells_FV, isTup_FV, PV_fold, vcells_PV, isTup_PV, PV_zero, W, sim, ↓reduceIte, Nat.reduceAdd, Nat.reduceSub, Nat.reduceMul, Nat.reduceLT, Nat.reduceLeDiff, Nat.reduceEqDiff, Nat.reduceBEq, Nat.reduceBNe, Nat.reduceMod, Nat.reduceDiv]
          refine AGo_askV (pf_exponent G t x _ _) ?_
          refine wk6 rN rG @hx rF rP @PV_zero ?_
          refine AGo_askV (pf_exponent G t draw _ _) ?_
          refine wk7 rN rG @hd @h0 rF rP @PV_zero ?_
          exact ⟨rfl, agr⟩
        · rw [proveV_ok hm hx hd h0]
          refine wk6 @c25.eq_1 rN rG rF rP @PV_zero ?_
          refine AGo_askV (gr_Mul G base y _ _) ?_
          simp (disch := first | assumption | omega) only [N_fold, N_zero, N_one, GV_fold, vcells_GV, isTup_GV, RV, grpMul_ok hm, FV_fold, vcells_FV, isTup_FV, PV_fold, vcells_PV, isTup_PV, PV_zero, W, sim, ↓reduceIte, Nat.reduceAdd, Nat.reduceSub, Nat.reduceMul, Nat.reduceLT, Nat.reduceLeDiff, Nat.reduceEqDiff, Nat.reduceBEq, Nat.reduceBNe, Nat.reduceMod, Nat.reduceDiv]
          refine AGo_askV (pf_exponent G t x _ _) ?_
          refine wk6 rN rG @hx rF rP @PV_zero ?_
          refine AGo_askV (pf_exponent G t draw _ _) ?_
          refine wk7 rN rG @hd @h0 rF rP @PV_zero ?_
          refine AGo_askV (pf_power G t base x _ _) ?_
          refine wk5 rN rG rF rP @PV_zero ?_
          refine AGo_askV (pf_power G t y x _ _) ?_
          refine wk5 rN rG rF rP @PV_zero ?_
          refine AGo_askV (pf_power G t base draw _ _) ?_
          refine wk5 rN rG rF rP @PV_zero ?_
          refine AGo_askV (pf_power G t y draw _ _) ?_
          refine wk5 rN rG rF rP @PV_zero ?_
          have hch := fun H' n' hbl hHl => pf_challenge G t (six base (grpExp G base x).1 y (grpExp G y x).1 (grpExp G base draw).1 (grpExp G y draw).1) 6 (n + 63) 6 _ 24 (0, 0) H' n' ht (by omega) (six_cells _ _ _ _ _ _) hbl hHl
          simp only [chal_val, proveC_def] at hch
          refine AGo_askV (hch _ _ (by omega) (upd_same _ _ _)) ?_
          refine wk5 rN rG rF rP @PV_zero ?_
          refine AGo_askV (sc_Mul G x (proveC G t x base y draw) _ _) ?_
          refine wk6 rN rG @RV.eq_1 rF rP @PV_zero ?_
          refine AGo_askV (sc_Add G draw (modMul x (proveC G t x base y draw) G.q).1 _ _) ?_
          refine wk7 rN rG @RV.eq_1 rF rP @PV_zero @proveS_def ?_
          exact ⟨rfl, agr⟩
end Go.Proofs.YtcjchcommaahdaaGreat
namespace Go.Ab
theorem OwnB.keep2 {nb n n' : Nat} {H H' : Heap} {v : Value} {l : List Value} {e : TypeId} {esz : Nat} (h : OwnB nb n H v l e esz) (hA : ∀ b k c, v = .slice (some ⟨b, 0, none⟩) k c → H' b = H b) (hn : n ≤ n') : OwnB nb n' H' v l e esz :=
  ⟨h.1.agree (n := 0) fun b k c hv => hA b k c hv, fun b k c hv => by have := h.2 b k c hv; omega⟩
end Go.Ab
namespace Go.Proofs.YtcjchcommaahdaaGreat
open Go.Ab
theorem PartsB.keep2 {nb n n' : Nat} {H H' : Heap} {vs : List Value} {ps : List (List Nat)} (h : PartsB nb n H vs ps) (hA : ∀ w, w ∈ vs → ∀ b k c, w = .slice (some ⟨b, 0, none⟩) k c → H' b = H b) (hn : n ≤ n') : PartsB nb n' H' vs ps :=
  ⟨h.1, fun i v p h1 h2 => (h.2 i v p h1 h2).keep2 (hA v (List.mem_of_getElem? h1)) hn⟩
theorem PartsB.lt {nb n : Nat} {H : Heap} {vs : List Value} {ps : List (List Nat)} (h : PartsB nb n H vs ps) {w : Value} (hw : w ∈ vs) {b k c : Nat} (e : w = .slice (some ⟨b, 0, none⟩) k c) : nb ≤ b ∧ b < n := by
  obtain ⟨i, hi⟩ := List.getElem?_of_mem hw
  obtain ⟨hlt, _⟩ := List.getElem?_eq_some_iff.1 hi
  have ho := h.2 i w (ps[i]'(by rw [← h.1]; exact hlt)) hi (List.getElem?_eq_getElem _)
  refine ⟨?_, ho.2 _ _ _ e⟩
  obtain ⟨_, _, _, _, e2, hb, _⟩ := ho.1
  rw [e2] at e; cases e; exact hb
theorem PartsB.weaken {nb nb' n : Nat} {H : Heap} {vs : List Value} {ps : List (List Nat)} (h : PartsB nb n H vs ps) (hn : nb' ≤ nb) : PartsB nb' n H vs ps :=
  ⟨h.1, fun i v p h1 h2 => (h.2 i v p h1 h2).weaken hn⟩
/-- No part is where the list of the parts is. -/
def Aside (v : Value) (vs : List Value) : Prop := ∀ w, w ∈ vs → ∀ b k c, w = .slice (some ⟨b, 0, none⟩) k c → ∀ k' c', v ≠ .slice (some ⟨b, 0, none⟩) k' c'
theorem six24 (a : Nat → U) (csl : List Value) (h : ∀ i, i < 6 → i * 4 + 4 ≤ csl.length ∧ (csl.drop (i * 4)).take 4 = vcells (N (a i).val)) : True := trivial
attribute [local irreducible] bs longs numH numE long
theorem r14_challenge (G : Grp) (t : ByteArray) (a : Nat → U) (csl : List Value) (H : Heap) (n : Nat) (ht : t.size ≤ 1000) (hl : csl.length = 24) (ha : ∀ i, i < 6 → i * 4 + 4 ≤ csl.length ∧ (csl.drop (i * 4)).take 4 = vcells (N (a i).val)) : ACall Tryz.prog 75 [GV G, .string t, .agg ⟨csl⟩] H n (Ret (N (numH G.q.val t (longs a 6))) H n) := by
  refine acall_retF mix lw Tryz.func75 ok75 (fun _ _ => Tryz.call75 _ _) rfl ?_
  refine wk3 @c75.eq_1 rN rG ?_
  generalize hG : upd (upd (upd H _ _) _ _) _ _ = K
  have k0 : K n = some (.cells [.int .u64 (w0 G.p.val : Nat), .int .u64 (w1 G.p.val : Nat), .int .u64 (w2 G.p.val : Nat), .int .u64 (w3 G.p.val : Nat), .int .u64 (w0 G.q.val : Nat), .int .u64 (w1 G.q.val : Nat), .int .u64 (w2 G.q.val : Nat), .int .u64 (w3 G.q.val : Nat), .int .u64 (w0 G.g.val : Nat), .int .u64 (w1 G.g.val : Nat), .int .u64 (w2 G.g.val : Nat), .int .u64 (w3 G.g.val : Nat), .int .u64 (w0 G.h.val : Nat), .int .u64 (w1 G.h.val : Nat), .int .u64 (w2 G.h.val : Nat), .int .u64 (w3 G.h.val : Nat)] 26 (0, 0)) := by rw [← hG, upd_ne _ _ (by omega), upd_ne _ _ (by omega), upd_same]
  have k1 : K (n + 1) = some (.cells csl 106 (0, 0)) := by rw [← hG, upd_ne _ _ (by omega), upd_same]
  have k2 : K (n + 2) = some (.cells [.int .u64 ((0 : Nat) : Int), .int .u64 ((0 : Nat) : Int), .int .u64 ((0 : Nat) : Int), .int .u64 ((0 : Nat) : Int)] 24 (0, 0)) := by rw [← hG, upd_same]
  have kA : Agree n H K := fun i hi => by rw [← hG, upd_ne _ _ (by omega), upd_ne _ _ (by omega), upd_ne _ _ (by omega)]
  clear hG
  refine AGo_cycleD (α := (Nat × Value × List Value)) 9 31 (fun x => [(8, .int .i64 (x.1 : Nat)), (7, x.2.1)]) (fun x H' n' => x.1 ≤ 6 ∧ n + 5 ≤ n' ∧ H' n = some (.cells [.int .u64 (w0 G.p.val : Nat), .int .u64 (w1 G.p.val : Nat), .int .u64 (w2 G.p.val : Nat), .int .u64 (w3 G.p.val : Nat), .int .u64 (w0 G.q.val : Nat), .int .u64 (w1 G.q.val : Nat), .int .u64 (w2 G.q.val : Nat), .int .u64 (w3 G.q.val : Nat), .int .u64 (w0 G.g.val : Nat), .int .u64 (w1 G.g.val : Nat), .int .u64 (w2 G.g.val : Nat), .int .u64 (w3 G.g.val : Nat), .int .u64 (w0 G.h.val : Nat), .int .u64 (w1 G.h.val : Nat), .int .u64 (w2 G.h.val : Nat), .int .u64 (w3 G.h.val : Nat)] 26 (0, 0)) ∧ H' (n + 1) = some (.cells csl 106 (0, 0)) ∧ H' (n + 2) = some (.cells [.int .u64 ((0 : Nat) : Int), .int .u64 ((0 : Nat) : Int), .int .u64 ((0 : Nat) : Int), .int .u64 ((0 : Nat) : Int)] 24 (0, 0)) ∧ Lst (n + 5) n' H' x.2.1 x.2.2 66 1 ∧ PartsB (n + 5) n' H' x.2.2 (longs a x.1) ∧ Aside x.2.1 x.2.2 ∧ Agree n H H') (fun x H' n' => n + 5 ≤ n' ∧ H' n = some (.cells [.int .u64 (w0 G.p.val : Nat), .int .u64 (w1 G.p.val : Nat), .int .u64 (w2 G.p.val : Nat), .int .u64 (w3 G.p.val : Nat), .int .u64 (w0 G.q.val : Nat), .int .u64 (w1 G.q.val : Nat), .int .u64 (w2 G.q.val : Nat), .int .u64 (w3 G.q.val : Nat), .int .u64 (w0 G.g.val : Nat), .int .u64 (w1 G.g.val : Nat), .int .u64 (w2 G.g.val : Nat), .int .u64 (w3 G.g.val : Nat), .int .u64 (w0 G.h.val : Nat), .int .u64 (w1 G.h.val : Nat), .int .u64 (w2 G.h.val : Nat), .int .u64 (w3 G.h.val : Nat)] 26 (0, 0)) ∧ H' (n + 2) = some (.cells [.int .u64 ((0 : Nat) : Int), .int .u64 ((0 : Nat) : Int), .int .u64 ((0 : Nat) : Int), .int .u64 ((0 : Nat) : Int)] 24 (0, 0)) ∧ OwnB (n + 5) n' H' x.2.1 x.2.2 66 1 ∧ PartsB (n + 5) n' H' x.2.2 (longs a 6) ∧ Agree n H H') (fun x => 6 - x.1) ((0, .slice none 0 0, [])) ?_ (by simp only [subs_nil, subs_if, lk_if, lk_nil, dropR_nil, dropR_cons, Nat.reduceLT, List.cons_append, List.nil_append, List.elem_nil, List.elem_cons, Nat.reduceBEq, beq_self_eq_true, Bool.true_or, Bool.false_or, Bool.or_true, Bool.or_false, Bool.false_eq_true, ↓reduceIte, if_true, if_false, Nat.reduceEqDiff, and_self, and_true, true_and, eq_self]) ?_ ?_
  · exact ⟨Nat.zero_le _, by omega, k0, k1, k2, .inl ⟨rfl, rfl⟩, by unfold longs; exact PartsB.nil _ _ _, fun w hw => by simp at hw, kA⟩
  · clear k0 k1 k2 kA
    rintro ⟨i, v, vs⟩ H' n' kk ⟨hi, hn, g0, g1, g2, gl, gp, gs, gA⟩ hK hS
    simp only at hi gl gp gs
    simp only [List.cons_append, List.nil_append, dropR_nil, dropR_cons, Nat.reduceLT, ↓reduceIte]
    by_cases hlt : i < 6
    · obtain ⟨a1, a2⟩ := ha i hlt
      have hvl : vs.length = i := by rw [gp.1, longs_length]
      refine AGo_turn ?_
      refine wk8 rN rG rI @hlt @g1 @a1 @a2 @agg_vN ?_
      refine AGo_makeB (r1_PutLong [] (a i).val _ _ _ (srcA_nil _ _) (by simp)) ?_
      intro v3 H3 n3 o3 hA3 hn3
      rw [List.nil_append] at o3
      have o3' := o3
      obtain ⟨⟨b, kb, cap, rest, rfl, hb3, -⟩, hbn3⟩ := o3
      replace hbn3 := hbn3 _ _ _ rfl
      refine wk0 ?_
      refine AGo_pushLS (n1 := n' + 8) (nb := n + 5) (l := vs) (((gl.keep (n' := n' + 7) (fun j h1 h2 => hA3 j (by omega)) (by omega))).upd (by omega) (by omega)) (src_mk (upd_same _ _ _) rfl rfl) (by simp) (by omega) (by omega) (by simp; omega) (by decide) (by omega) rfl ?_
      intro v2 H4 o2 hA4 hv2
      have hvlow : ∀ b' k c, v = .slice (some ⟨b', 0, none⟩) k c → b' < n' := by
        intro b' k c e
        rcases gl with ⟨h, -⟩ | h
        · rw [h] at e; cases e
        · exact h.2 _ _ _ e
      have hvlow2 : ∀ b' k c, v = .slice (some ⟨b', 0, none⟩) k c → n + 5 ≤ b' := by
        intro b' k c e
        rcases gl with ⟨h, -⟩ | h
        · rw [h] at e; cases e
        · obtain ⟨_, _, _, _, e2, hb, _⟩ := h.1
          rw [e2] at e; cases e; exact hb
      have hfr : ∀ j, j < n + 5 → H4 j = H' j := fun j hj => by
        rw [hA4 j (fun k c e => by have := hvlow2 _ _ _ e; omega) (by omega), upd_ne _ _ (by omega)]; exact hA3 j (by omega)
      refine wk0 ?_
      refine AGo_le ?_ (hS (i + 1, v2, vs ++ [.slice (some ⟨b, 0, none⟩) kb cap]) _ _ ⟨by simp only; omega, by omega, ?_, ?_, ?_, .inr (o2.keep (fun _ _ _ => rfl) (by omega)), ?_, ?_, ?_⟩ (by simp only; omega))
      · simp only [subs_nil, subs_if, lk_if, lk_nil, dropR_nil, dropR_cons, Nat.reduceLT, List.cons_append, List.nil_append, List.elem_nil, List.elem_cons, Nat.reduceBEq, beq_self_eq_true, Bool.true_or, Bool.false_or, Bool.or_true, Bool.or_false, Bool.false_eq_true, ↓reduceIte, if_true, if_false, Nat.reduceEqDiff, and_self, and_true, true_and, eq_self]
      · rw [hfr _ (by omega)]; exact g0
      · rw [hfr _ (by omega)]; exact g1
      · rw [hfr _ (by omega)]; exact g2
      · simp only; rw [longs_succ]
        refine PartsB.snoc (gp.keep2 (fun w hw b' k' c' e => ?_) (by omega)) ((o3'.weaken (by omega)).keep2 (fun b' k' c' e => ?_) (by omega))
        · obtain ⟨h1, h2⟩ := gp.lt hw e
          rw [hA4 b' (fun k c e' => gs w hw _ _ _ e _ _ e') (by omega), upd_ne _ _ (by omega)]; exact hA3 _ (by omega)
        · cases e
          rw [hA4 b (fun k c e' => by have := hvlow _ _ _ e'; omega) (by omega), upd_ne _ _ (by omega)]
      · intro w hw b' k' c' e k2 c2 e2
        simp only at hw e2
        rcases List.mem_append.1 hw with hw | hw
        · rcases hv2 _ _ _ e2 with ⟨k4, c4, e4⟩ | e4
          · exact gs w hw _ _ _ e _ _ e4
          · have := (gp.lt hw e).2; omega
        · simp only [List.mem_singleton] at hw
          rw [hw] at e; cases e
          rcases hv2 _ _ _ e2 with ⟨k4, c4, e4⟩ | e4
          · have := hvlow _ _ _ e4; omega
          · omega
      · intro j hj; rw [hfr j (by omega)]; exact gA j hj
    · have hik : i = 6 := by omega
      subst hik
      refine AGo_turn ?_
      refine wk1 @hlt ?_
      rcases gl with ⟨-, h⟩ | gl
      · subst h; have := gp.1; rw [longs_length] at this; simp at this
      refine AGo_markL ?_ (hK (6, v, vs) _ _ ⟨by omega, g0, g2, gl.keep (fun _ _ _ => rfl) (by omega), gp.keep (fun _ _ _ => rfl) (by omega), gA⟩)
      · simp only [subs_nil, subs_if, lk_if, lk_nil, dropR_nil, dropR_cons, Nat.reduceLT, List.cons_append, List.nil_append, List.elem_nil, List.elem_cons, Nat.reduceBEq, beq_self_eq_true, Bool.true_or, Bool.false_or, Bool.or_true, Bool.or_false, Bool.false_eq_true, ↓reduceIte, if_true, if_false, Nat.reduceEqDiff, and_self, and_true, true_and, eq_self]
  clear k0 k1 k2 kA
  rintro ⟨i, v, vs⟩ H2 n2 ⟨hn2, g0, g2, gl, gp, gA⟩
  simp only at gl gp
  obtain ⟨⟨b, k, cap, rest, rfl, hb, hB, hk, -⟩, hbn⟩ := gl
  replace hbn := hbn _ _ _ rfl
  have hll := longs_length a 6
  have hk6 : k = 6 := by rw [gp.1, hll] at hk; omega
  subst hk6
  simp only [List.cons_append, List.nil_append, dropR_nil, dropR_cons, Nat.reduceLT, ↓reduceIte]
  have hnum := fun m hm => r6_Number G.q.val t (longs a 6) vs rest b cap 66 (0, 0) H2 m G.q.isLt ht (by rw [hll]; omega) (longs_ok a 6) (gp.toA.later (fun _ _ => rfl) hm) gp.one (by omega) hB
  rw [hll] at hnum
  refine wk3 rN rG @g0 ?_
  refine AGo_askV (hnum _ (by omega)) ?_
  refine wk3 rN rG @g2 ?_
  exact ⟨rfl, agr⟩
end Go.Proofs.YtcjchcommaahdaaGreat
namespace Go.Proofs.YtcjchcommaahdaaGreat
open Go.Ab
section
attribute [local irreducible] chal proveV proveC proveS numH longs isExp mayG grpExp grpMul modMul modAdd
theorem r14_Prove (G : Grp) (t : ByteArray) (x base y draw : U) (H : Heap) (n : Nat) (ht : t.size ≤ 1000) : ACall Tryz.prog 36 [GV G, .string t, N x.val, N base.val, N y.val, N draw.val] H n (Ret (proveV G t x base y draw) H n) := by
  refine acall_retF mix (low_proveV _ _ _ _ _ _ _) Tryz.func36 ok36 (fun _ _ => Tryz.call36 _ _) rfl ?_
  have bbp := BB_pos
  have hdlt := draw.isLt
  cases hx : isExp G x with
  | false =>
    rw [proveV_no (by unfold proveOk; rw [hx, Bool.false_and, Bool.and_false])]
    refine wk5 @c36.eq_1 rN rG rP @PV_zero ?_
    refine AGo_askV (r14_exponent G x _ _) ?_
    refine wk5 rN rG @hx rP @PV_zero ?_
    exact ⟨rfl, agr⟩
  | true =>
    cases hm : mayG G base with
    | false =>
      rw [proveV_no (by unfold proveOk; rw [hm]; rfl)]
      refine wk5 @c36.eq_1 rN rG rP @PV_zero ?_
      refine AGo_askV (r14_exponent G x _ _) ?_
      refine wk5 rN rG @hx rP @PV_zero ?_
      refine AGo_askV (r8_May G base _ _) ?_
      refine wk5 rN rG @hm rP @PV_zero ?_
      exact ⟨rfl, agr⟩
    | true =>
      cases hm2 : mayG G y with
      | false =>
        rw [proveV_no (by unfold proveOk; rw [hm, hm2]; rfl)]
        refine wk5 @c36.eq_1 rN rG rP @PV_zero ?_
        refine AGo_askV (r14_exponent G x _ _) ?_
        refine wk5 rN rG @hx rP @PV_zero ?_
        refine AGo_askV (r8_May G base _ _) ?_
        refine wk5 rN rG @hm rP @PV_zero ?_
        refine AGo_askV (r8_May G y _ _) ?_
        refine wk5 rN rG @hm2 rP @PV_zero ?_
        exact ⟨rfl, agr⟩
      | true =>
        cases hd : isExp G draw with
        | false =>
          rw [proveV_no (by unfold proveOk; rw [hm, hm2, hx, hd]; rfl)]
          refine wk5 @c36.eq_1 rN rG rP @PV_zero ?_
          refine AGo_askV (r14_exponent G x _ _) ?_
          refine wk5 rN rG @hx rP @PV_zero ?_
          refine AGo_askV (r8_May G base _ _) ?_
          refine wk5 rN rG @hm rP @PV_zero ?_
          refine AGo_askV (r8_May G y _ _) ?_
          refine wk5 rN rG @hm2 rP @PV_zero ?_
          refine AGo_askV (r14_exponent G draw _ _) ?_
          refine wk5 rN rG @hd rP @PV_zero ?_
          exact ⟨rfl, agr⟩
        | true =>
          by_cases h0 : draw.val = 0
          · rw [proveV_no (by unfold proveOk; rw [hm, hm2, hx, hd, h0]; rfl)]
            refine wk5 @c36.eq_1 rN rG rP @PV_zero ?_
            refine AGo_askV (r14_exponent G x _ _) ?_
            refine wk5 rN rG @hx rP @PV_zero ?_
            refine AGo_askV (r8_May G base _ _) ?_
            refine wk5 rN rG @hm rP @PV_zero ?_
            refine AGo_askV (r8_May G y _ _) ?_
            refine wk5 rN rG @hm2 rP @PV_zero ?_
            refine AGo_askV (r14_exponent G draw _ _) ?_
            refine wk6 rN rG @hd @h0 rP @PV_zero ?_
            exact ⟨rfl, agr⟩
          · rw [proveV_ok (by rw [hm, hm2]; rfl) hx hd h0]
            have hch := fun H' n' => r14_challenge G t (six base (grpExp G base x).1 y (grpExp G y x).1 (grpExp G base draw).1 (grpExp G y draw).1) _ H' n' ht rfl (six_cells _ _ _ _ _ _)
            simp only [chal_val, proveC_def] at hch
            refine wk5 @c36.eq_1 rN rG rP @PV_zero ?_
            refine AGo_askV (r14_exponent G x _ _) ?_
            refine wk5 rN rG @hx rP @PV_zero ?_
            refine AGo_askV (r8_May G base _ _) ?_
            refine wk5 rN rG @hm rP @PV_zero ?_
            refine AGo_askV (r8_May G y _ _) ?_
            refine wk5 rN rG @hm2 rP @PV_zero ?_
            refine AGo_askV (r14_exponent G draw _ _) ?_
            refine wk6 rN rG @hd @h0 rP @PV_zero ?_
            refine AGo_askV (r13_exponent_like G base x _ _) ?_
            refine wk4 rN rG rP @PV_zero ?_
            refine AGo_askV (r13_exponent_like G y x _ _) ?_
            refine wk4 rN rG rP @PV_zero ?_
            refine AGo_askV (r13_exponent_like G base draw _ _) ?_
            refine wk4 rN rG rP @PV_zero ?_
            refine AGo_askV (r13_exponent_like G y draw _ _) ?_
            refine wk4 rN rG rP @PV_zero ?_
            refine AGo_askV (hch _ _) ?_
            refine wk4 rN rG rP @PV_zero ?_
            refine AGo_askV (r9_Mul G x (proveC G t x base y draw) _ _) ?_
            refine wk5 rN rG @RV.eq_1 rP @PV_zero ?_
            refine AGo_askV (r9_Add G draw (modMul x (proveC G t x base y draw) G.q).1 _ _) ?_
            refine wk6 rN rG @RV.eq_1 rP @PV_zero @proveS_def ?_
            exact ⟨rfl, agr⟩
end
/-- A power is what one thinks. -/
theorem grpExp_val {G : Grp} {a m : U} (h : mayG G a = true) : (grpExp G a m).1.val = a.val ^ m.val % G.p.val := by
  have h' := h
  simp only [mayG, Bool.and_eq_true, decide_eq_true_eq] at h
  have hm : mayM a a G.p = true := by rw [mayM_iff]; omega
  rw [grpExp, if_pos h', modExp, if_pos hm]
  have hp := pwS_mod (a := a.val) (n := m.val) h.1 (nbits m.val) (Nat.le_refl _)
  rw [Nat.sub_self, Nat.pow_zero, Nat.div_one] at hp
  show (ur (pw _ _ _ _)).val = _
  rw [pw, hp, ur_val (Nat.lt_trans (Nat.mod_lt _ (by omega)) G.p.isLt)]
theorem grpIn_may {G : Grp} {a : U} (h : grpIn G a = true) : mayG G a = true := by
  cases hm : mayG G a with
  | true => rfl
  | false =>
    have e : grpExp G a G.q = (uz, 1) := by rw [grpExp, hm]; rfl
    simp [grpIn, e] at h
theorem grpIn_one {G : Grp} {a : U} (h : grpIn G a = true) : a.val ^ G.q.val % G.p.val = 1 := by
  have hm := grpIn_may h
  simp only [grpIn, Bool.and_eq_true, decide_eq_true_eq] at h
  rw [← grpExp_val hm]; exact h.2
theorem pow_unit {a m p q : Nat} (hp : 1 < p) (hq : 0 < q) (h : a ^ q % p = 1) : a ^ m % p ≠ 0 := by
  intro h0
  have h1 : (a ^ q) ^ m % p = 1 := by rw [Nat.pow_mod, h, Nat.one_pow, Nat.mod_eq_of_lt hp]
  rw [← Nat.pow_mul, Nat.mul_comm, Nat.pow_mul] at h1
  obtain ⟨q', rfl⟩ : ∃ q', q = q' + 1 := ⟨q - 1, by omega⟩
  rw [Nat.pow_succ, Nat.mul_mod, h0, Nat.mul_zero, Nat.zero_mod] at h1
  cases h1
theorem power_may {G : Grp} {a m : U} (h : grpIn G a = true) (hq : 0 < G.q.val) : mayG G (grpExp G a m).1 = true := by
  have hm := grpIn_may h
  have h1 := hm
  simp only [mayG, Bool.and_eq_true, decide_eq_true_eq] at h1 ⊢
  rw [grpExp_val hm]
  exact ⟨h1.1, pow_unit h1.1 hq (grpIn_one h), Nat.mod_lt _ (by omega)⟩
theorem modMul_one {x p : U} (h1 : 1 < p.val) (hx : x.val < p.val) : (modMul u1 x p).1 = x := by
  rw [modMul, if_pos (by rw [mayM_iff]; exact ⟨h1, h1, hx⟩)]
  apply Fin.ext
  show (ur (1 * x.val % p.val)).val = _
  rw [Nat.one_mul, Nat.mod_eq_of_lt hx, ur_val x.isLt]
theorem meet_eq {G : Grp} {a x b y : U} (ha : grpIn G a = true) (hb : grpIn G b = true) (hq : 0 < G.q.val) : meetU G a x b y = (grpMul G (grpExp G a x).1 (grpExp G b y).1).1 := by
  have h1 := power_may (m := x) ha hq
  have h2 := power_may (m := y) hb hq
  rw [grpMul, h1, h2]
  show (modMul (modMul u1 (grpExp G a x).1 G.p).1 (grpExp G b y).1 G.p).1 = _
  simp only [mayG, Bool.and_eq_true, decide_eq_true_eq] at h1
  rw [modMul_one h1.1 h1.2.2]; rfl
theorem isExp_q {G : Grp} {a : U} (h : isExp G a = true) : 1 < G.q.val ∧ a.val < G.q.val := by
  unfold isExp at h
  cases hm : mayM a a G.q with
  | true => rw [mayM_iff] at hm; omega
  | false => simp [modAdd, hm] at h
end Go.Proofs.YtcjchcommaahdaaGreat

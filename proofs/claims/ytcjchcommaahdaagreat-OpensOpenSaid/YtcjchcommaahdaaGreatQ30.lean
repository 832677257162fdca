/- Proofs that two logarithms are one: Check. Lists of numbers and keys; what one of them is. Keys of a setting. Settings that may be. No conditions. -/
import Derived.Test.YtcjchcommaahdaaGreatQ12
import Derived.Test.YtcjchcommaahdaaGreatQ29
set_option maxRecDepth 20000
set_option maxHeartbeats 4000000
set_option linter.all false
namespace Go.Proofs.YtcjchcommaahdaaGreat
open Go.Ab
def backU (G : Grp) (C : U) : U := (modSub uz C G.q).1
def meetM (G : Grp) (a x b y : U) : U := (grpMul G (grpExp G a x).1 (grpExp G b y).1).1
def chk (G : Grp) (t : ByteArray) (base a y b C S : U) : U := chal G t base a y b (meetM G base S a (backU G C)) (meetM G y S b (backU G C))
def checkB (G : Grp) (t : ByteArray) (base a y b C S : U) : Bool :=
  (grpIn G base && (grpIn G a && (grpIn G y && grpIn G b))) && (isExp G C && (isExp G S && decide ((chk G t base a y b C S).val = C.val)))
theorem chk_def (G : Grp) (t : ByteArray) (base a y b C S : U) : chal G t base a y b (meetM G base S a (backU G C)) (meetM G y S b (backU G C)) = chk G t base a y b C S := rfl
theorem backU_def (G : Grp) (C : U) : (modSub uz C G.q).1 = backU G C := rfl
theorem meetM_def (G : Grp) (a x b y : U) : (grpMul G (grpExp G a x).1 (grpExp G b y).1).1 = meetM G a x b y := rfl
attribute [local irreducible] chal numH longs isExp mayG grpExp grpMul grpIn modMul modAdd modSub chk meetU backU meetM
theorem pf_Check (G : Grp) (t : ByteArray) (base a y b C S : U) (H : Heap) (n : Nat) (ht : t.size ≤ 1000) : ACall Tryz.prog 39 [GV G, .string t, N base.val, N a.val, N y.val, N b.val, PV C S] H n (Ret (.bool (checkB G t base a y b C S)) H n) := by
  refine acall_retF mix lw Tryz.func39 ok39 (fun _ _ => Tryz.call39 _ _) rfl ?_
  cases h1 : grpIn G base with
  | false =>
    rw [show checkB G t base a y b C S = false by unfold checkB; rw [h1]; rfl]
    refine wk6 @c39.eq_1 rN rG rF rP @PV_zero ?_
    refine AGo_turn ?_
    refine wk5 rN rG rF rP @PV_zero ?_
    refine AGo_askV (gr_In G base _ _) ?_
    refine wk6 rN rG rF rP @PV_zero @h1 ?_
    exact ⟨rfl, agr⟩
  | true =>
    cases h2 : grpIn G a with
    | false =>
      rw [show checkB G t base a y b C S = false by unfold checkB; rw [h1, h2]; rfl]
      refine wk6 @c39.eq_1 rN rG rF rP @PV_zero ?_
      refine AGo_turn ?_
      refine wk5 rN rG rF rP @PV_zero ?_
      refine AGo_askV (gr_In G base _ _) ?_
      refine wk6 rN rG rF rP @PV_zero @h1 ?_
      refine AGo_turn ?_
      refine wk5 rN rG rF rP @PV_zero ?_
      refine AGo_askV (gr_In G a _ _) ?_
      refine wk6 rN rG rF rP @PV_zero @h2 ?_
      exact ⟨rfl, agr⟩
    | true =>
      cases h3 : grpIn G y with
      | false =>
        rw [show checkB G t base a y b C S = false by unfold checkB; rw [h1, h2, h3]; rfl]
        refine wk6 @c39.eq_1 rN rG rF rP @PV_zero ?_
        refine AGo_turn ?_
        refine wk5 rN rG rF rP @PV_zero ?_
        refine AGo_askV (gr_In G base _ _) ?_
        refine wk6 rN rG rF rP @PV_zero @h1 ?_
        refine AGo_turn ?_
        refine wk5 rN rG rF rP @PV_zero ?_
        refine AGo_askV (gr_In G a _ _) ?_
        refine wk6 rN rG rF rP @PV_zero @h2 ?_
        refine AGo_turn ?_
        refine wk5 rN rG rF rP @PV_zero ?_
        refine AGo_askV (gr_In G y _ _) ?_
        refine wk6 rN rG rF rP @PV_zero @h3 ?_
        exact ⟨rfl, agr⟩
      | true =>
        cases h4 : grpIn G b with
        | false =>
          rw [show checkB G t base a y b C S = false by unfold checkB; rw [h1, h2, h3, h4]; rfl]
          refine wk6 @c39.eq_1 rN rG rF rP @PV_zero ?_
          refine AGo_turn ?_
          refine wk5 rN rG rF rP @PV_zero ?_
          refine AGo_askV (gr_In G base _ _) ?_
          refine wk6 rN rG rF rP @PV_zero @h1 ?_
          refine AGo_turn ?_
          refine wk5 rN rG rF rP @PV_zero ?_
          refine AGo_askV (gr_In G a _ _) ?_
          refine wk6 rN rG rF rP @PV_zero @h2 ?_
          refine AGo_turn ?_
          refine wk5 rN rG rF rP @PV_zero ?_
          refine AGo_askV (gr_In G y _ _) ?_
          refine wk6 rN rG rF rP @PV_zero @h3 ?_
          refine AGo_turn ?_
          refine wk5 rN rG rF rP @PV_zero ?_
          refine AGo_askV (gr_In G b _ _) ?_
          refine wk6 rN rG rF rP @PV_zero @h4 ?_
          exact ⟨rfl, agr⟩
        | true =>
          refine wk6 @c39.eq_1 rN rG rF rP @PV_zero ?_
          refine AGo_turn ?_
          refine wk5 rN rG rF rP @PV_zero ?_
          refine AGo_askV (gr_In G base _ _) ?_
          refine wk6 rN rG rF rP @PV_zero @h1 ?_
          refine AGo_turn ?_
          refine wk5 rN rG rF rP @PV_zero ?_
          refine AGo_askV (gr_In G a _ _) ?_
          refine wk6 rN rG rF rP @PV_zero @h2 ?_
          refine AGo_turn ?_
          refine wk5 rN rG rF rP @PV_zero ?_
          refine AGo_askV (gr_In G y _ _) ?_
          refine wk6 rN rG rF rP @PV_zero @h3 ?_
          refine AGo_turn ?_
          refine wk5 rN rG rF rP @PV_zero ?_
          refine AGo_askV (gr_In G b _ _) ?_
          refine wk6 rN rG rF rP @PV_zero @h4 ?_
          refine AGo_turn ?_
          refine wk5 rN rG rF rP @PV_zero ?_
          refine AGo_askV (pf_exponent G t C _ _) ?_
          refine wk5 rN rG rF rP @PV_zero ?_
          cases h5 : isExp G C with
          | false =>
            rw [show checkB G t base a y b C S = false by unfold checkB; rw [h5, Bool.false_and, Bool.and_false]]
            refine wk5 rN rG rF rP @PV_zero ?_
            exact ⟨rfl, agr⟩
          | true =>
            refine wk5 rN rG rF rP @PV_zero ?_
            refine AGo_askV (pf_exponent G t S _ _) ?_
            refine wk5 rN rG rF rP @PV_zero ?_
            cases h6 : isExp G S with
            | false =>
              rw [show checkB G t base a y b C S = false by unfold checkB; rw [h6, Bool.false_and, Bool.and_false, Bool.and_false]]
              refine wk5 rN rG rF rP @PV_zero ?_
              exact ⟨rfl, agr⟩
            | true =>
              have hq : 0 < G.q.val := by have := (isExp_q h6).1; omega
              have e1 : meetU G base S a (backU G C) = meetM G base S a (backU G C) := (meet_eq h1 h2 hq).trans (meetM_def _ _ _ _ _)
              have e2 : meetU G y S b (backU G C) = meetM G y S b (backU G C) := (meet_eq h3 h4 hq).trans (meetM_def _ _ _ _ _)
              rw [show checkB G t base a y b C S = decide ((chk G t base a y b C S).val = C.val) by unfold checkB; rw [h1, h2, h3, h4, h5, h6]; rfl]
              have hch := fun m H' n' hbl hHl => pf_challenge G t (six base a y b (meetM G base S a (backU G C)) (meetM G y S b (backU G C))) 6 m 6 _ 24 (0, 0) H' n' ht (by omega) (six_cells _ _ _ _ _ _) hbl hHl
              simp only [chal_val, chk_def] at hch
              refine wk5 rN rG rF rP @PV_zero ?_
              refine AGo_askV (sc_Sub G uz C _ _) ?_
              refine wk7 rN rG @RV.eq_1 rF rP @PV_zero @backU_def ?_
              refine AGo_askV (pf_meet G t base S a (backU G C) _ _ (grpIn_may h1) (grpIn_may h2)) ?_
              refine wk6 rN rG rF rP @PV_zero @e1 ?_
              refine AGo_askV (pf_meet G t y S b (backU G C) _ _ (grpIn_may h3) (grpIn_may h4)) ?_
              refine wk6 rN rG rF rP @PV_zero @e2 ?_
              have hlt1 := (chk G t base a y b C S).isLt
              have hlt2 := C.isLt
              refine AGo_askV (hch _ _ _ (by omega) (upd_same _ _ _)) ?_
              refine wk5 rN rG rF rP @PV_zero ?_
              exact ⟨rfl, agr⟩
theorem r14_Check (G : Grp) (t : ByteArray) (base a y b C S : U) (H : Heap) (n : Nat) (ht : t.size ≤ 1000) : ACall Tryz.prog 40 [GV G, .string t, N base.val, N a.val, N y.val, N b.val, PV C S] H n (Ret (.bool (checkB G t base a y b C S)) H n) := by
  refine acall_retF mix lw Tryz.func40 ok40 (fun _ _ => Tryz.call40 _ _) rfl ?_
  cases h1 : grpIn G base with
  | false =>
    rw [show checkB G t base a y b C S = false by unfold checkB; rw [h1]; rfl]
    refine wk5 @c40.eq_1 rN rG rP @PV_zero ?_
    refine AGo_askV (r8_In G base _ _) ?_
    refine wk5 rN rG rP @PV_zero @h1 ?_
    exact ⟨rfl, agr⟩
  | true =>
    cases h2 : grpIn G a with
    | false =>
      rw [show checkB G t base a y b C S = false by unfold checkB; rw [h1, h2]; rfl]
      refine wk5 @c40.eq_1 rN rG rP @PV_zero ?_
      refine AGo_askV (r8_In G base _ _) ?_
      refine wk5 rN rG rP @PV_zero @h1 ?_
      refine AGo_askV (r8_In G a _ _) ?_
      refine wk5 rN rG rP @PV_zero @h2 ?_
      exact ⟨rfl, agr⟩
    | true =>
      cases h3 : grpIn G y with
      | false =>
        rw [show checkB G t base a y b C S = false by unfold checkB; rw [h1, h2, h3]; rfl]
        refine wk5 @c40.eq_1 rN rG rP @PV_zero ?_
        refine AGo_askV (r8_In G base _ _) ?_
        refine wk5 rN rG rP @PV_zero @h1 ?_
        refine AGo_askV (r8_In G a _ _) ?_
        refine wk5 rN rG rP @PV_zero @h2 ?_
        refine AGo_askV (r8_In G y _ _) ?_
        refine wk5 rN rG rP @PV_zero @h3 ?_
        exact ⟨rfl, agr⟩
      | true =>
        cases h4 : grpIn G b with
        | false =>
          rw [show checkB G t base a y b C S = false by unfold checkB; rw [h1, h2, h3, h4]; rfl]
          refine wk5 @c40.eq_1 rN rG rP @PV_zero ?_
          refine AGo_askV (r8_In G base _ _) ?_
          refine wk5 rN rG rP @PV_zero @h1 ?_
          refine AGo_askV (r8_In G a _ _) ?_
          refine wk5 rN rG rP @PV_zero @h2 ?_
          refine AGo_askV (r8_In G y _ _) ?_
          refine wk5 rN rG rP @PV_zero @h3 ?_
          refine AGo_askV (r8_In G b _ _) ?_
          refine wk5 rN rG rP @PV_zero @h4 ?_
          exact ⟨rfl, agr⟩
        | true =>
          cases h5 : isExp G C with
          | false =>
            rw [show checkB G t base a y b C S = false by unfold checkB; rw [h5, Bool.false_and, Bool.and_false]]
            refine wk5 @c40.eq_1 rN rG rP @PV_zero ?_
            refine AGo_askV (r8_In G base _ _) ?_
            refine wk5 rN rG rP @PV_zero @h1 ?_
            refine AGo_askV (r8_In G a _ _) ?_
            refine wk5 rN rG rP @PV_zero @h2 ?_
            refine AGo_askV (r8_In G y _ _) ?_
            refine wk5 rN rG rP @PV_zero @h3 ?_
            refine AGo_askV (r8_In G b _ _) ?_
            refine wk5 rN rG rP @PV_zero @h4 ?_
            refine AGo_askV (r14_exponent G C _ _) ?_
            refine wk5 rN rG rP @PV_zero @h5 ?_
            exact ⟨rfl, agr⟩
          | true =>
            cases h6 : isExp G S with
            | false =>
              rw [show checkB G t base a y b C S = false by unfold checkB; rw [h6, Bool.false_and, Bool.and_false, Bool.and_false]]
              refine wk5 @c40.eq_1 rN rG rP @PV_zero ?_
              refine AGo_askV (r8_In G base _ _) ?_
              refine wk5 rN rG rP @PV_zero @h1 ?_
              refine AGo_askV (r8_In G a _ _) ?_
              refine wk5 rN rG rP @PV_zero @h2 ?_
              refine AGo_askV (r8_In G y _ _) ?_
              refine wk5 rN rG rP @PV_zero @h3 ?_
              refine AGo_askV (r8_In G b _ _) ?_
              refine wk5 rN rG rP @PV_zero @h4 ?_
              refine AGo_askV (r14_exponent G C _ _) ?_
              refine wk5 rN rG rP @PV_zero @h5 ?_
              refine AGo_askV (r14_exponent G S _ _) ?_
              refine wk5 rN rG rP @PV_zero @h6 ?_
              exact ⟨rfl, agr⟩
            | true =>
              rw [show checkB G t base a y b C S = decide ((chk G t base a y b C S).val = C.val) by unfold checkB; rw [h1, h2, h3, h4, h5, h6]; rfl]
              have hch := fun H' n' => r14_challenge G t (six base a y b (meetM G base S a (backU G C)) (meetM G y S b (backU G C))) _ H' n' ht rfl (six_cells _ _ _ _ _ _)
              simp only [chal_val, chk_def] at hch
              refine wk5 @c40.eq_1 rN rG rP @PV_zero ?_
              refine AGo_askV (r8_In G base _ _) ?_
              refine wk5 rN rG rP @PV_zero @h1 ?_
              refine AGo_askV (r8_In G a _ _) ?_
              refine wk5 rN rG rP @PV_zero @h2 ?_
              refine AGo_askV (r8_In G y _ _) ?_
              refine wk5 rN rG rP @PV_zero @h3 ?_
              refine AGo_askV (r8_In G b _ _) ?_
              refine wk5 rN rG rP @PV_zero @h4 ?_
              refine AGo_askV (r14_exponent G C _ _) ?_
              refine wk5 rN rG rP @PV_zero @h5 ?_
              refine AGo_askV (r14_exponent G S _ _) ?_
              refine wk5 rN rG rP @PV_zero @h6 ?_
              refine AGo_askV (r9_Sub G uz C _ _) ?_
              refine wk6 rN rG @RV.eq_1 rP @PV_zero @backU_def ?_
              refine AGo_askV (r13_exponent_like G base S _ _) ?_
              refine wk4 rN rG rP @PV_zero ?_
              refine AGo_askV (r13_exponent_like G a (backU G C) _ _) ?_
              refine wk4 rN rG rP @PV_zero ?_
              refine AGo_askV (r8_Mul G (grpExp G base S).1 (grpExp G a (backU G C)).1 _ _) ?_
              refine wk6 rN rG @RV.eq_1 rP @PV_zero @meetM_def ?_
              refine AGo_askV (r13_exponent_like G y S _ _) ?_
              refine wk4 rN rG rP @PV_zero ?_
              refine AGo_askV (r13_exponent_like G b (backU G C) _ _) ?_
              refine wk4 rN rG rP @PV_zero ?_
              refine AGo_askV (r8_Mul G (grpExp G y S).1 (grpExp G b (backU G C)).1 _ _) ?_
              refine wk6 rN rG @RV.eq_1 rP @PV_zero @meetM_def ?_
              have hlt1 := (chk G t base a y b C S).isLt
              have hlt2 := C.isLt
              refine AGo_askV (hch _ _) ?_
              refine wk4 rN rG rP @PV_zero ?_
              exact ⟨rfl, agr⟩
end Go.Proofs.YtcjchcommaahdaaGreat
namespace Go.Proofs.YtcjchcommaahdaaGreat
open Go.Ab
/-- A slice that reads as so many elements, each of so many cells. -/
def ElemsA (n : Nat) (H : Heap) (v : Value) (m esz : Nat) (c : Nat → List Value) : Prop :=
  ∃ sa cap, v = .slice sa m cap ∧ m ≤ cap ∧ m < 2 ^ 60 ∧ (m = 0 ∨ ∃ b off cs e fz, sa = some ⟨b, off, none⟩ ∧ b < n ∧ H b = some (.cells cs e fz) ∧ ∀ i, i < m → off + i * esz + esz ≤ cs.length ∧ (cs.drop (off + i * esz)).take esz = c i)
theorem ElemsA.later {n n' : Nat} {H H' : Heap} {v : Value} {m esz : Nat} {c : Nat → List Value} (h : ElemsA n H v m esz c) (hA : ∀ i, i < n → H' i = H i) (hn : n ≤ n') : ElemsA n' H' v m esz c := by
  obtain ⟨sa, cap, h1, h2, h3, h4⟩ := h
  refine ⟨sa, cap, h1, h2, h3, h4.elim .inl ?_⟩
  rintro ⟨b, off, cs, e, fz, k1, k2, k3, k4⟩
  exact .inr ⟨b, off, cs, e, fz, k1, by omega, (hA b k2).trans k3, k4⟩
def NumsA (n : Nat) (H : Heap) (v : Value) (m : Nat) (a : Nat → U) : Prop := ElemsA n H v m 4 fun i => vcells (N (a i).val)
def KeysA (n : Nat) (H : Heap) (v : Value) (m : Nat) (a : Nat → U × U) : Prop := ElemsA n H v m 8 fun i => vcells (PV (a i).1 (a i).2)
/-- Is one of them so? -/
def anyB (p : Nat → Bool) : Nat → Bool
  | 0 => false
  | k + 1 => anyB p k || p k
theorem anyB_zero (p : Nat → Bool) : anyB p 0 = false := rfl
theorem anyB_succ (p : Nat → Bool) (k : Nat) : anyB p (k + 1) = (anyB p k || p k) := rfl
theorem anyB_false {p : Nat → Bool} : ∀ {m : Nat}, anyB p m = false ↔ ∀ i, i < m → p i = false
  | 0 => by simp [anyB]
  | m + 1 => by
    rw [anyB_succ, Bool.or_eq_false_iff, anyB_false]
    constructor
    · rintro ⟨h1, h2⟩ i hi
      by_cases e : i = m
      · subst e; exact h2
      · exact h1 i (by omega)
    · exact fun h => ⟨fun i hi => h i (by omega), h m (by omega)⟩
theorem anyB_true {p : Nat → Bool} {m i : Nat} (hi : i < m) (h : p i = true) : anyB p m = true := by
  cases e : anyB p m with
  | true => rfl
  | false => rw [anyB_false.1 e i hi] at h; cases h
theorem anyB_congr {p q : Nat → Bool} {m : Nat} (h : ∀ i, i < m → p i = q i) : anyB p m = anyB q m := by
  induction m with
  | zero => rfl
  | succ m ih => rw [anyB_succ, anyB_succ, ih fun i hi => h i (by omega), h m (by omega)]
def fstB (p : Nat → Bool) : Nat → Nat
  | 0 => 0
  | k + 1 => if anyB p k then fstB p k else k
theorem fstB_eq {p : Nat → Bool} {i : Nat} (h1 : anyB p i = false) (h2 : p i = true) : ∀ m, i < m → fstB p m = i
  | 0, h => by omega
  | m + 1, h => by
    rw [fstB]
    by_cases e : i = m
    · subst e; rw [h1]; rfl
    · rw [anyB_true (show i < m by omega) h2]; exact fstB_eq h1 h2 m (by omega)
def idxV (p : Nat → Bool) (m : Nat) : Int := if anyB p m then ((fstB p m : Nat) : Int) else -1
theorem idxV_geq (p : Nat → Bool) (m : Nat) : binInt .geq .i64 (idxV p m) .i64 ((0 : Nat) : Int) = some (.bool (anyB p m)) := by
  unfold idxV
  cases h : anyB p m with
  | true => rw [if_pos rfl, bin_geq]; simp
  | false => rfl
theorem idx_nums (g : FuncId) (cap : Array Value) (m : Nat) (c : Nat → List Value) (v : Value) (p : Nat → Bool) (H : Heap) (n : Nat) (hv : ElemsA n H v m 4 c) (hf : ∀ i, i < m → ∀ n', n ≤ n' → ACall Tryz.prog g ((#[] : Array Value).toList ++ [.agg (c i).toArray] ++ cap.toList) H n' (Ret (.bool (p i)) H n')) : ACall Tryz.prog 127 [v, .func (.func g) #[] cap] H n (Ret (.int .i64 (idxV p m)) H n) := by
  refine acall_retF mix lw Tryz.func127 ok127 (fun _ _ => Tryz.call127 _ _) rfl ?_
  obtain ⟨sa, cp, rfl, hmc, hm60, hv⟩ := hv
  refine wk1 @c127.eq_1 ?_
  refine AGo_cycleD (α := Nat) 9 19 (fun k => [(8, .int .i64 (k : Nat))]) (fun k H' n' => k ≤ m ∧ n ≤ n' ∧ H' = H ∧ anyB p k = false) (fun k H' n' => H' = H ∧ anyB p m = false) (fun k => m - k) (0) ?_ (by simp only [subs_nil, subs_if, lk_if, lk_nil, dropR_nil, dropR_cons, Nat.reduceLT, List.cons_append, List.nil_append, List.elem_nil, List.elem_cons, Nat.reduceBEq, beq_self_eq_true, Bool.true_or, Bool.false_or, Bool.or_true, Bool.or_false, Bool.false_eq_true, ↓reduceIte, if_true, if_false, Nat.reduceEqDiff, and_self, and_true, true_and, eq_self]) ?_ ?_
  · exact ⟨Nat.zero_le _, by omega, rfl, rfl⟩
  · rintro k H' n' kk ⟨hk, hn, rfl, hany⟩ hK hS
    simp only [List.cons_append, List.nil_append, dropR_nil, dropR_cons, Nat.reduceLT, ↓reduceIte]
    by_cases hlt : k < m
    · rcases hv with h | ⟨b, off, cs, e, fz, rfl, hb, hB, hcs⟩
      · omega
      obtain ⟨c1, c2⟩ := hcs k hlt
      refine AGo_turn ?_
      refine wk5 rI @hlt @hB @c1 @c2 ?_
      refine AGo_askV (hf k hlt _ (by omega)) ?_
      cases hp : p k with
      | true =>
        refine wk0 ?_
        exact ⟨by rw [idxV, if_pos (anyB_true hlt hp), fstB_eq hany hp m hlt], fun _ _ => rfl⟩
      | false =>
        refine wk0 ?_
        refine AGo_le ?_ (hS (k + 1) _ _ ⟨by omega, by omega, rfl, by rw [anyB_succ, hany, hp]; rfl⟩ (by omega))
        · simp only [subs_nil, subs_if, lk_if, lk_nil, dropR_nil, dropR_cons, Nat.reduceLT, List.cons_append, List.nil_append, List.elem_nil, List.elem_cons, Nat.reduceBEq, beq_self_eq_true, Bool.true_or, Bool.false_or, Bool.or_true, Bool.or_false, Bool.false_eq_true, ↓reduceIte, if_true, if_false, Nat.reduceEqDiff, and_self, and_true, true_and, eq_self]
    · have hkm : k = m := by omega
      subst hkm
      refine AGo_turn ?_
      refine wk2 @hlt @Nat.lt_irrefl ?_
      refine AGo_markL ?_ (hK k _ _ ⟨rfl, hany⟩)
      · simp only [subs_nil, subs_if, lk_if, lk_nil, dropR_nil, dropR_cons, Nat.reduceLT, List.cons_append, List.nil_append, List.elem_nil, List.elem_cons, Nat.reduceBEq, beq_self_eq_true, Bool.true_or, Bool.false_or, Bool.or_true, Bool.or_false, Bool.false_eq_true, ↓reduceIte, if_true, if_false, Nat.reduceEqDiff, and_self, and_true, true_and, eq_self]
  rintro k H' n' ⟨rfl, hany⟩
  simp only [List.cons_append, List.nil_append, dropR_nil, dropR_cons, Nat.reduceLT, ↓reduceIte]
  refine wk0 ?_
  exact ⟨by rw [idxV, hany]; rfl, fun _ _ => rfl⟩
theorem con_nums (g : FuncId) (cap : Array Value) (m : Nat) (c : Nat → List Value) (v : Value) (p : Nat → Bool) (H : Heap) (n : Nat) (hv : ElemsA n H v m 4 c) (hf : ∀ i, i < m → ∀ n', n ≤ n' → ACall Tryz.prog g ((#[] : Array Value).toList ++ [.agg (c i).toArray] ++ cap.toList) H n' (Ret (.bool (p i)) H n')) : ACall Tryz.prog 83 [v, .func (.func g) #[] cap] H n (Ret (.bool (anyB p m)) H n) := by
  refine acall_retF mix lw Tryz.func83 ok83 (fun _ _ => Tryz.call83 _ _) rfl ?_
  refine wk1 @c83.eq_1 ?_
  refine AGo_askV (idx_nums g cap m c v p _ _ (hv.later (fun _ _ => rfl) (by omega)) (fun i hi n' hn' => hf i hi n' (by omega))) ?_
  refine wk1 @idxV_geq ?_
  exact ⟨rfl, agr⟩
theorem idx_keys (g : FuncId) (cap : Array Value) (m : Nat) (c : Nat → List Value) (v : Value) (p : Nat → Bool) (H : Heap) (n : Nat) (hv : ElemsA n H v m 8 c) (hf : ∀ i, i < m → ∀ n', n ≤ n' → ACall Tryz.prog g ((#[] : Array Value).toList ++ [.agg (c i).toArray] ++ cap.toList) H n' (Ret (.bool (p i)) H n')) : ACall Tryz.prog 85 [v, .func (.func g) #[] cap] H n (Ret (.int .i64 (idxV p m)) H n) := by
  refine acall_retF mix lw Tryz.func85 ok85 (fun _ _ => Tryz.call85 _ _) rfl ?_
  obtain ⟨sa, cp, rfl, hmc, hm60, hv⟩ := hv
  refine wk1 @c85.eq_1 ?_
  refine AGo_cycleD (α := Nat) 9 19 (fun k => [(8, .int .i64 (k : Nat))]) (fun k H' n' => k ≤ m ∧ n ≤ n' ∧ H' = H ∧ anyB p k = false) (fun k H' n' => H' = H ∧ anyB p m = false) (fun k => m - k) (0) ?_ (by simp only [subs_nil, subs_if, lk_if, lk_nil, dropR_nil, dropR_cons, Nat.reduceLT, List.cons_append, List.nil_append, List.elem_nil, List.elem_cons, Nat.reduceBEq, beq_self_eq_true, Bool.true_or, Bool.false_or, Bool.or_true, Bool.or_false, Bool.false_eq_true, ↓reduceIte, if_true, if_false, Nat.reduceEqDiff, and_self, and_true, true_and, eq_self]) ?_ ?_
  · exact ⟨Nat.zero_le _, by omega, rfl, rfl⟩
  · rintro k H' n' kk ⟨hk, hn, rfl, hany⟩ hK hS
    simp only [List.cons_append, List.nil_append, dropR_nil, dropR_cons, Nat.reduceLT, ↓reduceIte]
    by_cases hlt : k < m
    · rcases hv with h | ⟨b, off, cs, e, fz, rfl, hb, hB, hcs⟩
      · omega
      obtain ⟨c1, c2⟩ := hcs k hlt
      refine AGo_turn ?_
      refine wk5 rI @hlt @hB @c1 @c2 ?_
      refine AGo_askV (hf k hlt _ (by omega)) ?_
      cases hp : p k with
      | true =>
        refine wk0 ?_
        exact ⟨by rw [idxV, if_pos (anyB_true hlt hp), fstB_eq hany hp m hlt], fun _ _ => rfl⟩
      | false =>
        refine wk0 ?_
        refine AGo_le ?_ (hS (k + 1) _ _ ⟨by omega, by omega, rfl, by rw [anyB_succ, hany, hp]; rfl⟩ (by omega))
        · simp only [subs_nil, subs_if, lk_if, lk_nil, dropR_nil, dropR_cons, Nat.reduceLT, List.cons_append, List.nil_append, List.elem_nil, List.elem_cons, Nat.reduceBEq, beq_self_eq_true, Bool.true_or, Bool.false_or, Bool.or_true, Bool.or_false, Bool.false_eq_true, ↓reduceIte, if_true, if_false, Nat.reduceEqDiff, and_self, and_true, true_and, eq_self]
    · have hkm : k = m := by omega
      subst hkm
      refine AGo_turn ?_
      refine wk2 @hlt @Nat.lt_irrefl ?_
      refine AGo_markL ?_ (hK k _ _ ⟨rfl, hany⟩)
      · simp only [subs_nil, subs_if, lk_if, lk_nil, dropR_nil, dropR_cons, Nat.reduceLT, List.cons_append, List.nil_append, List.elem_nil, List.elem_cons, Nat.reduceBEq, beq_self_eq_true, Bool.true_or, Bool.false_or, Bool.or_true, Bool.or_false, Bool.false_eq_true, ↓reduceIte, if_true, if_false, Nat.reduceEqDiff, and_self, and_true, true_and, eq_self]
  rintro k H' n' ⟨rfl, hany⟩
  simp only [List.cons_append, List.nil_append, dropR_nil, dropR_cons, Nat.reduceLT, ↓reduceIte]
  refine wk0 ?_
  exact ⟨by rw [idxV, hany]; rfl, fun _ _ => rfl⟩
theorem con_keys (g : FuncId) (cap : Array Value) (m : Nat) (c : Nat → List Value) (v : Value) (p : Nat → Bool) (H : Heap) (n : Nat) (hv : ElemsA n H v m 8 c) (hf : ∀ i, i < m → ∀ n', n ≤ n' → ACall Tryz.prog g ((#[] : Array Value).toList ++ [.agg (c i).toArray] ++ cap.toList) H n' (Ret (.bool (p i)) H n')) : ACall Tryz.prog 46 [v, .func (.func g) #[] cap] H n (Ret (.bool (anyB p m)) H n) := by
  refine acall_retF mix lw Tryz.func46 ok46 (fun _ _ => Tryz.call46 _ _) rfl ?_
  refine wk1 @c46.eq_1 ?_
  refine AGo_askV (idx_keys g cap m c v p _ _ (hv.later (fun _ _ => rfl) (by omega)) (fun i hi n' hn' => hf i hi n' (by omega))) ?_
  refine wk1 @idxV_geq ?_
  exact ⟨rfl, agr⟩
end Go.Proofs.YtcjchcommaahdaaGreat
namespace Go.Proofs.YtcjchcommaahdaaGreat
open Go.Ab
theorem gcells_eq (G : Grp) : gcells G = [.int .u64 (w0 G.p.val : Nat), .int .u64 (w1 G.p.val : Nat), .int .u64 (w2 G.p.val : Nat), .int .u64 (w3 G.p.val : Nat), .int .u64 (w0 G.q.val : Nat), .int .u64 (w1 G.q.val : Nat), .int .u64 (w2 G.q.val : Nat), .int .u64 (w3 G.q.val : Nat), .int .u64 (w0 G.g.val : Nat), .int .u64 (w1 G.g.val : Nat), .int .u64 (w2 G.g.val : Nat), .int .u64 (w3 G.g.val : Nat), .int .u64 (w0 G.h.val : Nat), .int .u64 (w1 G.h.val : Nat), .int .u64 (w2 G.h.val : Nat), .int .u64 (w3 G.h.val : Nat)] := rfl
/-- A number of the group, and not 1. -/
def isKey (G : Grp) (a : U) : Bool := grpIn G a && !decide (a.val = 1)
attribute [local irreducible] grpIn
theorem keys_1 (G : Grp) (a : U) (b : Nat) (e : TypeId) (fz : Nat × Nat) (H : Heap) (n : Nat) (hb : b < n) (hB : H b = some (.cells (gcells G) e fz)) : ACall Tryz.prog 84 [N a.val, .pointer (some ⟨b, 0, none⟩)] H n (Ret (.bool (!isKey G a)) H n) := by
  refine acall_retF mix lw Tryz.func84 ok84 (fun _ _ => Tryz.call84 _ _) rfl ?_
  have ob := one_lt_BB
  have ha := a.isLt
  rw [gcells_eq] at hB
  cases h : grpIn G a with
  | false =>
    rw [show isKey G a = false by unfold isKey; rw [h]; rfl]
    refine wk4 @c84.eq_1 rN rG @hB ?_
    refine AGo_askV (gr_In G a _ _) ?_
    refine wk3 rN rG @h ?_
    exact ⟨rfl, agr⟩
  | true =>
    rw [show isKey G a = !decide (a.val = 1) by unfold isKey; rw [h]; rfl]
    refine wk4 @c84.eq_1 rN rG @hB ?_
    refine AGo_askV (gr_In G a _ _) ?_
    refine wk4 rN rG @h @Bool.not_not ?_
    exact ⟨by simp, agr⟩
theorem dl_keys (G : Grp) (m : Nat) (v : Value) (a : Nat → U) (H : Heap) (n : Nat) (hv : NumsA n H v m a) : ACall Tryz.prog 45 [GV G, v] H n (Ret (.bool (!anyB (fun i => !isKey G (a i)) m)) H n) := by
  refine acall_retF mix lw Tryz.func45 ok45 (fun _ _ => Tryz.call45 _ _) rfl ?_
  refine wk3 @c45.eq_1 rN rG ?_
  refine AGo_askV (con_nums 84 #[.pointer (some ⟨n, 0, none⟩)] m _ v (fun i => !isKey G (a i)) _ _ (hv.later (agr) (by omega)) (fun i hi n' hn' => keys_1 G (a i) n _ _ _ n' (by omega) (upd_same _ _ _))) ?_
  refine wk0 ?_
  exact ⟨rfl, agr⟩
/-- Two numbers, both keys. -/
def isPair (G : Grp) (k : U × U) : Bool := isKey G k.1 && isKey G k.2
theorem two_key (G : Grp) (a b : U) : (!anyB (fun i => !isKey G (two a b i)) 2) = (isKey G a && isKey G b) := by
  show (!((false || !isKey G a) || !isKey G b)) = _
  cases isKey G a <;> cases isKey G b <;> rfl
theorem two_nums {n b : Nat} {H : Heap} {a c : U} {e : TypeId} {fz : Nat × Nat} (hb : b < n) (hB : H b = some (.cells (vcells (N a.val) ++ vcells (N c.val)) e fz)) : NumsA n H (.slice (some ⟨b, 0, none⟩) 2 2) 2 (two a c) :=
  ⟨_, _, rfl, Nat.le_refl _, by omega, .inr ⟨b, 0, _, e, fz, rfl, hb, hB, fun i hi => by have := two_cells a c i hi; rw [Nat.zero_add]; exact this⟩⟩
theorem r15_key_like (G : Grp) (a : U) : True := trivial
theorem r15_key (G : Grp) (a : U) (H : Heap) (n : Nat) : ACall Tryz.prog 65 [GV G, N a.val] H n (Ret (.bool (isKey G a)) H n) := by
  refine acall_retF mix lw Tryz.func65 ok65 (fun _ _ => Tryz.call65 _ _) rfl ?_
  have ob := one_lt_BB
  have ha := a.isLt
  cases h : grpIn G a with
  | false =>
    rw [show isKey G a = false by unfold isKey; rw [h]; rfl]
    refine wk3 @c65.eq_1 rN rG ?_
    refine AGo_askV (r8_In G a _ _) ?_
    refine wk3 rN rG @h ?_
    exact ⟨rfl, agr⟩
  | true =>
    rw [show isKey G a = !decide (a.val = 1) by unfold isKey; rw [h]; rfl]
    refine wk3 @c65.eq_1 rN rG ?_
    refine AGo_askV (r8_In G a _ _) ?_
    refine wk3 rN rG @h ?_
    exact ⟨rfl, agr⟩
/-- Is a number above a small one? -/
def aboveB (a k : Nat) : Bool := decide (k < a)
theorem above_hi {x k : Nat} (hx : x < BB) (hk : k < B) : decide (k < x) = (decide (w1 x ≠ 0) || (decide (w2 x ≠ 0) || (decide (w3 x ≠ 0) || decide (k < w0 x)))) := by
  have e := pack_w x
  rw [Nat.mod_eq_of_lt hx, pack_def] at e
  have h0 := w0_lt x; have h1 := w1_lt x; have h2 := w2_lt x; have h3 := w3_lt x
  generalize w0 x = a at *; generalize w1 x = b at *; generalize w2 x = c at *; generalize w3 x = d at *
  rw [Bool.eq_iff_iff]
  simp only [Bool.or_eq_true, decide_eq_true_eq]
  simp only [B_eq] at *
  omega
theorem or3_zero {a b c : Nat} (ha : a < B) (hb : b < B) (hc : c < B) : decide (((a ||| b) % B ||| c) % B = 0) = (decide (a = 0) && (decide (b = 0) && decide (c = 0))) := by
  have p : B = 2 ^ 64 := by rw [B_eq]
  have h1 : a ||| b < B := by rw [p]; exact Nat.or_lt_two_pow (by rw [← p]; exact ha) (by rw [← p]; exact hb)
  have h2 : (a ||| b) ||| c < B := by rw [p]; exact Nat.or_lt_two_pow (by rw [← p]; exact h1) (by rw [← p]; exact hc)
  rw [Nat.mod_eq_of_lt h1, Nat.mod_eq_of_lt h2, Bool.eq_iff_iff]
  simp only [decide_eq_true_eq, Bool.and_eq_true, Nat.or_eq_zero_iff, and_assoc]
theorem dl_above (x k : Nat) (hx : x < BB) (hk : k < 1000) (H : Heap) (n : Nat) : ACall Tryz.prog 44 [N x, .int .i64 (k : Nat)] H n (Ret (.bool (decide (k < x))) H n) := by
  refine acall_retF mix lw Tryz.func44 ok44 (fun _ _ => Tryz.call44 _ _) rfl ?_
  have hkB : k < B := by rw [B_eq]; omega
  have q1 : k % B = k := Nat.mod_eq_of_lt hkB
  have h1 := w1_lt x; have h2 := w2_lt x; have h3 := w3_lt x
  have ho := or3_zero h1 h2 h3
  rw [above_hi hx hkB]
  by_cases hz : ((w1 x ||| w2 x) % B ||| w3 x) % B = 0
  · rw [decide_eq_true hz] at ho
    have ho := ho.symm
    simp only [Bool.and_eq_true, decide_eq_true_eq] at ho
    obtain ⟨e1, e2, e3⟩ := ho
    rw [e1, e2, e3] at hz ⊢
    refine wk9 @c44.eq_1 @vcells_N @isTup_N @e1 @e2 @e3 @u64_wrap @q1 @hz ?_
    exact ⟨rfl, agr⟩
  · rw [decide_eq_false hz] at ho
    have hor : (decide (w1 x ≠ 0) || (decide (w2 x ≠ 0) || (decide (w3 x ≠ 0) || decide (k < w0 x)))) = true := by
      by_cases e1 : w1 x = 0
      · by_cases e2 : w2 x = 0
        · by_cases e3 : w3 x = 0
          · rw [e1, e2, e3] at ho; cases ho
          · simp [e3]
        · simp [e2]
      · simp [e1]
    rw [hor]
    refine wk6 @c44.eq_1 @vcells_N @isTup_N @u64_wrap @q1 @hz ?_
    exact ⟨rfl, agr⟩
theorem setting_1 (G : Grp) (k : U × U) (b : Nat) (F S nv : Value) (e : TypeId) (fz : Nat × Nat) (H : Heap) (n : Nat) (hb : b < n) (hB : H b = some (.cells (gcells G ++ [F, S, nv]) e fz)) : ACall Tryz.prog 47 [PV k.1 k.2, .pointer (some ⟨b, 0, none⟩)] H n (Ret (.bool (!isPair G k)) H n) := by
  refine acall_retF mix lw Tryz.func47 ok47 (fun _ _ => Tryz.call47 _ _) rfl ?_
  simp only [gcells_eq, List.cons_append, List.nil_append] at hB
  refine wk6 @c47.eq_1 rN rG rP @PV_zero @hB ?_
  refine AGo_askV (dl_keys G 2 _ (two k.1 k.2) _ _ (two_nums (e := 24) (fz := (0, 0)) (by omega) (by rw [upd_same]; rfl))) ?_
  refine wk1 @two_key ?_
  exact ⟨rfl, agr⟩
end Go.Proofs.YtcjchcommaahdaaGreat
namespace Go.Proofs.YtcjchcommaahdaaGreat
open Go.Ab
/-- A setting: its group, how many may be wrong, how many secrets, its nodes. -/
def SV (G : Grp) (F S : Int) (nv : Value) : Value := .agg #[.int .u64 (w0 G.p.val : Nat), .int .u64 (w1 G.p.val : Nat), .int .u64 (w2 G.p.val : Nat), .int .u64 (w3 G.p.val : Nat), .int .u64 (w0 G.q.val : Nat), .int .u64 (w1 G.q.val : Nat), .int .u64 (w2 G.q.val : Nat), .int .u64 (w3 G.q.val : Nat), .int .u64 (w0 G.g.val : Nat), .int .u64 (w1 G.g.val : Nat), .int .u64 (w2 G.g.val : Nat), .int .u64 (w3 G.g.val : Nat), .int .u64 (w0 G.h.val : Nat), .int .u64 (w1 G.h.val : Nat), .int .u64 (w2 G.h.val : Nat), .int .u64 (w3 G.h.val : Nat), .int .i64 F, .int .i64 S, nv]
theorem SV_fold (G : Grp) (F S : Int) (nv : Value) : Value.agg #[.int .u64 (w0 G.p.val : Nat), .int .u64 (w1 G.p.val : Nat), .int .u64 (w2 G.p.val : Nat), .int .u64 (w3 G.p.val : Nat), .int .u64 (w0 G.q.val : Nat), .int .u64 (w1 G.q.val : Nat), .int .u64 (w2 G.q.val : Nat), .int .u64 (w3 G.q.val : Nat), .int .u64 (w0 G.g.val : Nat), .int .u64 (w1 G.g.val : Nat), .int .u64 (w2 G.g.val : Nat), .int .u64 (w3 G.g.val : Nat), .int .u64 (w0 G.h.val : Nat), .int .u64 (w1 G.h.val : Nat), .int .u64 (w2 G.h.val : Nat), .int .u64 (w3 G.h.val : Nat), .int .i64 F, .int .i64 S, nv] = SV G F S nv := rfl
theorem vcells_SV (G : Grp) (F S : Int) (nv : Value) : vcells (SV G F S nv) = [.int .u64 (w0 G.p.val : Nat), .int .u64 (w1 G.p.val : Nat), .int .u64 (w2 G.p.val : Nat), .int .u64 (w3 G.p.val : Nat), .int .u64 (w0 G.q.val : Nat), .int .u64 (w1 G.q.val : Nat), .int .u64 (w2 G.q.val : Nat), .int .u64 (w3 G.q.val : Nat), .int .u64 (w0 G.g.val : Nat), .int .u64 (w1 G.g.val : Nat), .int .u64 (w2 G.g.val : Nat), .int .u64 (w3 G.g.val : Nat), .int .u64 (w0 G.h.val : Nat), .int .u64 (w1 G.h.val : Nat), .int .u64 (w2 G.h.val : Nat), .int .u64 (w3 G.h.val : Nat), .int .i64 F, .int .i64 S, nv] := rfl
theorem isTup_SV (G : Grp) (F S : Int) (nv : Value) : isTup (SV G F S nv) = false := rfl
theorem rS : type_of% (And.intro @SV_fold (And.intro @vcells_SV @isTup_SV)) := (And.intro @SV_fold (And.intro @vcells_SV @isTup_SV))
theorem bin_lssI (a b : Int) : binInt .lss .i64 a .i64 b = some (.bool (decide (a < b))) := by simp only [binInt, if_pos]
theorem bin_gtrI (a b : Int) : binInt .gtr .i64 a .i64 b = some (.bool (decide (b < a))) := by simp only [binInt, if_pos]
theorem min3 (f : Nat) (hf : f ≤ 2) : minInt false .i64 ((3 : Nat) : Int) [.int .i64 (f + 1 : Nat)] = some (.int .i64 (f + 1 : Nat)) := by
  simp only [minInt, if_true, Bool.false_eq_true, if_false]
  by_cases h : ((f + 1 : Nat) : Int) < ((3 : Nat) : Int)
  · rw [if_pos h]
  · rw [if_neg h]; congr 2; omega
def settB (G : Grp) (F S : Int) (m : Nat) (ks : Nat → U × U) : Bool :=
  decide (0 ≤ F ∧ F ≤ 2 ∧ 1 ≤ S ∧ S ≤ 3 ∧ S ≤ F + 1 ∧ 3 * F + 1 ≤ m ∧ m ≤ 7) && (decide (m + S.toNat < G.q.val) && ((isKey G G.g && isKey G G.h) && !anyB (fun i => !isPair G (ks i)) m))
theorem settB_no {G : Grp} {F S : Int} {m : Nat} {ks : Nat → U × U} (h : ¬ (0 ≤ F ∧ F ≤ 2 ∧ 1 ≤ S ∧ S ≤ 3 ∧ S ≤ F + 1 ∧ 3 * F + 1 ≤ m ∧ m ≤ 7)) : settB G F S m ks = false := by
  unfold settB; rw [decide_eq_false h]; rfl
theorem settB_yes {G : Grp} {f s m : Nat} {ks : Nat → U × U} (hf : f ≤ 2) (hs1 : 1 ≤ s) (hs : s ≤ 3) (h1 : s ≤ f + 1) (h2 : 3 * f + 1 ≤ m) (h3 : m ≤ 7) : settB G (f : Nat) (s : Nat) m ks = (decide (m + s < G.q.val) && ((isKey G G.g && isKey G G.h) && !anyB (fun i => !isPair G (ks i)) m)) := by
  unfold settB; rw [decide_eq_true (show _ ∧ _ by omega)]; rfl
attribute [local irreducible] isKey settB
theorem dl_Setting (G : Grp) (F S : Int) (m : Nat) (ks : Nat → U × U) (nv : Value) (H : Heap) (n : Nat) (hv : KeysA n H nv m ks) : ACall Tryz.prog 16 [SV G F S nv] H n (Ret (.bool (settB G F S m ks)) H n) := by
  refine acall_retF mix lw Tryz.func16 ok16 (fun _ _ => Tryz.call16 _ _) rfl ?_
  obtain ⟨sa, cap, rfl, hmc, hm60, hv⟩ := hv
  have hv' : KeysA n H (.slice sa m cap) m ks := ⟨sa, cap, rfl, hmc, hm60, hv⟩
  by_cases hF0 : F < 0
  · have f1 : binInt .lss .i64 F .i64 ((0 : Nat) : Int) = some (.bool true) := by rw [bin_lssI]; congr 2; simpa using hF0
    rw [settB_no (by omega)]
    refine wk6 @c16.eq_1 rN rG @vcells_SV @isTup_SV @f1 ?_
    exact ⟨rfl, agr⟩
  by_cases hF2 : 2 < F
  · have f1 : binInt .lss .i64 F .i64 ((0 : Nat) : Int) = some (.bool false) := by rw [bin_lssI]; congr 2; simpa using hF0
    have f2 : binInt .gtr .i64 F .i64 ((2 : Nat) : Int) = some (.bool true) := by rw [bin_gtrI]; congr 2; simpa using hF2
    rw [settB_no (by omega)]
    refine wk7 @c16.eq_1 rN rG @vcells_SV @isTup_SV @f1 @f2 ?_
    exact ⟨rfl, agr⟩
  obtain ⟨f, rfl⟩ : ∃ f : Nat, F = (f : Nat) := ⟨F.toNat, by omega⟩
  have hf2 : f ≤ 2 := by omega
  have hf2' : ¬ 2 < f := by omega
  by_cases hS1 : S < 1
  · have f3 : binInt .lss .i64 S .i64 ((1 : Nat) : Int) = some (.bool true) := by rw [bin_lssI]; congr 2; simpa using hS1
    rw [settB_no (by omega)]
    refine wk8 @c16.eq_1 rN rG @vcells_SV @isTup_SV @Nat.not_lt_zero @hf2' @f3 ?_
    exact ⟨rfl, agr⟩
  by_cases hS3 : 3 < S
  · have f3 : binInt .lss .i64 S .i64 ((1 : Nat) : Int) = some (.bool false) := by rw [bin_lssI]; congr 2; simpa using hS1
    have f4 : binInt .gtr .i64 S .i64 ((f + 1 : Nat) : Int) = some (.bool true) := by rw [bin_gtrI]; congr 2; simp; omega
    rw [settB_no (by omega)]
    simp (disch := first | assumption | omega) only [c16, N_fold, N_zero, N_one, GV_fold, vcells_GV, isTup_GV, vcells_SV, isTup_SV, Nat.not_lt_zero, hf2', f3, f4, min3 f hf2, W, sim, ↓reduceIte, Nat.reduceAdd, Nat.reduceSub, Nat.reduceMul, Nat.reduceLT, Nat.reduceLeDiff, Nat.reduceEqDiff, Nat.reduceBEq, Nat.reduceBNe, Nat.reduceMod, Nat.reduceDiv]
    exact ⟨rfl, agr⟩
  obtain ⟨s, rfl⟩ : ∃ s : Nat, S = (s : Nat) := ⟨S.toNat, by omega⟩
  have hs1 : 1 ≤ s := by omega
  have hs3 : s ≤ 3 := by omega
  have hs1' : ¬ s < 1 := by omega
  by_cases hA : f + 1 < s
  · rw [settB_no (by omega)]
    simp (disch := first | assumption | omega) only [c16, N_fold, N_zero, N_one, GV_fold, vcells_GV, isTup_GV, vcells_SV, isTup_SV, Nat.not_lt_zero, hf2', hs1', min3 f hf2, hA, W, sim, ↓reduceIte, Nat.reduceAdd, Nat.reduceSub, Nat.reduceMul, Nat.reduceLT, Nat.reduceLeDiff, Nat.reduceEqDiff, Nat.reduceBEq, Nat.reduceBNe, Nat.reduceMod, Nat.reduceDiv]
    exact ⟨rfl, agr⟩
  by_cases hB : m < 3 * f + 1
  · rw [settB_no (by omega)]
    simp (disch := first | assumption | omega) only [c16, N_fold, N_zero, N_one, GV_fold, vcells_GV, isTup_GV, vcells_SV, isTup_SV, Nat.not_lt_zero, hf2', hs1', min3 f hf2, hA, hB, W, sim, ↓reduceIte, Nat.reduceAdd, Nat.reduceSub, Nat.reduceMul, Nat.reduceLT, Nat.reduceLeDiff, Nat.reduceEqDiff, Nat.reduceBEq, Nat.reduceBNe, Nat.reduceMod, Nat.reduceDiv]
    exact ⟨rfl, agr⟩
  by_cases hC : 7 < m
  · rw [settB_no (by omega)]
    simp (disch := first | assumption | omega) only [c16, N_fold, N_zero, N_one, GV_fold, vcells_GV, isTup_GV, vcells_SV, isTup_SV, Nat.not_lt_zero, hf2', hs1', min3 f hf2, hA, hB, hC, W, sim, ↓reduceIte, Nat.reduceAdd, Nat.reduceSub, Nat.reduceMul, Nat.reduceLT, Nat.reduceLeDiff, Nat.reduceEqDiff, Nat.reduceBEq, Nat.reduceBNe, Nat.reduceMod, Nat.reduceDiv]
    exact ⟨rfl, agr⟩
  rw [settB_yes hf2 hs1 hs3 (by omega) (by omega) (by omega)]
  simp (disch := first | assumption | omega) only [c16, N_fold, N_zero, N_one, GV_fold, vcells_GV, isTup_GV, vcells_SV, isTup_SV, Nat.not_lt_zero, hf2', hs1', min3 f hf2, hA, hB, hC, W, sim, ↓reduceIte, Nat.reduceAdd, Nat.reduceSub, Nat.reduceMul, Nat.reduceLT, Nat.reduceLeDiff, Nat.reduceEqDiff, Nat.reduceBEq, Nat.reduceBNe, Nat.reduceMod, Nat.reduceDiv]
  refine AGo_askV (dl_above G.q.val (m + s) G.q.isLt (by omega) _ _) ?_
  refine wk2 rN rG ?_
  by_cases hD : m + s < G.q.val
  · rw [decide_eq_true hD, Bool.true_and]
    refine wk5 rN rG @vcells_SV @isTup_SV @SV_fold ?_
    refine AGo_askV (dl_keys G 2 _ (two G.g G.h) _ _ (two_nums (e := 24) (fz := (0, 0)) (by omega) (by rw [upd_same]; rfl))) ?_
    refine wk1 @two_key ?_
    cases hE : (isKey G G.g && isKey G G.h) with
    | false =>
      rw [Bool.false_and]
      refine wk5 rN rG @vcells_SV @isTup_SV @SV_fold ?_
      exact ⟨rfl, agr⟩
    | true =>
      rw [Bool.true_and]
      refine wk5 rN rG @vcells_SV @isTup_SV @SV_fold ?_
      refine AGo_askV (con_keys 47 #[.pointer (some ⟨n, 0, none⟩)] m _ (.slice sa m cap) (fun i => !isPair G (ks i)) _ _ (hv'.later (agr) (by omega)) (fun i hi n' hn' => setting_1 G (ks i) n (.int .i64 (f : Nat)) (.int .i64 (s : Nat)) (.slice sa m cap) 29 (0, 0) _ n' (by omega) (by rw [upd_ne _ _ (by omega), upd_same]; rfl))) ?_
      refine wk0 ?_
      exact ⟨rfl, agr⟩
  · rw [decide_eq_false hD, Bool.false_and]
    refine wk5 rN rG @vcells_SV @isTup_SV @SV_fold ?_
    exact ⟨rfl, agr⟩
end Go.Proofs.YtcjchcommaahdaaGreat

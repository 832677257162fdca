/- Settings that may be, by the document. What is drawn; whose something is; secrets of keys. Nodes; whose something is; secrets of keys. No conditions. -/
import Derived.Test.YtcjchcommaahdaaGreatQ12
import Derived.Test.YtcjchcommaahdaaGreatQ30
set_option maxRecDepth 20000
set_option maxHeartbeats 4000000
set_option linter.all false
namespace Go.Proofs.YtcjchcommaahdaaGreat
open Go.Ab
theorem key_halves {cs : List Value} {o : Nat} {k : U × U} (h1 : o + 8 ≤ cs.length) (h2 : (cs.drop o).take 8 = vcells (PV k.1 k.2)) : o + 4 ≤ cs.length ∧ (cs.drop o).take 4 = vcells (N k.1.val) ∧ (cs.drop (o + 4)).take 4 = vcells (N k.2.val) := by
  refine ⟨by omega, ?_, ?_⟩
  · have := congrArg (List.take 4) h2
    rw [List.take_take] at this; exact this
  · have := congrArg (List.drop 4) h2
    rw [List.drop_take, List.drop_drop] at this; exact this
attribute [local irreducible] isKey settB
theorem r15_Setting (G : Grp) (F S : Int) (m : Nat) (ks : Nat → U × U) (nv : Value) (H : Heap) (n : Nat) (hv : KeysA n H nv m ks) : ACall Tryz.prog 27 [SV G F S nv] H n (Ret (.bool (settB G F S m ks)) H n) := by
  refine acall_retF mix lw Tryz.func27 ok27 (fun _ _ => Tryz.call27 _ _) rfl ?_
  obtain ⟨sa, cap, rfl, hmc, hm60, hv⟩ := hv
  by_cases hF0 : F < 0
  · have f1 : binInt .lss .i64 F .i64 ((0 : Nat) : Int) = some (.bool true) := by rw [bin_lssI]; congr 2; simpa using hF0
    rw [settB_no (by omega)]
    refine wk6 @c27.eq_1 rN rG @vcells_SV @isTup_SV @f1 ?_
    exact ⟨rfl, agr⟩
  by_cases hF2 : 2 < F
  · have f1 : binInt .lss .i64 F .i64 ((0 : Nat) : Int) = some (.bool false) := by rw [bin_lssI]; congr 2; simpa using hF0
    have f2 : binInt .gtr .i64 F .i64 ((2 : Nat) : Int) = some (.bool true) := by rw [bin_gtrI]; congr 2; simpa using hF2
    rw [settB_no (by omega)]
    refine wk7 @c27.eq_1 rN rG @vcells_SV @isTup_SV @f1 @f2 ?_
    exact ⟨rfl, agr⟩
  obtain ⟨f, rfl⟩ : ∃ f : Nat, F = (f : Nat) := ⟨F.toNat, by omega⟩
  have hf2 : f ≤ 2 := by omega
  have hf2' : ¬ 2 < f := by omega
  by_cases hS1 : S < 1
  · have f3 : binInt .lss .i64 S .i64 ((1 : Nat) : Int) = some (.bool true) := by rw [bin_lssI]; congr 2; simpa using hS1
    rw [settB_no (by omega)]
    refine wk8 @c27.eq_1 rN rG @vcells_SV @isTup_SV @Nat.not_lt_zero @hf2' @f3 ?_
    exact ⟨rfl, agr⟩
  by_cases hS3 : 3 < S
  · have f3 : binInt .lss .i64 S .i64 ((1 : Nat) : Int) = some (.bool false) := by rw [bin_lssI]; congr 2; simpa using hS1
    have f4 : binInt .gtr .i64 S .i64 ((3 : Nat) : Int) = some (.bool true) := by rw [bin_gtrI]; congr 2; simp; omega
    rw [settB_no (by omega)]
    refine wk9 @c27.eq_1 rN rG @vcells_SV @isTup_SV @Nat.not_lt_zero @hf2' @f3 @f4 ?_
    exact ⟨rfl, agr⟩
  obtain ⟨s, rfl⟩ : ∃ s : Nat, S = (s : Nat) := ⟨S.toNat, by omega⟩
  have hs1 : 1 ≤ s := by omega
  have hs3 : s ≤ 3 := by omega
  have hs1' : ¬ s < 1 := by omega
  have hs3' : ¬ 3 < s := by omega
  by_cases hA : f + 1 < s
  · rw [settB_no (by omega)]
    refine wk10 @c27.eq_1 rN rG @vcells_SV @isTup_SV @Nat.not_lt_zero @hf2' @hs1' @hs3' @hA ?_
    exact ⟨rfl, agr⟩
  by_cases hB : m < 3 * f + 1
  · rw [settB_no (by omega)]
    refine wk11 @c27.eq_1 rN rG @vcells_SV @isTup_SV @Nat.not_lt_zero @hf2' @hs1' @hs3' @hA @hB ?_
    exact ⟨rfl, agr⟩
  by_cases hC : 7 < m
  · rw [settB_no (by omega)]
    refine wk12 @c27.eq_1 rN rG @vcells_SV @isTup_SV @Nat.not_lt_zero @hf2' @hs1' @hs3' @hA @hB @hC ?_
    exact ⟨rfl, agr⟩
  rw [settB_yes hf2 hs1 hs3 (by omega) (by omega) (by omega)]
  have q1 : (m + s) % B = m + s := Nat.mod_eq_of_lt (by rw [B_eq]; omega)
  have hab := above_hi (k := m + s) G.q.isLt (by rw [B_eq]; omega)
  rw [hab]
  simp (disch := first | assumption | omega) only [c27, N_fold, N_zero, N_one, GV_fold, vcells_GV, isTup_GV, vcells_SV, isTup_SV, Nat.not_lt_zero, hf2', hs1', hs3', hA, hB, hC, u64_wrap, q1, W, sim, ↓reduceIte, Nat.reduceAdd, Nat.reduceSub, Nat.reduceMul, Nat.reduceLT, Nat.reduceLeDiff, Nat.reduceEqDiff, Nat.reduceBEq, Nat.reduceBNe, Nat.reduceMod, Nat.reduceDiv]
  by_cases e1 : w1 G.q.val = 0
  · have d1 := decide_eq_true e1
    by_cases e2 : w2 G.q.val = 0
    · have d2 := decide_eq_true e2
      by_cases e3 : w3 G.q.val = 0
      · have d3 := decide_eq_true e3
        by_cases e0 : w0 G.q.val ≤ m + s
        · have d0 := decide_eq_true e0
          refine wk10 rN rG @vcells_SV @isTup_SV @d1 @d2 @d3 @d0 @u64_wrap @q1 ?_
          exact ⟨by simp [e1, e2, e3]; omega, agr⟩
        · have d0 := decide_eq_false e0
          have hlt0 : m + s < w0 G.q.val := by omega
          rw [show (decide (w1 G.q.val ≠ 0) || (decide (w2 G.q.val ≠ 0) || (decide (w3 G.q.val ≠ 0) || decide (m + s < w0 G.q.val)))) = true by simp [*]]
          rw [Bool.true_and]
          refine wk10 rN rG @vcells_SV @isTup_SV @d1 @d2 @d3 @d0 @u64_wrap @q1 ?_
          refine AGo_askV (r15_key G G.g _ _) ?_
          refine wk2 rN rG ?_
          cases hg : isKey G G.g with
          | false =>
            rw [Bool.false_and, Bool.false_and]
            refine wk3 rN rG @hg ?_
            exact ⟨rfl, agr⟩
          | true =>
            refine wk3 rN rG @hg ?_
            refine AGo_askV (r15_key G G.h _ _) ?_
            refine wk2 rN rG ?_
            cases hh : isKey G G.h with
            | false =>
              refine wk3 rN rG @hh ?_
              exact ⟨rfl, agr⟩
            | true =>
              refine wk3 rN rG @hh ?_
              generalize hK : upd (upd H n _) (n + 47) _ = K
              have k0 : K n = some (.cells [.int .u64 (w0 G.p.val : Nat), .int .u64 (w1 G.p.val : Nat), .int .u64 (w2 G.p.val : Nat), .int .u64 (w3 G.p.val : Nat), .int .u64 (w0 G.q.val : Nat), .int .u64 (w1 G.q.val : Nat), .int .u64 (w2 G.q.val : Nat), .int .u64 (w3 G.q.val : Nat), .int .u64 (w0 G.g.val : Nat), .int .u64 (w1 G.g.val : Nat), .int .u64 (w2 G.g.val : Nat), .int .u64 (w3 G.g.val : Nat), .int .u64 (w0 G.h.val : Nat), .int .u64 (w1 G.h.val : Nat), .int .u64 (w2 G.h.val : Nat), .int .u64 (w3 G.h.val : Nat), .int .i64 (f : Nat), .int .i64 (s : Nat), .slice sa m cap] 29 (0, 0)) := by rw [← hK, upd_ne _ _ (by omega), upd_same]
              have kA : Agree n H K := by rw [← hK]; exact agr
              clear hK
              refine AGo_cycleD (α := Nat) 89 116 (fun i => [(5, .int .i64 (i : Nat))]) (fun i H' n' => i ≤ m ∧ n + 1 ≤ n' ∧ H' n = some (.cells [.int .u64 (w0 G.p.val : Nat), .int .u64 (w1 G.p.val : Nat), .int .u64 (w2 G.p.val : Nat), .int .u64 (w3 G.p.val : Nat), .int .u64 (w0 G.q.val : Nat), .int .u64 (w1 G.q.val : Nat), .int .u64 (w2 G.q.val : Nat), .int .u64 (w3 G.q.val : Nat), .int .u64 (w0 G.g.val : Nat), .int .u64 (w1 G.g.val : Nat), .int .u64 (w2 G.g.val : Nat), .int .u64 (w3 G.g.val : Nat), .int .u64 (w0 G.h.val : Nat), .int .u64 (w1 G.h.val : Nat), .int .u64 (w2 G.h.val : Nat), .int .u64 (w3 G.h.val : Nat), .int .i64 (f : Nat), .int .i64 (s : Nat), .slice sa m cap] 29 (0, 0)) ∧ Agree n H H' ∧ anyB (fun i => !isPair G (ks i)) i = false) (fun i H' n' => Agree n H H' ∧ anyB (fun i => !isPair G (ks i)) m = false) (fun i => m - i) (0) ?_ (by simp only [subs_nil, subs_if, lk_if, lk_nil, dropR_nil, dropR_cons, Nat.reduceLT, List.cons_append, List.nil_append, List.elem_nil, List.elem_cons, Nat.reduceBEq, beq_self_eq_true, Bool.true_or, Bool.false_or, Bool.or_true, Bool.or_false, Bool.false_eq_true, ↓reduceIte, if_true, if_false, Nat.reduceEqDiff, and_self, and_true, true_and, eq_self]) ?_ ?_
              · exact ⟨Nat.zero_le _, by omega, k0, kA, rfl⟩
              · clear k0 kA
                rintro i H' n' kk ⟨hi, hn, k0, kA, hany⟩ hK hS
                simp only [List.cons_append, List.nil_append, dropR_nil, dropR_cons, Nat.reduceLT, ↓reduceIte]
                by_cases hlt : i < m
                · rcases hv with h | ⟨b, off, cs, e, fz, rfl, hb, hB2, hcs⟩
                  · omega
                  obtain ⟨c1, c2⟩ := hcs i hlt
                  have hB3 : H' b = some (.cells cs e fz) := (kA b hb).trans hB2
                  obtain ⟨d1, d2, d3⟩ := key_halves c1 c2
                  rw [Nat.add_assoc] at d3
                  refine AGo_turn ?_
                  refine wk10 rN rG rI @hlt @k0 @hB3 @d1 @d2 @d3 @agg_vN ?_
                  refine AGo_askV (r15_key G (ks i).1 _ _) ?_
                  refine wk2 rN rG ?_
                  cases hk1 : isKey G (ks i).1 with
                  | false =>
                    refine wk2 rN rG ?_
                    exact ⟨by rw [anyB_true hlt (by unfold isPair; rw [hk1]; rfl)]; rfl, agr⟩
                  | true =>
                    refine wk10 rN rG rI @hlt @k0 @hB3 @d1 @d2 @d3 @agg_vN ?_
                    refine AGo_askV (r15_key G (ks i).2 _ _) ?_
                    refine wk2 rN rG ?_
                    cases hk2 : isKey G (ks i).2 with
                    | false =>
                      refine wk2 rN rG ?_
                      exact ⟨by rw [anyB_true hlt (by unfold isPair; rw [hk1, hk2]; rfl)]; rfl, agr⟩
                    | true =>
                      refine wk2 rN rG ?_
                      refine AGo_le ?_ (hS (i + 1) _ _ ⟨by omega, by omega, k0, kA, by rw [anyB_succ, hany]; unfold isPair; rw [hk1, hk2]; rfl⟩ (by omega))
                      · simp only [subs_nil, subs_if, lk_if, lk_nil, dropR_nil, dropR_cons, Nat.reduceLT, List.cons_append, List.nil_append, List.elem_nil, List.elem_cons, Nat.reduceBEq, beq_self_eq_true, Bool.true_or, Bool.false_or, Bool.or_true, Bool.or_false, Bool.false_eq_true, ↓reduceIte, if_true, if_false, Nat.reduceEqDiff, and_self, and_true, true_and, eq_self]
                · have him : i = m := by omega
                  subst him
                  refine AGo_turn ?_
                  refine wk1 @hlt ?_
                  refine AGo_markL ?_ (hK i _ _ ⟨kA, hany⟩)
                  · simp only [subs_nil, subs_if, lk_if, lk_nil, dropR_nil, dropR_cons, Nat.reduceLT, List.cons_append, List.nil_append, List.elem_nil, List.elem_cons, Nat.reduceBEq, beq_self_eq_true, Bool.true_or, Bool.false_or, Bool.or_true, Bool.or_false, Bool.false_eq_true, ↓reduceIte, if_true, if_false, Nat.reduceEqDiff, and_self, and_true, true_and, eq_self]
              rintro i H' n' ⟨kA, hany⟩
              simp only [List.cons_append, List.nil_append, dropR_nil, dropR_cons, Nat.reduceLT, ↓reduceIte]
              rw [hany]
              refine wk0 ?_
              exact ⟨rfl, agr⟩
      · have d3 := decide_eq_false e3
        rw [show (decide (w1 G.q.val ≠ 0) || (decide (w2 G.q.val ≠ 0) || (decide (w3 G.q.val ≠ 0) || decide (m + s < w0 G.q.val)))) = true by simp [*]]
        rw [Bool.true_and]
        refine wk9 rN rG @vcells_SV @isTup_SV @d1 @d2 @d3 @u64_wrap @q1 ?_
        refine AGo_askV (r15_key G G.g _ _) ?_
        refine wk2 rN rG ?_
        cases hg : isKey G G.g with
        | false =>
          rw [Bool.false_and, Bool.false_and]
          refine wk3 rN rG @hg ?_
          exact ⟨rfl, agr⟩
        | true =>
          refine wk3 rN rG @hg ?_
          refine AGo_askV (r15_key G G.h _ _) ?_
          refine wk2 rN rG ?_
          cases hh : isKey G G.h with
          | false =>
            refine wk3 rN rG @hh ?_
            exact ⟨rfl, agr⟩
          | true =>
            refine wk3 rN rG @hh ?_
            generalize hK : upd (upd H n _) (n + 47) _ = K
            have k0 : K n = some (.cells [.int .u64 (w0 G.p.val : Nat), .int .u64 (w1 G.p.val : Nat), .int .u64 (w2 G.p.val : Nat), .int .u64 (w3 G.p.val : Nat), .int .u64 (w0 G.q.val : Nat), .int .u64 (w1 G.q.val : Nat), .int .u64 (w2 G.q.val : Nat), .int .u64 (w3 G.q.val : Nat), .int .u64 (w0 G.g.val : Nat), .int .u64 (w1 G.g.val : Nat), .int .u64 (w2 G.g.val : Nat), .int .u64 (w3 G.g.val : Nat), .int .u64 (w0 G.h.val : Nat), .int .u64 (w1 G.h.val : Nat), .int .u64 (w2 G.h.val : Nat), .int .u64 (w3 G.h.val : Nat), .int .i64 (f : Nat), .int .i64 (s : Nat), .slice sa m cap] 29 (0, 0)) := by rw [← hK, upd_ne _ _ (by omega), upd_same]
            have kA : Agree n H K := by rw [← hK]; exact agr
            clear hK
            refine AGo_cycleD (α := Nat) 89 116 (fun i => [(5, .int .i64 (i : Nat))]) (fun i H' n' => i ≤ m ∧ n + 1 ≤ n' ∧ H' n = some (.cells [.int .u64 (w0 G.p.val : Nat), .int .u64 (w1 G.p.val : Nat), .int .u64 (w2 G.p.val : Nat), .int .u64 (w3 G.p.val : Nat), .int .u64 (w0 G.q.val : Nat), .int .u64 (w1 G.q.val : Nat), .int .u64 (w2 G.q.val : Nat), .int .u64 (w3 G.q.val : Nat), .int .u64 (w0 G.g.val : Nat), .int .u64 (w1 G.g.val : Nat), .int .u64 (w2 G.g.val : Nat), .int .u64 (w3 G.g.val : Nat), .int .u64 (w0 G.h.val : Nat), .int .u64 (w1 G.h.val : Nat), .int .u64 (w2 G.h.val : Nat), .int .u64 (w3 G.h.val : Nat), .int .i64 (f : Nat), .int .i64 (s : Nat), .slice sa m cap] 29 (0, 0)) ∧ Agree n H H' ∧ anyB (fun i => !isPair G (ks i)) i = false) (fun i H' n' => Agree n H H' ∧ anyB (fun i => !isPair G (ks i)) m = false) (fun i => m - i) (0) ?_ (by simp only [subs_nil, subs_if, lk_if, lk_nil, dropR_nil, dropR_cons, Nat.reduceLT, List.cons_append, List.nil_append, List.elem_nil, List.elem_cons, Nat.reduceBEq, beq_self_eq_true, Bool.true_or, Bool.false_or, Bool.or_true, Bool.or_false, Bool.false_eq_true, ↓reduceIte, if_true, if_false, Nat.reduceEqDiff, and_self, and_true, true_and, eq_self]) ?_ ?_
            · exact ⟨Nat.zero_le _, by omega, k0, kA, rfl⟩
            · clear k0 kA
              rintro i H' n' kk ⟨hi, hn, k0, kA, hany⟩ hK hS
              simp only [List.cons_append, List.nil_append, dropR_nil, dropR_cons, Nat.reduceLT, ↓reduceIte]
              by_cases hlt : i < m
              · rcases hv with h | ⟨b, off, cs, e, fz, rfl, hb, hB2, hcs⟩
                · omega
                obtain ⟨c1, c2⟩ := hcs i hlt
                have hB3 : H' b = some (.cells cs e fz) := (kA b hb).trans hB2
                obtain ⟨d1, d2, d3⟩ := key_halves c1 c2
                rw [Nat.add_assoc] at d3
                refine AGo_turn ?_
                refine wk10 rN rG rI @hlt @k0 @hB3 @d1 @d2 @d3 @agg_vN ?_
                refine AGo_askV (r15_key G (ks i).1 _ _) ?_
                refine wk2 rN rG ?_
                cases hk1 : isKey G (ks i).1 with
                | false =>
                  refine wk2 rN rG ?_
                  exact ⟨by rw [anyB_true hlt (by unfold isPair; rw [hk1]; rfl)]; rfl, agr⟩
                | true =>
                  refine wk10 rN rG rI @hlt @k0 @hB3 @d1 @d2 @d3 @agg_vN ?_
                  refine AGo_askV (r15_key G (ks i).2 _ _) ?_
                  refine wk2 rN rG ?_
                  cases hk2 : isKey G (ks i).2 with
                  | false =>
                    refine wk2 rN rG ?_
                    exact ⟨by rw [anyB_true hlt (by unfold isPair; rw [hk1, hk2]; rfl)]; rfl, agr⟩
                  | true =>
                    refine wk2 rN rG ?_
                    refine AGo_le ?_ (hS (i + 1) _ _ ⟨by omega, by omega, k0, kA, by rw [anyB_succ, hany]; unfold isPair; rw [hk1, hk2]; rfl⟩ (by omega))
                    · simp only [subs_nil, subs_if, lk_if, lk_nil, dropR_nil, dropR_cons, Nat.reduceLT, List.cons_append, List.nil_append, List.elem_nil, List.elem_cons, Nat.reduceBEq, beq_self_eq_true, Bool.true_or, Bool.false_or, Bool.or_true, Bool.or_false, Bool.false_eq_true, ↓reduceIte, if_true, if_false, Nat.reduceEqDiff, and_self, and_true, true_and, eq_self]
              · have him : i = m := by omega
                subst him
                refine AGo_turn ?_
                refine wk1 @hlt ?_
                refine AGo_markL ?_ (hK i _ _ ⟨kA, hany⟩)
                · simp only [subs_nil, subs_if, lk_if, lk_nil, dropR_nil, dropR_cons, Nat.reduceLT, List.cons_append, List.nil_append, List.elem_nil, List.elem_cons, Nat.reduceBEq, beq_self_eq_true, Bool.true_or, Bool.false_or, Bool.or_true, Bool.or_false, Bool.false_eq_true, ↓reduceIte, if_true, if_false, Nat.reduceEqDiff, and_self, and_true, true_and, eq_self]
            rintro i H' n' ⟨kA, hany⟩
            simp only [List.cons_append, List.nil_append, dropR_nil, dropR_cons, Nat.reduceLT, ↓reduceIte]
            rw [hany]
            refine wk0 ?_
            exact ⟨rfl, agr⟩
    · have d2 := decide_eq_false e2
      rw [show (decide (w1 G.q.val ≠ 0) || (decide (w2 G.q.val ≠ 0) || (decide (w3 G.q.val ≠ 0) || decide (m + s < w0 G.q.val)))) = true by simp [*]]
      rw [Bool.true_and]
      refine wk8 rN rG @vcells_SV @isTup_SV @d1 @d2 @u64_wrap @q1 ?_
      refine AGo_askV (r15_key G G.g _ _) ?_
      refine wk2 rN rG ?_
      cases hg : isKey G G.g with
      | false =>
        rw [Bool.false_and, Bool.false_and]
        refine wk3 rN rG @hg ?_
        exact ⟨rfl, agr⟩
      | true =>
        refine wk3 rN rG @hg ?_
        refine AGo_askV (r15_key G G.h _ _) ?_
        refine wk2 rN rG ?_
        cases hh : isKey G G.h with
        | false =>
          refine wk3 rN rG @hh ?_
          exact ⟨rfl, agr⟩
        | true =>
          refine wk3 rN rG @hh ?_
          generalize hK : upd (upd H n _) (n + 47) _ = K
          have k0 : K n = some (.cells [.int .u64 (w0 G.p.val : Nat), .int .u64 (w1 G.p.val : Nat), .int .u64 (w2 G.p.val : Nat), .int .u64 (w3 G.p.val : Nat), .int .u64 (w0 G.q.val : Nat), .int .u64 (w1 G.q.val : Nat), .int .u64 (w2 G.q.val : Nat), .int .u64 (w3 G.q.val : Nat), .int .u64 (w0 G.g.val : Nat), .int .u64 (w1 G.g.val : Nat), .int .u64 (w2 G.g.val : Nat), .int .u64 (w3 G.g.val : Nat), .int .u64 (w0 G.h.val : Nat), .int .u64 (w1 G.h.val : Nat), .int .u64 (w2 G.h.val : Nat), .int .u64 (w3 G.h.val : Nat), .int .i64 (f : Nat), .int .i64 (s : Nat), .slice sa m cap] 29 (0, 0)) := by rw [← hK, upd_ne _ _ (by omega), upd_same]
          have kA : Agree n H K := by rw [← hK]; exact agr
          clear hK
          refine AGo_cycleD (α := Nat) 89 116 (fun i => [(5, .int .i64 (i : Nat))]) (fun i H' n' => i ≤ m ∧ n + 1 ≤ n' ∧ H' n = some (.cells [.int .u64 (w0 G.p.val : Nat), .int .u64 (w1 G.p.val : Nat), .int .u64 (w2 G.p.val : Nat), .int .u64 (w3 G.p.val : Nat), .int .u64 (w0 G.q.val : Nat), .int .u64 (w1 G.q.val : Nat), .int .u64 (w2 G.q.val : Nat), .int .u64 (w3 G.q.val : Nat), .int .u64 (w0 G.g.val : Nat), .int .u64 (w1 G.g.val : Nat), .int .u64 (w2 G.g.val : Nat), .int .u64 (w3 G.g.val : Nat), .int .u64 (w0 G.h.val : Nat), .int .u64 (w1 G.h.val : Nat), .int .u64 (w2 G.h.val : Nat), .int .u64 (w3 G.h.val : Nat), .int .i64 (f : Nat), .int .i64 (s : Nat), .slice sa m cap] 29 (0, 0)) ∧ Agree n H H' ∧ anyB (fun i => !isPair G (ks i)) i = false) (fun i H' n' => Agree n H H' ∧ anyB (fun i => !isPair G (ks i)) m = false) (fun i => m - i) (0) ?_ (by simp only [subs_nil, subs_if, lk_if, lk_nil, dropR_nil, dropR_cons, Nat.reduceLT, List.cons_append, List.nil_append, List.elem_nil, List.elem_cons, Nat.reduceBEq, beq_self_eq_true, Bool.true_or, Bool.false_or, Bool.or_true, Bool.or_false, Bool.false_eq_true, ↓reduceIte, if_true, if_false, Nat.reduceEqDiff, and_self, and_true, true_and, eq_self]) ?_ ?_
          · exact ⟨Nat.zero_le _, by omega, k0, kA, rfl⟩
          · clear k0 kA
            rintro i H' n' kk ⟨hi, hn, k0, kA, hany⟩ hK hS
            simp only [List.cons_append, List.nil_append, dropR_nil, dropR_cons, Nat.reduceLT, ↓reduceIte]
            by_cases hlt : i < m
            · rcases hv with h | ⟨b, off, cs, e, fz, rfl, hb, hB2, hcs⟩
              · omega
              obtain ⟨c1, c2⟩ := hcs i hlt
              have hB3 : H' b = some (.cells cs e fz) := (kA b hb).trans hB2
              obtain ⟨d1, d2, d3⟩ := key_halves c1 c2
              rw [Nat.add_assoc] at d3
              refine AGo_turn ?_
              refine wk10 rN rG rI @hlt @k0 @hB3 @d1 @d2 @d3 @agg_vN ?_
              refine AGo_askV (r15_key G (ks i).1 _ _) ?_
              refine wk2 rN rG ?_
              cases hk1 : isKey G (ks i).1 with
              | false =>
                refine wk2 rN rG ?_
                exact ⟨by rw [anyB_true hlt (by unfold isPair; rw [hk1]; rfl)]; rfl, agr⟩
              | true =>
                refine wk10 rN rG rI @hlt @k0 @hB3 @d1 @d2 @d3 @agg_vN ?_
                refine AGo_askV (r15_key G (ks i).2 _ _) ?_
                refine wk2 rN rG ?_
                cases hk2 : isKey G (ks i).2 with
                | false =>
                  refine wk2 rN rG ?_
                  exact ⟨by rw [anyB_true hlt (by unfold isPair; rw [hk1, hk2]; rfl)]; rfl, agr⟩
                | true =>
                  refine wk2 rN rG ?_
                  refine AGo_le ?_ (hS (i + 1) _ _ ⟨by omega, by omega, k0, kA, by rw [anyB_succ, hany]; unfold isPair; rw [hk1, hk2]; rfl⟩ (by omega))
                  · simp only [subs_nil, subs_if, lk_if, lk_nil, dropR_nil, dropR_cons, Nat.reduceLT, List.cons_append, List.nil_append, List.elem_nil, List.elem_cons, Nat.reduceBEq, beq_self_eq_true, Bool.true_or, Bool.false_or, Bool.or_true, Bool.or_false, Bool.false_eq_true, ↓reduceIte, if_true, if_false, Nat.reduceEqDiff, and_self, and_true, true_and, eq_self]
            · have him : i = m := by omega
              subst him
              refine AGo_turn ?_
              refine wk1 @hlt ?_
              refine AGo_markL ?_ (hK i _ _ ⟨kA, hany⟩)
              · simp only [subs_nil, subs_if, lk_if, lk_nil, dropR_nil, dropR_cons, Nat.reduceLT, List.cons_append, List.nil_append, List.elem_nil, List.elem_cons, Nat.reduceBEq, beq_self_eq_true, Bool.true_or, Bool.false_or, Bool.or_true, Bool.or_false, Bool.false_eq_true, ↓reduceIte, if_true, if_false, Nat.reduceEqDiff, and_self, and_true, true_and, eq_self]
          rintro i H' n' ⟨kA, hany⟩
          simp only [List.cons_append, List.nil_append, dropR_nil, dropR_cons, Nat.reduceLT, ↓reduceIte]
          rw [hany]
          refine wk0 ?_
          exact ⟨rfl, agr⟩
  · have d1 := decide_eq_false e1
    rw [show (decide (w1 G.q.val ≠ 0) || (decide (w2 G.q.val ≠ 0) || (decide (w3 G.q.val ≠ 0) || decide (m + s < w0 G.q.val)))) = true by simp [*]]
    rw [Bool.true_and]
    refine wk7 rN rG @vcells_SV @isTup_SV @d1 @u64_wrap @q1 ?_
    refine AGo_askV (r15_key G G.g _ _) ?_
    refine wk2 rN rG ?_
    cases hg : isKey G G.g with
    | false =>
      rw [Bool.false_and, Bool.false_and]
      refine wk3 rN rG @hg ?_
      exact ⟨rfl, agr⟩
    | true =>
      refine wk3 rN rG @hg ?_
      refine AGo_askV (r15_key G G.h _ _) ?_
      refine wk2 rN rG ?_
      cases hh : isKey G G.h with
      | false =>
        refine wk3 rN rG @hh ?_
        exact ⟨rfl, agr⟩
      | true =>
        refine wk3 rN rG @hh ?_
        generalize hK : upd (upd H n _) (n + 47) _ = K
        have k0 : K n = some (.cells [.int .u64 (w0 G.p.val : Nat), .int .u64 (w1 G.p.val : Nat), .int .u64 (w2 G.p.val : Nat), .int .u64 (w3 G.p.val : Nat), .int .u64 (w0 G.q.val : Nat), .int .u64 (w1 G.q.val : Nat), .int .u64 (w2 G.q.val : Nat), .int .u64 (w3 G.q.val : Nat), .int .u64 (w0 G.g.val : Nat), .int .u64 (w1 G.g.val : Nat), .int .u64 (w2 G.g.val : Nat), .int .u64 (w3 G.g.val : Nat), .int .u64 (w0 G.h.val : Nat), .int .u64 (w1 G.h.val : Nat), .int .u64 (w2 G.h.val : Nat), .int .u64 (w3 G.h.val : Nat), .int .i64 (f : Nat), .int .i64 (s : Nat), .slice sa m cap] 29 (0, 0)) := by rw [← hK, upd_ne _ _ (by omega), upd_same]
        have kA : Agree n H K := by rw [← hK]; exact agr
        clear hK
        refine AGo_cycleD (α := Nat) 89 116 (fun i => [(5, .int .i64 (i : Nat))]) (fun i H' n' => i ≤ m ∧ n + 1 ≤ n' ∧ H' n = some (.cells [.int .u64 (w0 G.p.val : Nat), .int .u64 (w1 G.p.val : Nat), .int .u64 (w2 G.p.val : Nat), .int .u64 (w3 G.p.val : Nat), .int .u64 (w0 G.q.val : Nat), .int .u64 (w1 G.q.val : Nat), .int .u64 (w2 G.q.val : Nat), .int .u64 (w3 G.q.val : Nat), .int .u64 (w0 G.g.val : Nat), .int .u64 (w1 G.g.val : Nat), .int .u64 (w2 G.g.val : Nat), .int .u64 (w3 G.g.val : Nat), .int .u64 (w0 G.h.val : Nat), .int .u64 (w1 G.h.val : Nat), .int .u64 (w2 G.h.val : Nat), .int .u64 (w3 G.h.val : Nat), .int .i64 (f : Nat), .int .i64 (s : Nat), .slice sa m cap] 29 (0, 0)) ∧ Agree n H H' ∧ anyB (fun i => !isPair G (ks i)) i = false) (fun i H' n' => Agree n H H' ∧ anyB (fun i => !isPair G (ks i)) m = false) (fun i => m - i) (0) ?_ (by simp only [subs_nil, subs_if, lk_if, lk_nil, dropR_nil, dropR_cons, Nat.reduceLT, List.cons_append, List.nil_append, List.elem_nil, List.elem_cons, Nat.reduceBEq, beq_self_eq_true, Bool.true_or, Bool.false_or, Bool.or_true, Bool.or_false, Bool.false_eq_true, ↓reduceIte, if_true, if_false, Nat.reduceEqDiff, and_self, and_true, true_and, eq_self]) ?_ ?_
        · exact ⟨Nat.zero_le _, by omega, k0, kA, rfl⟩
        · clear k0 kA
          rintro i H' n' kk ⟨hi, hn, k0, kA, hany⟩ hK hS
          simp only [List.cons_append, List.nil_append, dropR_nil, dropR_cons, Nat.reduceLT, ↓reduceIte]
          by_cases hlt : i < m
          · rcases hv with h | ⟨b, off, cs, e, fz, rfl, hb, hB2, hcs⟩
            · omega
            obtain ⟨c1, c2⟩ := hcs i hlt
            have hB3 : H' b = some (.cells cs e fz) := (kA b hb).trans hB2
            obtain ⟨d1, d2, d3⟩ := key_halves c1 c2
            rw [Nat.add_assoc] at d3
            refine AGo_turn ?_
            refine wk10 rN rG rI @hlt @k0 @hB3 @d1 @d2 @d3 @agg_vN ?_
            refine AGo_askV (r15_key G (ks i).1 _ _) ?_
            refine wk2 rN rG ?_
            cases hk1 : isKey G (ks i).1 with
            | false =>
              refine wk2 rN rG ?_
              exact ⟨by rw [anyB_true hlt (by unfold isPair; rw [hk1]; rfl)]; rfl, agr⟩
            | true =>
              refine wk10 rN rG rI @hlt @k0 @hB3 @d1 @d2 @d3 @agg_vN ?_
              refine AGo_askV (r15_key G (ks i).2 _ _) ?_
              refine wk2 rN rG ?_
              cases hk2 : isKey G (ks i).2 with
              | false =>
                refine wk2 rN rG ?_
                exact ⟨by rw [anyB_true hlt (by unfold isPair; rw [hk1, hk2]; rfl)]; rfl, agr⟩
              | true =>
                refine wk2 rN rG ?_
                refine AGo_le ?_ (hS (i + 1) _ _ ⟨by omega, by omega, k0, kA, by rw [anyB_succ, hany]; unfold isPair; rw [hk1, hk2]; rfl⟩ (by omega))
                · simp only [subs_nil, subs_if, lk_if, lk_nil, dropR_nil, dropR_cons, Nat.reduceLT, List.cons_append, List.nil_append, List.elem_nil, List.elem_cons, Nat.reduceBEq, beq_self_eq_true, Bool.true_or, Bool.false_or, Bool.or_true, Bool.or_false, Bool.false_eq_true, ↓reduceIte, if_true, if_false, Nat.reduceEqDiff, and_self, and_true, true_and, eq_self]
          · have him : i = m := by omega
            subst him
            refine AGo_turn ?_
            refine wk1 @hlt ?_
            refine AGo_markL ?_ (hK i _ _ ⟨kA, hany⟩)
            · simp only [subs_nil, subs_if, lk_if, lk_nil, dropR_nil, dropR_cons, Nat.reduceLT, List.cons_append, List.nil_append, List.elem_nil, List.elem_cons, Nat.reduceBEq, beq_self_eq_true, Bool.true_or, Bool.false_or, Bool.or_true, Bool.or_false, Bool.false_eq_true, ↓reduceIte, if_true, if_false, Nat.reduceEqDiff, and_self, and_true, true_and, eq_self]
        rintro i H' n' ⟨kA, hany⟩
        simp only [List.cons_append, List.nil_append, dropR_nil, dropR_cons, Nat.reduceLT, ↓reduceIte]
        rw [hany]
        refine wk0 ?_
        exact ⟨rfl, agr⟩
end Go.Proofs.YtcjchcommaahdaaGreat
namespace Go.Proofs.YtcjchcommaahdaaGreat
open Go.Ab
def drawT : ByteArray := ⟨#[100, 114, 97, 119]⟩
def openT : ByteArray := ⟨#[111, 112, 101, 110]⟩
theorem drawT_lit : (⟨#[100, 114, 97, 119]⟩ : ByteArray) = drawT := rfl
theorem openT_lit : (⟨#[111, 112, 101, 110]⟩ : ByteArray) = openT := rfl
theorem drawT_size : drawT.size ≤ 1000 := by show 4 ≤ 1000; omega
theorem openT_size : openT.size ≤ 1000 := by show 4 ≤ 1000; omega
def lst (f : Nat → Nat) : List Nat := (List.range 32).map f
theorem lst_bs (f : Nat → Nat) : fk .u8 32 f = bs (lst f) := fk_bs 32 f
theorem lst_ok {f : Nat → Nat} (h : ∀ i, f i < 256) : ∀ c, c ∈ lst f → c < 256 := by
  intro c hc
  simp only [lst, List.mem_map] at hc
  obtain ⟨i, _, rfl⟩ := hc
  exact h i
/-- What is drawn, by a secret, for a hash. -/
def drawN (G : Grp) (x : U) (f : Nat → Nat) : Nat := numH G.q.val drawT [long x.val, lst f]
def drawU (G : Grp) (x : U) (f : Nat → Nat) : U := if drawN G x f = 0 then u1 else ur (drawN G x f)
theorem drawN_lt (G : Grp) (x : U) (f : Nat → Nat) : drawN G x f < BB := numH_lt G.q.isLt _ _
theorem drawU_zero {G : Grp} {x : U} {f : Nat → Nat} (h : drawN G x f = 0) : (drawU G x f).val = 1 := by rw [drawU, if_pos h]; rfl
theorem drawU_pos {G : Grp} {x : U} {f : Nat → Nat} (h : drawN G x f ≠ 0) : (drawU G x f).val = drawN G x f := by rw [drawU, if_neg h, ur_val (drawN_lt G x f)]
theorem drawN_def (G : Grp) (x : U) (f : Nat → Nat) : numH G.q.val drawT [long x.val, lst f] = drawN G x f := rfl
theorem hash_parts {n q : Nat} {H : Heap} {f : Nat → Nat} {e : TypeId} {fz : Nat × Nat} (hq : q < n) (h : H q = some (.cells (fk .u8 32 f) e fz)) : SrcA n H (.slice (some ⟨q, 0, none⟩) 32 32) (bs (lst f)) 1 := by
  rw [← lst_bs]
  exact SrcA.of_block hq h (by rw [fk_length]; omega) (by rw [List.drop_zero]; exact fk_take .u8 32 f) (fk_all _ _ _)
theorem capd_32 (a : Option Addr) (m : Nat) : Capd (.slice a m m) := by intro _ _ _ h; cases h; omega
theorem two_parts (x : U) (f : Nat → Nat) (hf : ∀ i, f i < 256) : ∀ p, p ∈ [long x.val, lst f] → p.length ≤ 100000 ∧ ∀ c, c ∈ p → c < 256 := by
  intro p hp
  simp only [List.mem_cons, List.not_mem_nil, or_false] at hp
  rcases hp with rfl | rfl
  · exact ⟨by rw [long_length]; omega, long_lt _⟩
  · exact ⟨by simp [lst], lst_ok hf⟩
attribute [local irreducible] fk bs numH long lst drawN
theorem op_draw (G : Grp) (x : U) (f : Nat → Nat) (hf : ∀ i, f i < 256) (H : Heap) (n : Nat) : ACall Tryz.prog 26 [GV G, N x.val, .agg ⟨fk .u8 32 f⟩] H n (Ret (N (drawU G x f).val) H n) := by
  refine acall_retF mix lw Tryz.func26 ok26 (fun _ _ => Tryz.call26 _ _) rfl ?_
  have hdl := drawN_lt G x f
  have bbp := BB_pos
  refine wk4 @c26.eq_1 rN rG @drawT_lit ?_
  refine AGo_makeB (nums_PutLong [] x.val _ _ _ (srcA_nil _ _) (by simp)) ?_
  intro v1 H1 n1 o1 hA1 hn1
  rw [List.nil_append] at o1
  have k2 : H1 (n + 2) = some (.cells (fk .u8 32 f) 64 (0, 0)) := by rw [hA1 _ (by omega), upd_ne _ _ (by omega), upd_ne _ _ (by omega), upd_same]
  have k3 : H1 (n + 3) = some (.cells [.int .u64 ((0 : Nat) : Int), .int .u64 ((0 : Nat) : Int), .int .u64 ((0 : Nat) : Int), .int .u64 ((0 : Nat) : Int)] 24 (0, 0)) := by rw [hA1 _ (by omega), upd_ne _ _ (by omega), upd_same]
  have k14 : H1 (n + 14) = some (.cells [.int .u64 ((0 : Nat) : Int), .int .u64 ((0 : Nat) : Int), .int .u64 ((0 : Nat) : Int), .int .u64 ((0 : Nat) : Int)] 24 (0, 0)) := by rw [hA1 _ (by omega), upd_same]
  have kA : Agree n H H1 := fun i hi => by rw [hA1 _ (by omega), upd_ne _ _ (by omega), upd_ne _ _ (by omega), upd_ne _ _ (by omega), upd_ne _ _ (by omega), upd_ne _ _ (by omega)]
  have o1' := o1
  obtain ⟨⟨b, kb, cap, rest, rfl, -⟩, -⟩ := o1
  clear hA1
  refine wk0 ?_
  generalize hK : upd H1 (n + 9) _ = K
  have j9 : K (n + 9) = some (.cells ([.slice (some ⟨b, 0, none⟩) kb cap, .slice (some ⟨n + 2, 0, none⟩) 32 32] ++ []) 66 (0, 0)) := by rw [← hK, upd_same, List.append_nil]
  have j3 : K (n + 3) = some (.cells [.int .u64 ((0 : Nat) : Int), .int .u64 ((0 : Nat) : Int), .int .u64 ((0 : Nat) : Int), .int .u64 ((0 : Nat) : Int)] 24 (0, 0)) := by rw [← hK, upd_ne _ _ (by omega)]; exact k3
  have j14 : K (n + 14) = some (.cells [.int .u64 ((0 : Nat) : Int), .int .u64 ((0 : Nat) : Int), .int .u64 ((0 : Nat) : Int), .int .u64 ((0 : Nat) : Int)] 24 (0, 0)) := by rw [← hK, upd_ne _ _ (by omega)]; exact k14
  have jA : Agree n H K := fun i hi => by rw [← hK, upd_ne _ _ (by omega)]; exact kA i hi
  have hpa : PartsA n1 K [.slice (some ⟨b, 0, none⟩) kb cap, .slice (some ⟨n + 2, 0, none⟩) 32 32] [long x.val, lst f] :=
    PartsA.cons ((o1'.keep (n' := n1) (fun j h1 h2 => by rw [← hK, upd_ne _ _ (by omega)]) (by omega)).srcA (bs_all _)) o1'.capd
      (PartsA.cons (hash_parts (e := 64) (fz := (0, 0)) (by omega) (by rw [← hK, upd_ne _ _ (by omega)]; exact k2)) (capd_32 _ _) (PartsA.nil _ _))
  clear hK k2 k3 k14 kA
  have hnum := h_Number G.q.val drawT [long x.val, lst f] _ [] (n + 9) 2 66 (0, 0) K n1 G.q.isLt drawT_size (by simp) (two_parts x f hf) hpa rfl (by omega) j9
  rw [drawN_def] at hnum
  refine AGo_askV (hnum) ?_
  refine wk3 rN rG @j14 ?_
  by_cases h0 : drawN G x f = 0
  · rw [h0, drawU_zero h0]
    refine wk4 rN rG @j14 @j3 ?_
    exact ⟨rfl, agr⟩
  · rw [drawU_pos h0]
    refine wk5 rN rG @h0 @j14 @j3 ?_
    exact ⟨rfl, agr⟩
theorem r15_Draw (G : Grp) (x : U) (f : Nat → Nat) (hf : ∀ i, f i < 256) (H : Heap) (n : Nat) : ACall Tryz.prog 37 [GV G, N x.val, .agg ⟨fk .u8 32 f⟩] H n (Ret (N (drawU G x f).val) H n) := by
  refine acall_retF mix lw Tryz.func37 ok37 (fun _ _ => Tryz.call37 _ _) rfl ?_
  have hdl := drawN_lt G x f
  have bbp := BB_pos
  refine wk4 @c37.eq_1 rN rG @drawT_lit ?_
  refine AGo_makeB (r1_PutLong [] x.val _ _ _ (srcA_nil _ _) (by simp)) ?_
  intro v1 H1 n1 o1 hA1 hn1
  rw [List.nil_append] at o1
  have k2 : H1 (n + 2) = some (.cells (fk .u8 32 f) 64 (0, 0)) := by rw [hA1 _ (by omega), upd_ne _ _ (by omega), upd_ne _ _ (by omega), upd_same]
  have k3 : H1 (n + 3) = some (.cells [.int .u64 ((0 : Nat) : Int), .int .u64 ((0 : Nat) : Int), .int .u64 ((0 : Nat) : Int), .int .u64 ((0 : Nat) : Int)] 24 (0, 0)) := by rw [hA1 _ (by omega), upd_ne _ _ (by omega), upd_same]
  have k14 : H1 (n + 14) = some (.cells [.int .u64 ((0 : Nat) : Int), .int .u64 ((0 : Nat) : Int), .int .u64 ((0 : Nat) : Int), .int .u64 ((0 : Nat) : Int)] 24 (0, 0)) := by rw [hA1 _ (by omega), upd_same]
  have kA : Agree n H H1 := fun i hi => by rw [hA1 _ (by omega), upd_ne _ _ (by omega), upd_ne _ _ (by omega), upd_ne _ _ (by omega), upd_ne _ _ (by omega), upd_ne _ _ (by omega)]
  have o1' := o1
  obtain ⟨⟨b, kb, cap, rest, rfl, -⟩, -⟩ := o1
  clear hA1
  refine wk0 ?_
  generalize hK : upd H1 (n + 9) _ = K
  have j9 : K (n + 9) = some (.cells ([.slice (some ⟨b, 0, none⟩) kb cap, .slice (some ⟨n + 2, 0, none⟩) 32 32] ++ []) 66 (0, 0)) := by rw [← hK, upd_same, List.append_nil]
  have j3 : K (n + 3) = some (.cells [.int .u64 ((0 : Nat) : Int), .int .u64 ((0 : Nat) : Int), .int .u64 ((0 : Nat) : Int), .int .u64 ((0 : Nat) : Int)] 24 (0, 0)) := by rw [← hK, upd_ne _ _ (by omega)]; exact k3
  have j14 : K (n + 14) = some (.cells [.int .u64 ((0 : Nat) : Int), .int .u64 ((0 : Nat) : Int), .int .u64 ((0 : Nat) : Int), .int .u64 ((0 : Nat) : Int)] 24 (0, 0)) := by rw [← hK, upd_ne _ _ (by omega)]; exact k14
  have jA : Agree n H K := fun i hi => by rw [← hK, upd_ne _ _ (by omega)]; exact kA i hi
  have hpa : PartsA n1 K [.slice (some ⟨b, 0, none⟩) kb cap, .slice (some ⟨n + 2, 0, none⟩) 32 32] [long x.val, lst f] :=
    PartsA.cons ((o1'.keep (n' := n1) (fun j h1 h2 => by rw [← hK, upd_ne _ _ (by omega)]) (by omega)).srcA (bs_all _)) o1'.capd
      (PartsA.cons (hash_parts (e := 64) (fz := (0, 0)) (by omega) (by rw [← hK, upd_ne _ _ (by omega)]; exact k2)) (capd_32 _ _) (PartsA.nil _ _))
  clear hK k2 k3 k14 kA
  have hnum := r6_Number G.q.val drawT [long x.val, lst f] _ [] (n + 9) 2 66 (0, 0) K n1 G.q.isLt drawT_size (by simp) (two_parts x f hf) hpa rfl (by omega) j9
  rw [drawN_def] at hnum
  refine AGo_askV (hnum) ?_
  refine wk3 rN rG @j14 ?_
  by_cases h0 : drawN G x f = 0
  · rw [h0, drawU_zero h0]
    refine wk4 rN rG @j14 @j3 ?_
    exact ⟨rfl, agr⟩
  · rw [drawU_pos h0]
    refine wk5 rN rG @h0 @j14 @j3 ?_
    exact ⟨rfl, agr⟩
end Go.Proofs.YtcjchcommaahdaaGreat
namespace Go.Proofs.YtcjchcommaahdaaGreat
open Go.Ab
def nodeB (m k : Nat) : Bool := decide (1 ≤ k) && decide (k ≤ m)
theorem op_node (G : Grp) (F S : Int) (k m cap : Nat) (sa : Option Addr) (H : Heap) (n : Nat) (hk : k < 256) : ACall Tryz.prog 17 [SV G F S (.slice sa m cap), .int .u8 (k : Nat)] H n (Ret (.bool (nodeB m k)) H n) := by
  refine acall_retF mix lw Tryz.func17 ok17 (fun _ _ => Tryz.call17 _ _) rfl ?_
  by_cases h : 1 ≤ k
  · refine wk4 @c17.eq_1 @vcells_SV @isTup_SV @h ?_
    exact ⟨by simp [nodeB, h], agr⟩
  · refine wk4 @c17.eq_1 @vcells_SV @isTup_SV @h ?_
    exact ⟨by simp [nodeB, h], agr⟩
theorem r15_Node (G : Grp) (F S : Int) (k m cap : Nat) (sa : Option Addr) (H : Heap) (n : Nat) (hk : k < 256) : ACall Tryz.prog 28 [SV G F S (.slice sa m cap), .int .u8 (k : Nat)] H n (Ret (.bool (nodeB m k)) H n) := by
  refine acall_retF mix lw Tryz.func28 ok28 (fun _ _ => Tryz.call28 _ _) rfl ?_
  by_cases h : 1 ≤ k
  · refine wk4 @c28.eq_1 @vcells_SV @isTup_SV @h ?_
    exact ⟨by simp [nodeB, h], agr⟩
  · refine wk4 @c28.eq_1 @vcells_SV @isTup_SV @h ?_
    exact ⟨by simp [nodeB, h], agr⟩
theorem op_of (e d : Nat) (hd : d < 256) (H : Heap) (n : Nat) : ACall Tryz.prog 38 [.int .u64 (e : Nat), .int .u8 (d : Nat)] H n (Ret (.agg #[.int .u64 (e : Nat), .int .u64 (d : Nat)]) H n) := by
  refine acall_retF mix lw Tryz.func38 ok38 (fun _ _ => Tryz.call38 _ _) rfl ?_
  have q1 : d % B = d := Nat.mod_eq_of_lt (by rw [B_eq]; omega)
  refine wk3 @c38.eq_1 @u64_wrap @q1 ?_
  exact ⟨rfl, agr⟩
/-- Whose share something is. -/
def about (e d k : Nat) : List Nat := bel 8 e ++ [d, k]
theorem bel1 {d : Nat} (h : d < 256) : bel 1 d = [d] := by simp [bel, List.range, List.range.loop, Nat.mod_eq_of_lt h]
theorem about_eq {e d k : Nat} (hd : d < 256) (hk : k < 256) : bel 8 e ++ bel 1 d ++ bel 1 k = about e d k := by rw [bel1 hd, bel1 hk]; simp [about]
theorem about_ok {e d k : Nat} (hd : d < 256) (hk : k < 256) : (about e d k).length ≤ 100000 ∧ ∀ c, c ∈ about e d k → c < 256 := by
  refine ⟨by simp [about, bel_length], fun c hc => ?_⟩
  simp only [about, List.mem_append, List.mem_cons, List.not_mem_nil, or_false] at hc
  rcases hc with hc | rfl | rfl
  · exact bel_lt _ _ _ hc
  · exact hd
  · exact hk
theorem r15_About (e d k : Nat) (H : Heap) (n : Nat) (he : e < B) (hd : d < 256) (hk : k < 256) : ACall Tryz.prog 34 [.int .u64 (e : Nat), .int .u8 (d : Nat), .int .u8 (k : Nat)] H n (Makes n H (bs (about e d k)) 5 1) := by
  refine acall_ofF mix Tryz.func34 ok34 (fun _ _ => Tryz.call34 _ _) rfl ?_
  have qd : d % B = d := Nat.mod_eq_of_lt (by rw [B_eq]; omega)
  have qk : k % B = k := Nat.mod_eq_of_lt (by rw [B_eq]; omega)
  refine wk3 @c34.eq_1 @u64_wrap @qd ?_
  refine AGo_makeB (r1_Put [] 8 e _ _ _ (srcA_nil _ _) (by omega) (by omega) he (by simp)) ?_
  intro v1 H1 n1 o1 hA1 hn1
  rw [List.nil_append] at o1
  refine wk2 @u64_wrap @qd ?_
  refine AGo_makeB (r1_Put (bel 8 e) 1 d _ _ _ ((o1.srcA (bs_all _)).later (fun _ _ => rfl) (by omega)) (by omega) (by omega) (by rw [B_eq]; omega) (by rw [bel_length]; omega)) ?_
  intro v2 H2 n2 o2 hA2 hn2
  refine wk2 @u64_wrap @qk ?_
  refine AGo_makeB (r1_Put _ 1 k _ _ _ ((o2.srcA (bs_all _)).later (fun _ _ => rfl) (by omega)) (by omega) (by omega) (by rw [B_eq]; omega) (by rw [List.length_append, bel_length, bel_length]; omega)) ?_
  intro v3 H3 n3 o3 hA3 hn3
  rw [about_eq hd hk] at o3
  refine wk0 ?_
  exact Makes.of_agree (o3.1.weaken (by omega)) (fun i hi => (hA3 i (by omega)).trans ((hA2 i (by omega)).trans (hA1 i (by omega))))
def secB (G : Grp) (x key : U) : Bool := isExp G x && decide ((grpExp G G.h x).1.val = key.val)
attribute [local irreducible] isExp grpExp modAdd
theorem isExp_def (G : Grp) (a : U) : decide ((modAdd a a G.q).2 = 0) = isExp G a := by unfold isExp; rfl
theorem op_secret (G : Grp) (x key : U) (H : Heap) (n : Nat) (hh : mayG G G.h = true) : ACall Tryz.prog 18 [GV G, N x.val, N key.val] H n (Ret (.bool (secB G x key)) H n) := by
  refine acall_retF mix lw Tryz.func18 ok18 (fun _ _ => Tryz.call18 _ _) rfl ?_
  have h1 := key.isLt
  have h2 := (grpExp G G.h x).1.isLt
  have he := isExp_def G x
  cases hx : isExp G x with
  | false =>
    rw [hx] at he
    refine wk3 @c18.eq_1 rN rG ?_
    refine AGo_askV (sc_Add G x x _ _) ?_
    refine wk4 rN rG @RV.eq_1 @he ?_
    refine AGo_askV (gr_Exp G G.h x _ _) ?_
    simp (disch := first | assumption | omega) only [N_fold, N_zero, N_one, GV_fold, vcells_GV, isTup_GV, RV, modExp_ok hh, he, W, sim, ↓reduceIte, Nat.reduceAdd, Nat.reduceSub, Nat.reduceMul, Nat.reduceLT, Nat.reduceLeDiff, Nat.reduceEqDiff, Nat.reduceBEq, Nat.reduceBNe, Nat.reduceMod, Nat.reduceDiv]
    exact ⟨by simp [secB, hx], agr⟩
  | true =>
    rw [hx] at he
    refine wk3 @c18.eq_1 rN rG ?_
    refine AGo_askV (sc_Add G x x _ _) ?_
    refine wk4 rN rG @RV.eq_1 @he ?_
    refine AGo_askV (gr_Exp G G.h x _ _) ?_
    simp (disch := first | assumption | omega) only [N_fold, N_zero, N_one, GV_fold, vcells_GV, isTup_GV, RV, modExp_ok hh, he, W, sim, ↓reduceIte, Nat.reduceAdd, Nat.reduceSub, Nat.reduceMul, Nat.reduceLT, Nat.reduceLeDiff, Nat.reduceEqDiff, Nat.reduceBEq, Nat.reduceBNe, Nat.reduceMod, Nat.reduceDiv]
    exact ⟨by simp [secB, hx], agr⟩
theorem r16_secret (G : Grp) (x key : U) (H : Heap) (n : Nat) (hh : mayG G G.h = true) : ACall Tryz.prog 29 [GV G, N x.val, N key.val] H n (Ret (.bool (secB G x key)) H n) := by
  refine acall_retF mix lw Tryz.func29 ok29 (fun _ _ => Tryz.call29 _ _) rfl ?_
  have h1 := key.isLt
  have h2 := (grpExp G G.h x).1.isLt
  have he := isExp_def G x
  cases hx : isExp G x with
  | false =>
    rw [hx] at he
    refine wk3 @c29.eq_1 rN rG ?_
    refine AGo_askV (r9_Add G x x _ _) ?_
    refine wk4 rN rG @RV.eq_1 @he ?_
    exact ⟨by simp [secB, hx], agr⟩
  | true =>
    rw [hx] at he
    refine wk3 @c29.eq_1 rN rG ?_
    refine AGo_askV (r9_Add G x x _ _) ?_
    refine wk4 rN rG @RV.eq_1 @he ?_
    refine AGo_askV (r8_Exp G G.h x _ _) ?_
    refine wk3 rN rG @RV.eq_1 ?_
    exact ⟨by simp [secB, hx], agr⟩
end Go.Proofs.YtcjchcommaahdaaGreat

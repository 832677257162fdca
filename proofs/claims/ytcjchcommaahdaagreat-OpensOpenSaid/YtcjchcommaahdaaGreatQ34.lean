/- Twins are left as they were. Twins of settings and dealings. What any node opens of any dealing: the law, walked. No conditions. -/
import Derived.Test.YtcjchcommaahdaaGreatQ12
import Derived.Test.YtcjchcommaahdaaGreatQ33
set_option maxRecDepth 20000
set_option maxHeartbeats 4000000
set_option linter.all false
namespace Go.Proofs.YtcjchcommaahdaaGreat
open Go.Ab
theorem flat_mark {c : Nat → List Value} {esz : Nat} (h : ∀ i, (c i).length = esz) (mark rest : List Value) (hm : mark.length = esz) (k : Nat) : ((flat c k ++ (mark ++ rest)).drop (k * esz)).take esz = mark ∧ k * esz + esz ≤ (flat c k ++ (mark ++ rest)).length := by
  constructor
  · rw [← flat_length h k, List.drop_left, ← hm, List.take_left]
  · rw [List.length_append, flat_length h, List.length_append]; omega
theorem lf_Nums (m nb : Nat) (a : Nat → U) (t v : Value) (H : Heap) (n : Nat) (ht : Twn nb n H t m 4 (fun i => vcells (N (a i).val)) mark4 24) (hv : NumsA n H v m a) (hm : m ≤ 100) : ACall Tryz.prog 42 [t, v] H n (Ret (.bool true) H n) := by
  refine acall_retF mix lw Tryz.func42 ok42 (fun _ _ => Tryz.call42 _ _) rfl ?_
  obtain ⟨bt, capt, rest, rfl, hbt, hbn, hcap, hm60, hT⟩ := ht
  obtain ⟨sa, cap, rfl, hmc, -, hv⟩ := hv
  have q1 : ¬ capt ≤ m := by omega
  have q2 : ¬ capt = 0 := by omega
  obtain ⟨mk1, mk2⟩ := flat_mark (c := fun i => vcells (N (a i).val)) (fun i => lenN _) mark4 rest rfl m
  have hd : ∀ i, i < m → (((flat (fun i => vcells (N (a i).val)) m ++ (mark4 ++ rest)).drop (i * 4)).take 4) = vcells (N (a i).val) ∧ i * 4 + 4 ≤ (flat (fun i => vcells (N (a i).val)) m ++ (mark4 ++ rest)).length := fun i hi => ⟨flat_get (c := fun i => vcells (N (a i).val)) (fun i => lenN _) (mark4 ++ rest) m i hi, by omega⟩
  generalize flat (fun i => vcells (N (a i).val)) m ++ (mark4 ++ rest) = CT at hT mk1 mk2 hd
  rw [mark4_eq] at mk1
  refine wk2 @c42.eq_1 @q1 ?_
  refine AGo_cycleD (α := Nat) 19 46 (fun i => [(5, .int .i64 (i : Nat))]) (fun i H' n' => i ≤ m ∧ n ≤ n' ∧ H' = H) (fun i H' n' => n ≤ n' ∧ H' = H) (fun i => m - i) (0) ?_ (by simp only [subs_nil, subs_if, lk_if, lk_nil, dropR_nil, dropR_cons, Nat.reduceLT, List.cons_append, List.nil_append, List.elem_nil, List.elem_cons, Nat.reduceBEq, beq_self_eq_true, Bool.true_or, Bool.false_or, Bool.or_true, Bool.or_false, Bool.false_eq_true, ↓reduceIte, if_true, if_false, Nat.reduceEqDiff, and_self, and_true, true_and, eq_self]) ?_ ?_
  · exact ⟨Nat.zero_le _, by omega, rfl⟩
  · rintro i H' n' kk ⟨hi, hn, rfl⟩ hK hS
    simp only [List.cons_append, List.nil_append, dropR_nil, dropR_cons, Nat.reduceLT, ↓reduceIte]
    by_cases hlt : i < m
    · rcases hv with h | ⟨b, off, cs, e, fz, rfl, hb, hB, hcs⟩
      · omega
      obtain ⟨c1, c2⟩ := hcs i hlt
      obtain ⟨d2, d1⟩ := hd i hlt
      have hai := (a i).isLt
      refine AGo_turn ?_
      simp (disch := first | assumption | omega) only [N_fold, N_zero, N_one, GV_fold, vcells_GV, isTup_GV, ite_lt, ite_le, hlt, hB, hT, c1, c2, d1, d2, agg_vN, eqvS_N, decide_true, eq_self, W, sim, ↓reduceIte, Nat.reduceAdd, Nat.reduceSub, Nat.reduceMul, Nat.reduceLT, Nat.reduceLeDiff, Nat.reduceEqDiff, Nat.reduceBEq, Nat.reduceBNe, Nat.reduceMod, Nat.reduceDiv]
      refine AGo_le ?_ (hS (i + 1) _ _ ⟨by omega, by omega, rfl⟩ (by omega))
      · simp only [subs_nil, subs_if, lk_if, lk_nil, dropR_nil, dropR_cons, Nat.reduceLT, List.cons_append, List.nil_append, List.elem_nil, List.elem_cons, Nat.reduceBEq, beq_self_eq_true, Bool.true_or, Bool.false_or, Bool.or_true, Bool.or_false, Bool.false_eq_true, ↓reduceIte, if_true, if_false, Nat.reduceEqDiff, and_self, and_true, true_and, eq_self]
    · have him : i = m := by omega
      subst him
      refine AGo_turn ?_
      refine wk1 @hlt ?_
      refine AGo_markL ?_ (hK i _ _ ⟨by omega, rfl⟩)
      · simp only [subs_nil, subs_if, lk_if, lk_nil, dropR_nil, dropR_cons, Nat.reduceLT, List.cons_append, List.nil_append, List.elem_nil, List.elem_cons, Nat.reduceBEq, beq_self_eq_true, Bool.true_or, Bool.false_or, Bool.or_true, Bool.or_false, Bool.false_eq_true, ↓reduceIte, if_true, if_false, Nat.reduceEqDiff, and_self, and_true, true_and, eq_self]
  rintro i H' n' ⟨hn, rfl⟩
  simp only [List.cons_append, List.nil_append, dropR_nil, dropR_cons, Nat.reduceLT, ↓reduceIte]
  refine wk10 rI @hcap @q2 @ite_addr @hT @mk1 @mk2 @Nat.sub_zero @eqvS_agg @eqI_rfl ?_
  exact ⟨rfl, agr⟩
theorem lf_Keys (m nb : Nat) (a : Nat → U × U) (t v : Value) (H : Heap) (n : Nat) (ht : Twn nb n H t m 8 (fun i => vcells (PV (a i).1 (a i).2)) mark8 58) (hv : KeysA n H v m a) (hm : m ≤ 100) : ACall Tryz.prog 41 [t, v] H n (Ret (.bool true) H n) := by
  refine acall_retF mix lw Tryz.func41 ok41 (fun _ _ => Tryz.call41 _ _) rfl ?_
  obtain ⟨bt, capt, rest, rfl, hbt, hbn, hcap, hm60, hT⟩ := ht
  obtain ⟨sa, cap, rfl, hmc, -, hv⟩ := hv
  have q1 : ¬ capt ≤ m := by omega
  have q2 : ¬ capt = 0 := by omega
  obtain ⟨mk1, mk2⟩ := flat_mark (c := fun i => vcells (PV (a i).1 (a i).2)) (fun i => lenPV _ _) mark8 rest rfl m
  have hd : ∀ i, i < m → (((flat (fun i => vcells (PV (a i).1 (a i).2)) m ++ (mark8 ++ rest)).drop (i * 8)).take 8) = vcells (PV (a i).1 (a i).2) ∧ i * 8 + 8 ≤ (flat (fun i => vcells (PV (a i).1 (a i).2)) m ++ (mark8 ++ rest)).length := fun i hi => ⟨flat_get (c := fun i => vcells (PV (a i).1 (a i).2)) (fun i => lenPV _ _) (mark8 ++ rest) m i hi, by omega⟩
  generalize flat (fun i => vcells (PV (a i).1 (a i).2)) m ++ (mark8 ++ rest) = CT at hT mk1 mk2 hd
  rw [mark8_eq] at mk1
  refine wk2 @c41.eq_1 @q1 ?_
  refine AGo_cycleD (α := Nat) 19 47 (fun i => [(5, .int .i64 (i : Nat))]) (fun i H' n' => i ≤ m ∧ n ≤ n' ∧ H' = H) (fun i H' n' => n ≤ n' ∧ H' = H) (fun i => m - i) (0) ?_ (by simp only [subs_nil, subs_if, lk_if, lk_nil, dropR_nil, dropR_cons, Nat.reduceLT, List.cons_append, List.nil_append, List.elem_nil, List.elem_cons, Nat.reduceBEq, beq_self_eq_true, Bool.true_or, Bool.false_or, Bool.or_true, Bool.or_false, Bool.false_eq_true, ↓reduceIte, if_true, if_false, Nat.reduceEqDiff, and_self, and_true, true_and, eq_self]) ?_ ?_
  · exact ⟨Nat.zero_le _, by omega, rfl⟩
  · rintro i H' n' kk ⟨hi, hn, rfl⟩ hK hS
    simp only [List.cons_append, List.nil_append, dropR_nil, dropR_cons, Nat.reduceLT, ↓reduceIte]
    by_cases hlt : i < m
    · rcases hv with h | ⟨b, off, cs, e, fz, rfl, hb, hB, hcs⟩
      · omega
      obtain ⟨c1, c2⟩ := hcs i hlt
      obtain ⟨d2, d1⟩ := hd i hlt
      skip
      refine AGo_turn ?_
      refine wk12 rI @hlt @hB @hT @c1 @c2 @d1 @d2 @vcells_PV @eqvS_agg @eqI_rfl @decide_true ?_
      refine AGo_le ?_ (hS (i + 1) _ _ ⟨by omega, by omega, rfl⟩ (by omega))
      · simp only [subs_nil, subs_if, lk_if, lk_nil, dropR_nil, dropR_cons, Nat.reduceLT, List.cons_append, List.nil_append, List.elem_nil, List.elem_cons, Nat.reduceBEq, beq_self_eq_true, Bool.true_or, Bool.false_or, Bool.or_true, Bool.or_false, Bool.false_eq_true, ↓reduceIte, if_true, if_false, Nat.reduceEqDiff, and_self, and_true, true_and, eq_self]
    · have him : i = m := by omega
      subst him
      refine AGo_turn ?_
      refine wk1 @hlt ?_
      refine AGo_markL ?_ (hK i _ _ ⟨by omega, rfl⟩)
      · simp only [subs_nil, subs_if, lk_if, lk_nil, dropR_nil, dropR_cons, Nat.reduceLT, List.cons_append, List.nil_append, List.elem_nil, List.elem_cons, Nat.reduceBEq, beq_self_eq_true, Bool.true_or, Bool.false_or, Bool.or_true, Bool.or_false, Bool.false_eq_true, ↓reduceIte, if_true, if_false, Nat.reduceEqDiff, and_self, and_true, true_and, eq_self]
  rintro i H' n' ⟨hn, rfl⟩
  simp only [List.cons_append, List.nil_append, dropR_nil, dropR_cons, Nat.reduceLT, ↓reduceIte]
  refine wk10 rI @hcap @q2 @ite_addr @hT @mk1 @mk2 @Nat.sub_zero @eqvS_agg @eqI_rfl ?_
  exact ⟨rfl, agr⟩
theorem lf_Proofs (m nb : Nat) (a : Nat → U × U) (t v : Value) (H : Heap) (n : Nat) (ht : Twn nb n H t m 8 (fun i => vcells (PV (a i).1 (a i).2)) mark8 42) (hv : KeysA n H v m a) (hm : m ≤ 100) : ACall Tryz.prog 43 [t, v] H n (Ret (.bool true) H n) := by
  refine acall_retF mix lw Tryz.func43 ok43 (fun _ _ => Tryz.call43 _ _) rfl ?_
  obtain ⟨bt, capt, rest, rfl, hbt, hbn, hcap, hm60, hT⟩ := ht
  obtain ⟨sa, cap, rfl, hmc, -, hv⟩ := hv
  have q1 : ¬ capt ≤ m := by omega
  have q2 : ¬ capt = 0 := by omega
  obtain ⟨mk1, mk2⟩ := flat_mark (c := fun i => vcells (PV (a i).1 (a i).2)) (fun i => lenPV _ _) mark8 rest rfl m
  have hd : ∀ i, i < m → (((flat (fun i => vcells (PV (a i).1 (a i).2)) m ++ (mark8 ++ rest)).drop (i * 8)).take 8) = vcells (PV (a i).1 (a i).2) ∧ i * 8 + 8 ≤ (flat (fun i => vcells (PV (a i).1 (a i).2)) m ++ (mark8 ++ rest)).length := fun i hi => ⟨flat_get (c := fun i => vcells (PV (a i).1 (a i).2)) (fun i => lenPV _ _) (mark8 ++ rest) m i hi, by omega⟩
  generalize flat (fun i => vcells (PV (a i).1 (a i).2)) m ++ (mark8 ++ rest) = CT at hT mk1 mk2 hd
  rw [mark8_eq] at mk1
  refine wk2 @c43.eq_1 @q1 ?_
  refine AGo_cycleD (α := Nat) 19 47 (fun i => [(5, .int .i64 (i : Nat))]) (fun i H' n' => i ≤ m ∧ n ≤ n' ∧ H' = H) (fun i H' n' => n ≤ n' ∧ H' = H) (fun i => m - i) (0) ?_ (by simp only [subs_nil, subs_if, lk_if, lk_nil, dropR_nil, dropR_cons, Nat.reduceLT, List.cons_append, List.nil_append, List.elem_nil, List.elem_cons, Nat.reduceBEq, beq_self_eq_true, Bool.true_or, Bool.false_or, Bool.or_true, Bool.or_false, Bool.false_eq_true, ↓reduceIte, if_true, if_false, Nat.reduceEqDiff, and_self, and_true, true_and, eq_self]) ?_ ?_
  · exact ⟨Nat.zero_le _, by omega, rfl⟩
  · rintro i H' n' kk ⟨hi, hn, rfl⟩ hK hS
    simp only [List.cons_append, List.nil_append, dropR_nil, dropR_cons, Nat.reduceLT, ↓reduceIte]
    by_cases hlt : i < m
    · rcases hv with h | ⟨b, off, cs, e, fz, rfl, hb, hB, hcs⟩
      · omega
      obtain ⟨c1, c2⟩ := hcs i hlt
      obtain ⟨d2, d1⟩ := hd i hlt
      skip
      refine AGo_turn ?_
      refine wk12 rI @hlt @hB @hT @c1 @c2 @d1 @d2 @vcells_PV @eqvS_agg @eqI_rfl @decide_true ?_
      refine AGo_le ?_ (hS (i + 1) _ _ ⟨by omega, by omega, rfl⟩ (by omega))
      · simp only [subs_nil, subs_if, lk_if, lk_nil, dropR_nil, dropR_cons, Nat.reduceLT, List.cons_append, List.nil_append, List.elem_nil, List.elem_cons, Nat.reduceBEq, beq_self_eq_true, Bool.true_or, Bool.false_or, Bool.or_true, Bool.or_false, Bool.false_eq_true, ↓reduceIte, if_true, if_false, Nat.reduceEqDiff, and_self, and_true, true_and, eq_self]
    · have him : i = m := by omega
      subst him
      refine AGo_turn ?_
      refine wk1 @hlt ?_
      refine AGo_markL ?_ (hK i _ _ ⟨by omega, rfl⟩)
      · simp only [subs_nil, subs_if, lk_if, lk_nil, dropR_nil, dropR_cons, Nat.reduceLT, List.cons_append, List.nil_append, List.elem_nil, List.elem_cons, Nat.reduceBEq, beq_self_eq_true, Bool.true_or, Bool.false_or, Bool.or_true, Bool.or_false, Bool.false_eq_true, ↓reduceIte, if_true, if_false, Nat.reduceEqDiff, and_self, and_true, true_and, eq_self]
  rintro i H' n' ⟨hn, rfl⟩
  simp only [List.cons_append, List.nil_append, dropR_nil, dropR_cons, Nat.reduceLT, ↓reduceIte]
  refine wk10 rI @hcap @q2 @ite_addr @hT @mk1 @mk2 @Nat.sub_zero @eqvS_agg @eqI_rfl ?_
  exact ⟨rfl, agr⟩
end Go.Proofs.YtcjchcommaahdaaGreat
namespace Go.Proofs.YtcjchcommaahdaaGreat
open Go.Ab
abbrev keyC (ks : Nat → U × U) : Nat → List Value := fun i => vcells (PV (ks i).1 (ks i).2)
abbrev numC (a : Nat → U) : Nat → List Value := fun i => vcells (N (a i).val)
def TwinS (G : Grp) (F S : Int) (m : Nat) (ks : Nat → U × U) (n : Nat) (H : Heap) : Post := fun r H' n' => ∃ v, r = .returned (SV G F S v) ∧ Twn n n' H' v m 8 (keyC ks) mark8 58 ∧ Agree n H H'
def TwinD (e d mv my mp : Nat) (vs ys : Nat → U) (ps : Nat → U × U) (C S : U) (n : Nat) (H : Heap) : Post := fun r H' n' => ∃ vv yv pv, r = .returned (DV e d vv yv pv C S) ∧ Twn n n' H' vv mv 4 (numC vs) mark4 24 ∧ Twn n n' H' yv my 4 (numC ys) mark4 24 ∧ Twn n n' H' pv mp 8 (keyC ps) mark8 42 ∧ Agree n H H'
theorem Twn.form {nb n : Nat} {H : Heap} {v : Value} {m esz : Nat} {c : Nat → List Value} {mark : List Value} {e : TypeId} (h : Twn nb n H v m esz c mark e) : ∃ b cap, v = .slice (some ⟨b, 0, none⟩) m cap ∧ nb ≤ b ∧ b < n := by
  obtain ⟨b, cap, _, h1, h2, h3, _⟩ := h
  exact ⟨b, cap, h1, h2, h3⟩
theorem Twn.lt {nb n : Nat} {H : Heap} {v : Value} {m esz : Nat} {c : Nat → List Value} {mark : List Value} {e : TypeId} (h : Twn nb n H v m esz c mark e) {b k cp : Nat} (hv : v = .slice (some ⟨b, 0, none⟩) k cp) : nb ≤ b ∧ b < n := by
  obtain ⟨b', cap, _, h1, h2, h3, _⟩ := h
  rw [h1] at hv; cases hv; exact ⟨h2, h3⟩
theorem Twn.keep2 {nb n n' : Nat} {H H' : Heap} {v : Value} {m esz : Nat} {c : Nat → List Value} {mark : List Value} {e : TypeId} (h : Twn nb n H v m esz c mark e) (hA : ∀ b k c, v = .slice (some ⟨b, 0, none⟩) k c → H' b = H b) (hn : n ≤ n') : Twn nb n' H' v m esz c mark e := by
  obtain ⟨b, cap, rest, h1, h2, h3, h4, h5, h6⟩ := h
  exact ⟨b, cap, rest, h1, h2, by omega, h4, h5, (hA b _ _ h1).trans h6⟩
theorem tw_Setting (G : Grp) (F S : Int) (m : Nat) (ks : Nat → U × U) (v : Value) (H : Heap) (n : Nat) (hv : KeysA n H v m ks) (hm : m ≤ 100) : ACall Tryz.prog 5 [SV G F S v] H n (TwinS G F S m ks n H) := by
  refine acall_ofF mix Tryz.func5 ok5 (fun _ _ => Tryz.call5 _ _) rfl ?_
  have hv' := hv
  obtain ⟨sa, cap, rfl, hmc, hm60, -⟩ := hv
  refine wk6 @c5.eq_1 rN rG rS rD rP ?_
  refine AGo_twinV (tw_Keys m ks _ _ _ (hv'.later (agr) (by omega)) hm) ?_
  intro v1 H1 n1 o1 hA1 hn1
  have k1 : H1 (n + 1) = some (.cells [.int .u64 ((0 : Nat) : Int), .int .u64 ((0 : Nat) : Int), .int .u64 ((0 : Nat) : Int), .int .u64 ((0 : Nat) : Int), .int .u64 ((0 : Nat) : Int), .int .u64 ((0 : Nat) : Int), .int .u64 ((0 : Nat) : Int), .int .u64 ((0 : Nat) : Int), .int .u64 ((0 : Nat) : Int), .int .u64 ((0 : Nat) : Int), .int .u64 ((0 : Nat) : Int), .int .u64 ((0 : Nat) : Int), .int .u64 ((0 : Nat) : Int), .int .u64 ((0 : Nat) : Int), .int .u64 ((0 : Nat) : Int), .int .u64 ((0 : Nat) : Int), .int .i64 ((0 : Nat) : Int), .int .i64 ((0 : Nat) : Int), .slice none 0 0] 29 (0, 0)) := by
    rw [hA1 _ (by omega)]
    simp (disch := first | assumption | omega) only [upd_same, upd_neq, vcells_N, w_zero]
  have kA : Agree n H H1 := fun i hi => by rw [hA1 _ (by omega), upd_ne _ _ (by omega), upd_ne _ _ (by omega)]
  have o1' := o1
  obtain ⟨b, cp, rfl, hb1, hb2⟩ := o1.form
  refine wk6 rN rG rS rD rP @k1 ?_
  refine ⟨_, rfl, (o1'.weaken (by omega)).keep2 (fun b' k' c' e => ?_) (by omega), fun j hj => ?_⟩
  · cases e; rw [upd_ne _ _ (by omega)]
  · rw [upd_ne _ _ (by omega)]; exact kA j hj
theorem tw_Dealing (e d mv my mp : Nat) (vs ys : Nat → U) (ps : Nat → U × U) (vv yv pv : Value) (C S : U) (H : Heap) (n : Nat) (hv : NumsA n H vv mv vs) (hy : NumsA n H yv my ys) (hp : KeysA n H pv mp ps) (hmv : mv ≤ 100) (hmy : my ≤ 100) (hmp : mp ≤ 100) : ACall Tryz.prog 6 [DV e d vv yv pv C S] H n (TwinD e d mv my mp vs ys ps C S n H) := by
  refine acall_ofF mix Tryz.func6 ok6 (fun _ _ => Tryz.call6 _ _) rfl ?_
  have hv' := hv
  have hy' := hy
  have hp' := hp
  obtain ⟨s1, c1, rfl, -, -, -⟩ := hv
  obtain ⟨s2, c2, rfl, -, -, -⟩ := hy
  obtain ⟨s3, c3, rfl, -, -, -⟩ := hp
  refine wk6 @c6.eq_1 rN rG rS rD rP ?_
  refine AGo_twinV (tw_Nums mv vs _ _ _ (hv'.later (agr) (by omega)) hmv) ?_
  intro v1 H1 n1 o1 hA1 hn1
  have k1 : H1 (n + 1) = some (.cells [.int .u64 ((0 : Nat) : Int), .int .u8 ((0 : Nat) : Int), .slice none 0 0, .slice none 0 0, .slice none 0 0, .int .u64 ((0 : Nat) : Int), .int .u64 ((0 : Nat) : Int), .int .u64 ((0 : Nat) : Int), .int .u64 ((0 : Nat) : Int), .int .u64 ((0 : Nat) : Int), .int .u64 ((0 : Nat) : Int), .int .u64 ((0 : Nat) : Int), .int .u64 ((0 : Nat) : Int)] 35 (0, 0)) := by
    rw [hA1 _ (by omega)]
    simp (disch := first | assumption | omega) only [upd_same, upd_neq, vcells_N, w_zero]
  have kA : Agree n H H1 := fun i hi => by rw [hA1 _ (by omega), upd_ne _ _ (by omega), upd_ne _ _ (by omega)]
  refine wk5 rN rG rS rD rP ?_
  refine AGo_twinV (tw_Nums my ys _ _ _ (hy'.later kA (by omega)) hmy) ?_
  intro v2 H2 n2 o2 hA2 hn2
  refine wk5 rN rG rS rD rP ?_
  refine AGo_twinV (tw_Proofs mp ps _ _ _ (hp'.later (fun i hi => (hA2 i (by omega)).trans (kA i hi)) (by omega)) hmp) ?_
  intro v3 H3 n3 o3 hA3 hn3
  replace k1 := (hA3 _ (by omega)).trans ((hA2 _ (by omega)).trans k1)
  replace kA : Agree n H H3 := fun i hi => (hA3 _ (by omega)).trans ((hA2 _ (by omega)).trans (kA i hi))
  have p1 := (o1.weaken (nb' := n) (by omega)).keep2 (n' := n3) (H' := H3) (fun b' k' c' e => by have := o1.lt e; rw [hA3 _ (by omega), hA2 _ (by omega)]) (by omega)
  have p2 := (o2.weaken (nb' := n) (by omega)).keep2 (n' := n3) (H' := H3) (fun b' k' c' e => by have := o2.lt e; rw [hA3 _ (by omega)]) (by omega)
  obtain ⟨b1, cp1, rfl, hb1, hb1'⟩ := o1.form
  obtain ⟨b2, cp2, rfl, hb2, hb2'⟩ := o2.form
  obtain ⟨b3, cp3, rfl, hb3, hb3'⟩ := o3.form
  refine wk6 rN rG rS rD rP @k1 ?_
  refine ⟨_, _, _, rfl, p1.keep2 (fun b' k' c' e => ?_) (by omega), p2.keep2 (fun b' k' c' e => ?_) (by omega), (o3.weaken (by omega)).keep2 (fun b' k' c' e => ?_) (by omega), fun j hj => ?_⟩
  · cases e; rw [upd_ne _ _ (by omega)]
  · cases e; rw [upd_ne _ _ (by omega)]
  · cases e; rw [upd_ne _ _ (by omega)]
  · rw [upd_ne _ _ (by omega)]; exact kA j hj
theorem eql_self (k : IntKind) (a : Int) : binInt .eql k a k a = some (.bool true) := by simp only [binInt, if_pos]; congr 2; simp
theorem eqvS_GV (G : Grp) : eqvS false [0, 0, 0, 0, 0, 0, 0, 0, 0, 0, 0, 0, 0, 0, 0, 0] (GV G) (GV G) = some (.bool true, none) := by
  simp [eqvS, GV, cellsEq, cellEq]
theorem eqvS_PV (c s : U) : eqvS false [0, 0, 0, 0, 0, 0, 0, 0] (PV c s) (PV c s) = some (.bool true, none) := by
  simp [eqvS, PV, cellsEq, cellEq]
theorem lf_Setting (G : Grp) (F S : Int) (m nb : Nat) (ks : Nat → U × U) (t v : Value) (H : Heap) (n : Nat) (ht : Twn nb n H t m 8 (keyC ks) mark8 58) (hv : KeysA n H v m ks) (hm : m ≤ 100) : ACall Tryz.prog 11 [SV G F S t, SV G F S v] H n (Ret (.bool true) H n) := by
  refine acall_retF mix lw Tryz.func11 ok11 (fun _ _ => Tryz.call11 _ _) rfl ?_
  have hv' := hv
  have ht' := ht
  obtain ⟨sa, cap, rfl, hmc, hm60, -⟩ := hv
  obtain ⟨b, cp, rfl, hb1, hb2⟩ := ht.form
  refine wk8 @c11.eq_1 rN rG rS rD rP @eqvS_GV @eql_self ?_
  refine AGo_askV (lf_Keys m nb ks _ _ _ _ (ht'.keep2 (fun b' k' c' e => by cases e; simp (disch := omega) only [upd_neq]) (by omega)) (hv'.later (agr) (by omega)) hm) ?_
  refine wk0 ?_
  exact ⟨rfl, agr⟩
theorem lf_Dealing (e d mv my mp nb : Nat) (vs ys : Nat → U) (ps : Nat → U × U) (tv ty tp vv yv pv : Value) (C S : U) (H : Heap) (n : Nat) (h1 : Twn nb n H tv mv 4 (numC vs) mark4 24) (h2 : Twn nb n H ty my 4 (numC ys) mark4 24) (h3 : Twn nb n H tp mp 8 (keyC ps) mark8 42) (hv : NumsA n H vv mv vs) (hy : NumsA n H yv my ys) (hp : KeysA n H pv mp ps) (hmv : mv ≤ 100) (hmy : my ≤ 100) (hmp : mp ≤ 100) : ACall Tryz.prog 12 [DV e d tv ty tp C S, DV e d vv yv pv C S] H n (Ret (.bool true) H n) := by
  refine acall_retF mix lw Tryz.func12 ok12 (fun _ _ => Tryz.call12 _ _) rfl ?_
  have hv' := hv
  have hy' := hy
  have hp' := hp
  obtain ⟨s1, c1, rfl, -, -, -⟩ := hv
  obtain ⟨s2, c2, rfl, -, -, -⟩ := hy
  obtain ⟨s3, c3, rfl, -, -, -⟩ := hp
  have q1 := h1
  have q2 := h2
  have q3 := h3
  obtain ⟨b1, cp1, rfl, hb1, hb1'⟩ := h1.form
  obtain ⟨b2, cp2, rfl, hb2, hb2'⟩ := h2.form
  obtain ⟨b3, cp3, rfl, hb3, hb3'⟩ := h3.form
  refine wk7 @c12.eq_1 rN rG rS rD rP @eql_self ?_
  refine AGo_askV (lf_Nums mv nb vs _ _ _ _ (q1.keep2 (fun b' k' c' e => by cases e; simp (disch := omega) only [upd_neq]) (by omega)) (hv'.later (agr) (by omega)) hmv) ?_
  refine wk6 rN rG rS rD rP @eql_self ?_
  refine AGo_askV (lf_Nums my nb ys _ _ _ _ (q2.keep2 (fun b' k' c' e => by cases e; simp (disch := omega) only [upd_neq]) (by omega)) (hy'.later (agr) (by omega)) hmy) ?_
  refine wk6 rN rG rS rD rP @eql_self ?_
  refine AGo_askV (lf_Proofs mp nb ps _ _ _ _ (q3.keep2 (fun b' k' c' e => by cases e; simp (disch := omega) only [upd_neq]) (by omega)) (hp'.later (agr) (by omega)) hmp) ?_
  refine wk7 rN rG rS rD rP @eql_self @eqvS_PV ?_
  exact ⟨rfl, agr⟩
end Go.Proofs.YtcjchcommaahdaaGreat
namespace Go.Proofs.YtcjchcommaahdaaGreat
open Go.Ab
/-- What is given: a dealing, a node, its secret, shares, a polynomial. -/
def GVN (e d : Nat) (vv yv pv : Value) (C S : U) (k : Nat) (x : U) (lv qv : Value) : Value := .agg #[.int .u64 (e : Nat), .int .u8 (d : Nat), vv, yv, pv, .int .u64 (w0 C.val : Nat), .int .u64 (w1 C.val : Nat), .int .u64 (w2 C.val : Nat), .int .u64 (w3 C.val : Nat), .int .u64 (w0 S.val : Nat), .int .u64 (w1 S.val : Nat), .int .u64 (w2 S.val : Nat), .int .u64 (w3 S.val : Nat), .int .u8 (k : Nat), .int .u64 (w0 x.val : Nat), .int .u64 (w1 x.val : Nat), .int .u64 (w2 x.val : Nat), .int .u64 (w3 x.val : Nat), lv, qv]
theorem GVN_fold (e d : Nat) (vv yv pv : Value) (C S : U) (k : Nat) (x : U) (lv qv : Value) : Value.agg #[.int .u64 (e : Nat), .int .u8 (d : Nat), vv, yv, pv, .int .u64 (w0 C.val : Nat), .int .u64 (w1 C.val : Nat), .int .u64 (w2 C.val : Nat), .int .u64 (w3 C.val : Nat), .int .u64 (w0 S.val : Nat), .int .u64 (w1 S.val : Nat), .int .u64 (w2 S.val : Nat), .int .u64 (w3 S.val : Nat), .int .u8 (k : Nat), .int .u64 (w0 x.val : Nat), .int .u64 (w1 x.val : Nat), .int .u64 (w2 x.val : Nat), .int .u64 (w3 x.val : Nat), lv, qv] = GVN e d vv yv pv C S k x lv qv := rfl
theorem vcells_GVN (e d : Nat) (vv yv pv : Value) (C S : U) (k : Nat) (x : U) (lv qv : Value) : vcells (GVN e d vv yv pv C S k x lv qv) = [.int .u64 (e : Nat), .int .u8 (d : Nat), vv, yv, pv, .int .u64 (w0 C.val : Nat), .int .u64 (w1 C.val : Nat), .int .u64 (w2 C.val : Nat), .int .u64 (w3 C.val : Nat), .int .u64 (w0 S.val : Nat), .int .u64 (w1 S.val : Nat), .int .u64 (w2 S.val : Nat), .int .u64 (w3 S.val : Nat), .int .u8 (k : Nat), .int .u64 (w0 x.val : Nat), .int .u64 (w1 x.val : Nat), .int .u64 (w2 x.val : Nat), .int .u64 (w3 x.val : Nat), lv, qv] := rfl
theorem isTup_GVN (e d : Nat) (vv yv pv : Value) (C S : U) (k : Nat) (x : U) (lv qv : Value) : isTup (GVN e d vv yv pv C S k x lv qv) = false := rfl
theorem rV : type_of% (And.intro @vcells_GVN @isTup_GVN) := (And.intro @vcells_GVN @isTup_GVN)
def greatB (m mv my mp ml mq : Nat) : Bool := decide (100 < m) || (decide (100 < mv) || (decide (100 < my) || (decide (100 < mp) || (decide (100 < ml) || decide (100 < mq)))))
theorem law_great (G : Grp) (F S : Int) (e d k m mv my mp ml mq cp0 cp1 cp2 cp3 cp4 cp5 : Nat) (x C Sg : U) (a0 a1 a2 a3 a4 a5 : Option Addr) (H : Heap) (n : Nat) : ACall Tryz.prog 4 [SV G F S (.slice a0 m cp0), GVN e d (.slice a1 mv cp1) (.slice a2 my cp2) (.slice a3 mp cp3) C Sg k x (.slice a4 ml cp4) (.slice a5 mq cp5)] H n (Ret (.bool (greatB m mv my mp ml mq)) H n) := by
  refine acall_retF mix lw Tryz.func4 ok4 (fun _ _ => Tryz.call4 _ _) rfl ?_
  by_cases h1 : 100 < m
  · refine wk8 @c4.eq_1 rN rG rS rD rP rV @h1 ?_
    exact ⟨by simp [greatB, h1], agr⟩
  by_cases h2 : 100 < mv
  · refine wk9 @c4.eq_1 rN rG rS rD rP rV @h1 @h2 ?_
    exact ⟨by simp [greatB, h2], agr⟩
  by_cases h3 : 100 < my
  · refine wk10 @c4.eq_1 rN rG rS rD rP rV @h1 @h2 @h3 ?_
    exact ⟨by simp [greatB, h3], agr⟩
  by_cases h4 : 100 < mp
  · refine wk11 @c4.eq_1 rN rG rS rD rP rV @h1 @h2 @h3 @h4 ?_
    exact ⟨by simp [greatB, h4], agr⟩
  by_cases h5 : 100 < ml
  · refine wk12 @c4.eq_1 rN rG rS rD rP rV @h1 @h2 @h3 @h4 @h5 ?_
    exact ⟨by simp [greatB, h5], agr⟩
  · refine wk12 @c4.eq_1 rN rG rS rD rP rV @h1 @h2 @h3 @h4 @h5 ?_
    exact ⟨by simp [greatB, h1, h2, h3, h4, h5], agr⟩
theorem greatB_no {m mv my mp ml mq : Nat} (h : greatB m mv my mp ml mq = false) : m ≤ 100 ∧ mv ≤ 100 ∧ my ≤ 100 ∧ mp ≤ 100 ∧ ml ≤ 100 ∧ mq ≤ 100 := by
  simp [greatB] at h; omega
def OpnsA (n : Nat) (H : Heap) (v : Value) (m : Nat) (os : Nat → Opn) : Prop := ElemsA n H v m 15 fun i => OVL (os i)
def Opn.Ok (o : Opn) : Prop := o.e < B ∧ o.d < 256 ∧ o.k < 256
theorem openR_ok {G : Grp} {F S : Int} {m my : Nat} {ks : Nat → U × U} {ys : Nat → U} {e d k : Nat} {x : U} (he : e < B) (hd : d < 256) (hk : k < 256) : (openR G F S m my ks ys e d k x).1.Ok := by
  have h0 : Opn.none.Ok := ⟨B_pos, by show 0 < 256; omega, by show 0 < 256; omega⟩
  unfold openR
  split
  · split
    · split
      · exact ⟨he, hd, hk⟩
      · exact h0
    · exact h0
  · exact h0
theorem OVL_length (o : Opn) : (OVL o).length = 15 := rfl
theorem OVL_one (o : Opn) : (OVL o).all Value.oneCell' = true := rfl
theorem OVL_take (o : Opn) : List.take 15 (OVL o) = OVL o := rfl
theorem OV_of (o : Opn) : Value.agg (OVL o).toArray = OV o := rfl
theorem eqvS_OV (o : Opn) : eqvS true [0, 0, 0, 0, 0, 0, 0, 0, 0, 0, 0, 0, 0, 0, 0] (OV o) (OV o) = some (.bool false, none) := by
  simp [eqvS, OV, OVL, cellsEq, cellEq]
theorem hdChan_OV (o : Opn) (l : List Value) : hdChan (OV o :: l) = false := rfl
theorem rO : type_of% (And.intro (And.intro (And.intro @hdChan_OV @isTup_OV) (And.intro @vcells_OV @OVL_length)) (And.intro (And.intro @OVL_one @OVL_take) (And.intro @OV_of @eqvS_OV))) := (And.intro (And.intro (And.intro @hdChan_OV @isTup_OV) (And.intro @vcells_OV @OVL_length)) (And.intro (And.intro @OVL_one @OVL_take) (And.intro @OV_of @eqvS_OV)))
theorem good_OV (o : Opn) : good (OV o) = true := rfl
theorem neq_self (k : IntKind) (a : Int) : binInt .neq k a k a = some (.bool false) := by simp only [binInt, if_pos]; congr 2; simp
theorem splice_OV (o : Opn) (l : List Value) (h : l.length = 15) : splice l 0 (OVL o) = OVL o := splice_whole _ _ (by rw [OVL_length, h])
attribute [local irreducible] greatB openR chkR
theorem law_OpensOpen (G : Grp) (F S : Int) (m mv my mp ml mq e d k : Nat) (ks : Nat → U × U) (vs ys : Nat → U) (ps : Nat → U × U) (os : Nat → Opn) (qs : Nat → U) (nv vv yv pv lv qv : Value) (x C Sg : U) (H : Heap) (n : Nat) (he : e < B) (hd : d < 256) (hk : k < 256) (hos : ∀ i, i < ml → (os i).Ok) (hnv : KeysA n H nv m ks) (hvv : NumsA n H vv mv vs) (hyv : NumsA n H yv my ys) (hpv : KeysA n H pv mp ps) (hlv : OpnsA n H lv ml os) (hqv : NumsA n H qv mq qs) : ACall Tryz.prog 3 [SV G F S nv, GVN e d vv yv pv C Sg k x lv qv] H n (Ret (.bool true) H n) := by
  refine acall_retF mix lw Tryz.func3 ok3 (fun _ _ => Tryz.call3 _ _) rfl ?_
  have jnv := hnv
  have jvv := hvv
  have jyv := hyv
  have jpv := hpv
  obtain ⟨a0, cp0, rfl, -, -, -⟩ := hnv
  obtain ⟨a1, cp1, rfl, -, -, -⟩ := hvv
  obtain ⟨a2, cp2, rfl, -, -, -⟩ := hyv
  obtain ⟨a3, cp3, rfl, -, -, -⟩ := hpv
  obtain ⟨a4, cp4, rfl, -, hl60, hlv0⟩ := hlv
  obtain ⟨a5, cp5, rfl, -, -, -⟩ := hqv
  refine wk8 @c3.eq_1 rN rG rS rD rP rV @GVN_fold ?_
  refine AGo_askV (law_great G F S e d k m mv my mp ml mq cp0 cp1 cp2 cp3 cp4 cp5 x C Sg a0 a1 a2 a3 a4 a5 _ _) ?_
  refine wk5 rN rG rS rD rP ?_
  cases hgr : greatB m mv my mp ml mq with
  | true =>
    refine wk5 rN rG rS rD rP ?_
    exact ⟨rfl, agr⟩
  | false =>
    obtain ⟨hm, hmv, hmy, hmp, hml, -⟩ := greatB_no hgr
    refine wk7 rN rG rS rD rP rV @GVN_fold ?_
    refine AGo_callQV (fun r H' n' => ∃ v, r = SV G F S v ∧ Twn (n + 10) n' H' v m 8 (keyC ks) mark8 58 ∧ Agree (n + 10) (upd (upd H n (.cells (vcells (SV G F S (.slice a0 m cp0))) 29 (0, 0))) (n + 1) (.cells (vcells (GVN e d (.slice a1 mv cp1) (.slice a2 my cp2) (.slice a3 mp cp3) C Sg k x (.slice a4 ml cp4) (.slice a5 mq cp5))) 38 (0, 0))) H') ((tw_Setting G F S m ks _ _ _ (jnv.later (agr) (by omega)) hm).mono fun r H' n' ⟨v, h1, h2, h3⟩ _ _ => ⟨_, h1, v, rfl, h2, h3⟩) (fun h => by cases h) ?_
    rintro v1 H1 n1 ⟨tv, rfl, T1, hA1⟩ hn1
    have f0 : H1 n = some (.cells (vcells (SV G F S (.slice a0 m cp0))) 29 (0, 0)) := by rw [hA1 _ (by omega), upd_ne _ _ (by omega), upd_same]
    have f1 : H1 (n + 1) = some (.cells (vcells (GVN e d (.slice a1 mv cp1) (.slice a2 my cp2) (.slice a3 mp cp3) C Sg k x (.slice a4 ml cp4) (.slice a5 mq cp5))) 38 (0, 0)) := by rw [hA1 _ (by omega), upd_same]
    have fA : Agree n H H1 := fun i hi => by rw [hA1 _ (by omega), upd_ne _ _ (by omega), upd_ne _ _ (by omega)]
    clear hA1
    rw [vcells_GVN] at f1
    rw [vcells_SV] at f0
    obtain ⟨tb, tcp, rfl, htb1, htb2⟩ := T1.form
    refine wk6 rN rG rS rD rP @f1 ?_
    generalize hK : upd H1 (n + 8) _ = K1
    have g8 : K1 (n + 8) = some (.cells (vcells (SV G F S (.slice (some ⟨tb, 0, none⟩) m tcp))) 29 (0, 0)) := by rw [← hK, upd_same]; rfl
    replace T1 := T1.keep2 (n' := n1 + 5) (H' := K1) (fun b k c e => by cases e; rw [← hK, upd_ne _ _ (by omega)]) (by omega)
    replace f0 : K1 n = _ := (by rw [← hK, upd_ne _ _ (by omega)] : K1 n = H1 n).trans f0
    replace f1 : K1 (n + 1) = _ := (by rw [← hK, upd_ne _ _ (by omega)] : K1 (n + 1) = H1 (n + 1)).trans f1
    replace fA : Agree n H K1 := fun i hi => by rw [← hK, upd_ne _ _ (by omega)]; exact fA i hi
    clear hK
    refine AGo_callQV (fun r H' n' => ∃ vv yv pv, r = DV e d vv yv pv C Sg ∧ Twn (n1 + 5) n' H' vv mv 4 (numC vs) mark4 24 ∧ Twn (n1 + 5) n' H' yv my 4 (numC ys) mark4 24 ∧ Twn (n1 + 5) n' H' pv mp 8 (keyC ps) mark8 42 ∧ Agree (n1 + 5) K1 H') ((tw_Dealing e d mv my mp vs ys ps _ _ _ C Sg _ _ (jvv.later fA (by omega)) (jyv.later fA (by omega)) (jpv.later fA (by omega)) hmv hmy hmp).mono fun r H' n' ⟨vv, yv, pv, h1, h2, h3, h4, h5⟩ _ _ => ⟨_, h1, vv, yv, pv, rfl, h2, h3, h4, h5⟩) (fun h => by cases h) ?_
    rintro v2 H2 n2 ⟨ov, oy, op, rfl, V1, Y1, P1, hA2⟩ hn2
    replace f0 := (hA2 _ (by omega)).trans f0
    replace f1 := (hA2 _ (by omega)).trans f1
    replace g8 := (hA2 _ (by omega)).trans g8
    replace T1 := T1.keep (n' := n2) (H' := H2) (fun j h1 h2 => hA2 j (by omega)) (by omega)
    replace fA : Agree n H H2 := fun i hi => (hA2 _ (by omega)).trans (fA i hi)
    clear hA2
    obtain ⟨vb, vcp, rfl, hvb1, hvb2⟩ := V1.form
    obtain ⟨yb, ycp, rfl, hyb1, hyb2⟩ := Y1.form
    obtain ⟨pb, pcp, rfl, hpb1, hpb2⟩ := P1.form
    rw [vcells_SV] at g8
    refine wk7 rN rG rS rD rP @f1 @g8 ?_
    generalize hK : upd H2 (n1 + 3) _ = K2
    have g6 : K2 (n1 + 3) = some (.cells (vcells (DV e d (.slice (some ⟨vb, 0, none⟩) mv vcp) (.slice (some ⟨yb, 0, none⟩) my ycp) (.slice (some ⟨pb, 0, none⟩) mp pcp) C Sg)) 35 (0, 0)) := by rw [← hK, upd_same]; rfl
    replace T1 := T1.keep2 (n' := n2) (H' := K2) (fun b k c e => by cases e; rw [← hK, upd_ne _ _ (by omega)]) (by omega)
    replace V1 := V1.keep2 (n' := n2) (H' := K2) (fun b k c e => by cases e; rw [← hK, upd_ne _ _ (by omega)]) (by omega)
    replace Y1 := Y1.keep2 (n' := n2) (H' := K2) (fun b k c e => by cases e; rw [← hK, upd_ne _ _ (by omega)]) (by omega)
    replace P1 := P1.keep2 (n' := n2) (H' := K2) (fun b k c e => by cases e; rw [← hK, upd_ne _ _ (by omega)]) (by omega)
    replace f0 : K2 n = _ := (by rw [← hK, upd_ne _ _ (by omega)] : K2 n = H2 n).trans f0
    replace f1 : K2 (n + 1) = _ := (by rw [← hK, upd_ne _ _ (by omega)] : K2 (n + 1) = H2 (n + 1)).trans f1
    replace g8 : K2 (n + 8) = _ := (by rw [← hK, upd_ne _ _ (by omega)] : K2 (n + 8) = H2 (n + 8)).trans g8
    replace fA : Agree n H K2 := fun i hi => by rw [← hK, upd_ne _ _ (by omega)]; exact fA i hi
    clear hK
    have hRok := openR_ok (G := G) (F := F) (S := S) (m := m) (my := my) (ks := ks) (ys := ys) (x := x) he hd hk
    have eT : ∀ H' n', n2 ≤ n' → (∀ i, i < n2 → H' i = K2 i) → KeysA n' H' (.slice (some ⟨tb, 0, none⟩) m tcp) m ks := fun H' n' h1 h2 => ElemsA.later (T1.elems fun i => rfl) h2 h1
    have eY : ∀ H' n', n2 ≤ n' → (∀ i, i < n2 → H' i = K2 i) → NumsA n' H' (.slice (some ⟨yb, 0, none⟩) my ycp) my ys := fun H' n' h1 h2 => ElemsA.later (Y1.elems fun i => rfl) h2 h1
    have sT : ∀ H' n', n2 ≤ n' → (∀ i, i < n2 → H' i = K2 i) → KeysA n' H' (.slice a0 m cp0) m ks := fun H' n' h1 h2 => jnv.later (fun i hi => (h2 i (by omega)).trans (fA i hi)) (by omega)
    have sY : ∀ H' n', n2 ≤ n' → (∀ i, i < n2 → H' i = K2 i) → NumsA n' H' (.slice a2 my cp2) my ys := fun H' n' h1 h2 => jyv.later (fun i hi => (h2 i (by omega)).trans (fA i hi)) (by omega)
    have hop := op_Open G F S m my ks ys (.slice (some ⟨tb, 0, none⟩) m tcp) (.slice (some ⟨vb, 0, none⟩) mv vcp) (.slice (some ⟨yb, 0, none⟩) my ycp) (.slice (some ⟨pb, 0, none⟩) mp pcp) e d k x C Sg K2 (n2 + 13) he hd hk (eT _ _ (by omega) (fun _ _ => rfl)) (eY _ _ (by omega) (fun _ _ => rfl))
    have hop2 := fun H' n' h1 h2 => r16_Open G F S m my ks ys (.slice a0 m cp0) (.slice a1 mv cp1) (.slice a2 my cp2) (.slice a3 mp cp3) e d k x C Sg H' n' he hd hk (sT H' n' h1 h2) (sY H' n' h1 h2)
    generalize openR G F S m my ks ys e d k x = R at hRok hop hop2
    obtain ⟨hR1, hR2, hR3⟩ := hRok
    rw [vcells_DV] at g6
    refine AGo_askV (hop) ?_
    simp (disch := first | assumption | omega) only [N_fold, N_zero, N_one, GV_fold, vcells_GV, isTup_GV, SV_fold, vcells_SV, isTup_SV, DV_fold, vcells_DV, isTup_DV, PV_fold, vcells_PV, isTup_PV, OR, hdChan_OV, isTup_OV, vcells_OV, OVL_length, OVL_one, OVL_take, OV_of, eqvS_OV, f0, f1, g6, g8, vcells_GVN, isTup_GVN, GVN_fold, W, sim, ↓reduceIte, Nat.reduceAdd, Nat.reduceSub, Nat.reduceMul, Nat.reduceLT, Nat.reduceLeDiff, Nat.reduceEqDiff, Nat.reduceBEq, Nat.reduceBNe, Nat.reduceMod, Nat.reduceDiv]
    refine AGo_askV (hop2 _ _ (by omega) (agr)) ?_
    simp (disch := first | assumption | omega) only [N_fold, N_zero, N_one, GV_fold, vcells_GV, isTup_GV, SV_fold, vcells_SV, isTup_SV, DV_fold, vcells_DV, isTup_DV, PV_fold, vcells_PV, isTup_PV, OR, hdChan_OV, isTup_OV, vcells_OV, OVL_length, OVL_one, OVL_take, OV_of, eqvS_OV, f0, f1, g6, g8, vcells_GVN, isTup_GVN, GVN_fold, W, sim, ↓reduceIte, Nat.reduceAdd, Nat.reduceSub, Nat.reduceMul, Nat.reduceLT, Nat.reduceLeDiff, Nat.reduceEqDiff, Nat.reduceBEq, Nat.reduceBNe, Nat.reduceMod, Nat.reduceDiv]
    have hck := fun (o : Opn) (ho : o.Ok) H' n' h1 h2 => op_Check G F S m my ks ys (.slice (some ⟨tb, 0, none⟩) m tcp) (.slice (some ⟨vb, 0, none⟩) mv vcp) (.slice (some ⟨yb, 0, none⟩) my ycp) (.slice (some ⟨pb, 0, none⟩) mp pcp) e d C Sg o H' n' he hd ho.1 ho.2.1 ho.2.2 (eT H' n' h1 h2) (eY H' n' h1 h2)
    have hck2 := fun (o : Opn) (ho : o.Ok) H' n' h1 h2 => r16_Check G F S m my ks ys (.slice a0 m cp0) (.slice a1 mv cp1) (.slice a2 my cp2) (.slice a3 mp cp3) e d C Sg o H' n' he hd ho.1 ho.2.1 ho.2.2 (sT H' n' h1 h2) (sY H' n' h1 h2)
    clear hop hop2
    refine AGo_askV (hck R.1 ⟨hR1, hR2, hR3⟩ _ _ (by omega) (agr)) ?_
    refine wk6 rN rG rS rD rP rO ?_
    refine AGo_askV (hck2 R.1 ⟨hR1, hR2, hR3⟩ _ _ (by omega) (agr)) ?_
    refine wk6 rN rG rS rD rP rO ?_
    refine AGo_cycleD (α := Nat) 12 95 (fun i => [(11, .int .i64 (i : Nat))]) (fun i H' n' => i ≤ ml ∧ n2 ≤ n' ∧ Agree n2 K2 H') (fun i H' n' => n2 ≤ n' ∧ Agree n2 K2 H') (fun i => ml - i) (0) ?_ (by simp only [subs_nil, subs_if, lk_if, lk_nil, dropR_nil, dropR_cons, Nat.reduceLT, List.cons_append, List.nil_append, List.elem_nil, List.elem_cons, Nat.reduceBEq, beq_self_eq_true, Bool.true_or, Bool.false_or, Bool.or_true, Bool.or_false, Bool.false_eq_true, ↓reduceIte, if_true, if_false, Nat.reduceEqDiff, and_self, and_true, true_and, eq_self]) ?_ ?_
    · exact ⟨Nat.zero_le _, by omega, agr⟩
    · rintro i H' n' kk ⟨hi, hn, hA⟩ hK hS
      simp only [List.cons_append, List.nil_append, dropR_nil, dropR_cons, Nat.reduceLT, ↓reduceIte]
      have p0 := (hA n (by omega)).trans f0
      have p1 := (hA (n + 1) (by omega)).trans f1
      have p6 := (hA (n1 + 3) (by omega)).trans g6
      have p8 := (hA (n + 8) (by omega)).trans g8
      by_cases hlt : i < ml
      · rcases hlv0 with h | ⟨b, off, cs, el, fz, rfl, hb, hB, hcs⟩
        · omega
        obtain ⟨q1, q2⟩ := hcs i hlt
        have hB' : H' b = some (.cells cs el fz) := (hA b (by omega)).trans ((fA b hb).trans hB)
        have hoi := hos i hlt
        refine AGo_turn ?_
        simp (disch := first | assumption | omega) only [N_fold, N_zero, N_one, GV_fold, vcells_GV, isTup_GV, SV_fold, vcells_SV, isTup_SV, DV_fold, vcells_DV, isTup_DV, PV_fold, vcells_PV, isTup_PV, hdChan_OV, isTup_OV, vcells_OV, OVL_length, OVL_one, OVL_take, OV_of, eqvS_OV, p0, p1, p6, p8, hlt, ite_lt, ite_le, hB', q1, q2, vcells_GVN, isTup_GVN, GVN_fold, W, sim, ↓reduceIte, Nat.reduceAdd, Nat.reduceSub, Nat.reduceMul, Nat.reduceLT, Nat.reduceLeDiff, Nat.reduceEqDiff, Nat.reduceBEq, Nat.reduceBNe, Nat.reduceMod, Nat.reduceDiv]
        refine AGo_askV (hck (os i) hoi _ _ (by omega) hA) ?_
        refine wk6 rN rG rS rD rP rO ?_
        refine AGo_askV (hck2 (os i) hoi _ _ (by omega) hA) ?_
        refine wk6 rN rG rS rD rP rO ?_
        refine AGo_le ?_ (hS (i + 1) _ _ ⟨by omega, by omega, hA⟩ (by omega))
        · simp only [subs_nil, subs_if, lk_if, lk_nil, dropR_nil, dropR_cons, Nat.reduceLT, List.cons_append, List.nil_append, List.elem_nil, List.elem_cons, Nat.reduceBEq, beq_self_eq_true, Bool.true_or, Bool.false_or, Bool.or_true, Bool.or_false, Bool.false_eq_true, ↓reduceIte, if_true, if_false, Nat.reduceEqDiff, and_self, and_true, true_and, eq_self]
      · have hil : i = ml := by omega
        subst hil
        refine AGo_turn ?_
        refine wk3 @p1 @hlt @vcells_GVN ?_
        refine AGo_markL ?_ (hK i _ _ ⟨by omega, hA⟩)
        · simp only [subs_nil, subs_if, lk_if, lk_nil, dropR_nil, dropR_cons, Nat.reduceLT, List.cons_append, List.nil_append, List.elem_nil, List.elem_cons, Nat.reduceBEq, beq_self_eq_true, Bool.true_or, Bool.false_or, Bool.or_true, Bool.or_false, Bool.false_eq_true, ↓reduceIte, if_true, if_false, Nat.reduceEqDiff, and_self, and_true, true_and, eq_self]
    rintro i H' n' ⟨hn, hA⟩
    have p0 := (hA n (by omega)).trans f0
    have p1 := (hA (n + 1) (by omega)).trans f1
    have p6 := (hA (n1 + 3) (by omega)).trans g6
    have p8 := (hA (n + 8) (by omega)).trans g8
    have hA' : ∀ j, j < n → H' j = H j := fun j hj => (hA j (by omega)).trans (fA j hj)
    simp only [List.cons_append, List.nil_append, dropR_nil, dropR_cons, Nat.reduceLT, ↓reduceIte]
    refine wk7 rN rG rS rD rP @p0 @p8 ?_
    refine AGo_askV (lf_Setting G F S m 0 ks _ _ _ _ ((T1.weaken (Nat.zero_le _)).keep (n' := n' + _) (fun j _ h2 => hA j h2) (by omega)) (jnv.later hA' (by omega)) hm) ?_
    refine wk8 rN rG rS rD rP @p1 @p6 @vcells_GVN ?_
    refine AGo_askV (lf_Dealing e d mv my mp 0 vs ys ps _ _ _ _ _ _ C Sg _ _ ((V1.weaken (Nat.zero_le _)).keep (n' := n' + _) (fun j _ h2 => hA j h2) (by omega)) ((Y1.weaken (Nat.zero_le _)).keep (fun j _ h2 => hA j h2) (by omega)) ((P1.weaken (Nat.zero_le _)).keep (fun j _ h2 => hA j h2) (by omega)) (jvv.later hA' (by omega)) (jyv.later hA' (by omega)) (jpv.later hA' (by omega)) hmv hmy hmp) ?_
    refine wk0 ?_
    exact ⟨rfl, hA'⟩
end Go.Proofs.YtcjchcommaahdaaGreat

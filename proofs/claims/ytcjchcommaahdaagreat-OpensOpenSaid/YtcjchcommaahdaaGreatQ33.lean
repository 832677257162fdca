/- Is that a node's share of a dealing? Twins of lists, and that they are left as they were. No conditions. -/
import Derived.Test.YtcjchcommaahdaaGreatQ12
import Derived.Test.YtcjchcommaahdaaGreatQ32
set_option maxRecDepth 20000
set_option maxHeartbeats 4000000
set_option linter.all false
namespace Go.Proofs.YtcjchcommaahdaaGreat
open Go.Ab
def chkR (G : Grp) (F S : Int) (m my : Nat) (ks : Nat → U × U) (ys : Nat → U) (e d : Nat) (o : Opn) : Bool :=
  settB G F S m ks && (decide (o.e = e) && (decide (o.d = d) && (nodeB m o.k && (decide (my = m) && checkB G openT G.h (ks (o.k - 1)).2 o.z (ys (o.k - 1)) o.c o.s))))
theorem PV_take (c s : U) : True := trivial
attribute [local irreducible] settB nodeB checkB
theorem eqI_rfl (a : Int) : (a == a) = true := beq_self_eq_true a
theorem eqI_ne {a b : Nat} (h : ¬ a = b) : (((a : Nat) : Int) == ((b : Nat) : Int)) = false := by rw [beq_eq_false_iff_ne]; omega
theorem op_Check (G : Grp) (F S : Int) (m my : Nat) (ks : Nat → U × U) (ys : Nat → U) (nv vv yv pv : Value) (e d : Nat) (Cg Sg : U) (o : Opn) (H : Heap) (n : Nat) (he : e < B) (hd : d < 256) (hoe : o.e < B) (hod : o.d < 256) (hok : o.k < 256) (hv : KeysA n H nv m ks) (hy : NumsA n H yv my ys) : ACall Tryz.prog 9 [SV G F S nv, DV e d vv yv pv Cg Sg, OV o] H n (Ret (.bool (chkR G F S m my ks ys e d o)) H n) := by
  refine acall_retF mix lw Tryz.func9 ok9 (fun _ _ => Tryz.call9 _ _) rfl ?_
  have hv' := hv
  obtain ⟨sa, cap, rfl, hmc, hm60, hv0⟩ := hv
  have hy' := hy
  obtain ⟨sy, capy, rfl, hmyc, hmy60, hy0⟩ := hy
  cases hset : settB G F S m ks with
  | false =>
    rw [show chkR G F S m my ks ys e d o = false by unfold chkR; rw [hset]; rfl]
    refine wk8 @c9.eq_1 rN rG rS rD rP rQ @OVL.eq_1 ?_
    refine AGo_askV (dl_Setting G F S m ks _ _ _ (hv'.later (agr) (by omega))) ?_
    refine wk6 rN rG rS rD rP @hset ?_
    exact ⟨rfl, agr⟩
  | true =>
    by_cases h1 : o.e = e
    · by_cases h2 : o.d = d
      · cases hnode : nodeB m o.k with
        | false =>
          rw [show chkR G F S m my ks ys e d o = false by unfold chkR; rw [hset, decide_eq_true h1, decide_eq_true h2, hnode]; rfl]
          refine wk8 @c9.eq_1 rN rG rS rD rP rQ @OVL.eq_1 ?_
          refine AGo_askV (dl_Setting G F S m ks _ _ _ (hv'.later (agr) (by omega))) ?_
          refine wk8 rN rG rS rD rP @hset @h1 @h2 ?_
          refine AGo_askV (op_of e d hd _ _) ?_
          refine wk5 rN rG rS rD rP ?_
          refine AGo_askV (op_of e d hd _ _) ?_
          refine wk7 rN rG rS rD rP @eqvS_agg @eqI_rfl ?_
          refine AGo_askV (op_node G F S o.k m cap sa _ _ hok) ?_
          refine wk6 rN rG rS rD rP @hnode ?_
          exact ⟨rfl, agr⟩
        | true =>
          have hk1 : 1 ≤ o.k ∧ o.k ≤ m := by simpa [nodeB] using hnode
          have qk : (o.k + 255) % 256 = o.k - 1 := by omega
          have hlt : o.k - 1 < m := by omega
          by_cases hmy : my = m
          · subst hmy
            rcases hv0 with h | ⟨b, off, cs, ek, fk', rfl, hb, hB, hcs⟩
            · omega
            rcases hy0 with h | ⟨by', offy, csy, ey, fy, rfl, hby, hBy, hcsy⟩
            · omega
            obtain ⟨c1, c2⟩ := hcs (o.k - 1) hlt
            obtain ⟨d1, d2, d3⟩ := key_halves c1 c2
            rw [Nat.add_assoc] at d3
            obtain ⟨y1, y2⟩ := hcsy (o.k - 1) hlt
            rw [show chkR G F S my my ks ys e d o = checkB G openT G.h (ks (o.k - 1)).2 o.z (ys (o.k - 1)) o.c o.s by unfold chkR; rw [hset, decide_eq_true h1, decide_eq_true h2, hnode, decide_eq_true rfl]; rfl]
            refine wk8 @c9.eq_1 rN rG rS rD rP rQ @OVL.eq_1 ?_
            refine AGo_askV (dl_Setting G F S my ks _ _ _ (hv'.later (agr) (by omega))) ?_
            refine wk8 rN rG rS rD rP @hset @h1 @h2 ?_
            refine AGo_askV (op_of e d hd _ _) ?_
            refine wk5 rN rG rS rD rP ?_
            refine AGo_askV (op_of e d hd _ _) ?_
            refine wk7 rN rG rS rD rP @eqvS_agg @eqI_rfl ?_
            refine AGo_askV (op_node G F S o.k my cap (some ⟨b, off, none⟩) _ _ hok) ?_
            simp (disch := first | assumption | omega) only [N_fold, N_zero, N_one, GV_fold, vcells_GV, isTup_GV, SV_fold, vcells_SV, isTup_SV, DV_fold, vcells_DV, isTup_DV, PV_fold, vcells_PV, isTup_PV, hnode, qk, ite_lt, ite_le, hB, d3, hBy, y2, agg_vN, openT_lit, W, sim, ↓reduceIte, Nat.reduceAdd, Nat.reduceSub, Nat.reduceMul, Nat.reduceLT, Nat.reduceLeDiff, Nat.reduceEqDiff, Nat.reduceBEq, Nat.reduceBNe, Nat.reduceMod, Nat.reduceDiv]
            refine AGo_askV (pf_Check G openT G.h (ks (o.k - 1)).2 o.z (ys (o.k - 1)) o.c o.s _ _ openT_size) ?_
            refine wk5 rN rG rS rD rP ?_
            exact ⟨rfl, agr⟩
          · rw [show chkR G F S m my ks ys e d o = false by unfold chkR; rw [hset, decide_eq_true h1, decide_eq_true h2, hnode, decide_eq_false hmy]; rfl]
            refine wk8 @c9.eq_1 rN rG rS rD rP rQ @OVL.eq_1 ?_
            refine AGo_askV (dl_Setting G F S m ks _ _ _ (hv'.later (agr) (by omega))) ?_
            refine wk8 rN rG rS rD rP @hset @h1 @h2 ?_
            refine AGo_askV (op_of e d hd _ _) ?_
            refine wk5 rN rG rS rD rP ?_
            refine AGo_askV (op_of e d hd _ _) ?_
            refine wk7 rN rG rS rD rP @eqvS_agg @eqI_rfl ?_
            refine AGo_askV (op_node G F S o.k m cap sa _ _ hok) ?_
            refine wk7 rN rG rS rD rP @hnode @hmy ?_
            exact ⟨rfl, agr⟩
      · rw [show chkR G F S m my ks ys e d o = false by unfold chkR; rw [hset, decide_eq_true h1, decide_eq_false h2]; rfl]
        refine wk8 @c9.eq_1 rN rG rS rD rP rQ @OVL.eq_1 ?_
        refine AGo_askV (dl_Setting G F S m ks _ _ _ (hv'.later (agr) (by omega))) ?_
        refine wk8 rN rG rS rD rP @hset @h1 @h2 ?_
        refine AGo_askV (op_of e o.d hod _ _) ?_
        refine wk5 rN rG rS rD rP ?_
        refine AGo_askV (op_of e d hd _ _) ?_
        simp (disch := first | assumption | omega) only [N_fold, N_zero, N_one, GV_fold, vcells_GV, isTup_GV, SV_fold, vcells_SV, isTup_SV, DV_fold, vcells_DV, isTup_DV, PV_fold, vcells_PV, isTup_PV, eqvS_agg, Int.natCast_inj, h2, eqI_ne h2, eqI_rfl, W, sim, ↓reduceIte, Nat.reduceAdd, Nat.reduceSub, Nat.reduceMul, Nat.reduceLT, Nat.reduceLeDiff, Nat.reduceEqDiff, Nat.reduceBEq, Nat.reduceBNe, Nat.reduceMod, Nat.reduceDiv]
        exact ⟨rfl, agr⟩
    · rw [show chkR G F S m my ks ys e d o = false by unfold chkR; rw [hset, decide_eq_false h1]; rfl]
      refine wk8 @c9.eq_1 rN rG rS rD rP rQ @OVL.eq_1 ?_
      refine AGo_askV (dl_Setting G F S m ks _ _ _ (hv'.later (agr) (by omega))) ?_
      refine wk7 rN rG rS rD rP @hset @h1 ?_
      refine AGo_askV (op_of o.e o.d hod _ _) ?_
      refine wk5 rN rG rS rD rP ?_
      refine AGo_askV (op_of e d hd _ _) ?_
      simp (disch := first | assumption | omega) only [N_fold, N_zero, N_one, GV_fold, vcells_GV, isTup_GV, SV_fold, vcells_SV, isTup_SV, DV_fold, vcells_DV, isTup_DV, PV_fold, vcells_PV, isTup_PV, eqvS_agg, Int.natCast_inj, h1, eqI_ne h1, eqI_rfl, Bool.false_and, W, sim, ↓reduceIte, Nat.reduceAdd, Nat.reduceSub, Nat.reduceMul, Nat.reduceLT, Nat.reduceLeDiff, Nat.reduceEqDiff, Nat.reduceBEq, Nat.reduceBNe, Nat.reduceMod, Nat.reduceDiv]
      exact ⟨rfl, agr⟩
theorem r16_Check (G : Grp) (F S : Int) (m my : Nat) (ks : Nat → U × U) (ys : Nat → U) (nv vv yv pv : Value) (e d : Nat) (Cg Sg : U) (o : Opn) (H : Heap) (n : Nat) (he : e < B) (hd : d < 256) (hoe : o.e < B) (hod : o.d < 256) (hok : o.k < 256) (hv : KeysA n H nv m ks) (hy : NumsA n H yv my ys) : ACall Tryz.prog 10 [SV G F S nv, DV e d vv yv pv Cg Sg, OV o] H n (Ret (.bool (chkR G F S m my ks ys e d o)) H n) := by
  refine acall_retF mix lw Tryz.func10 ok10 (fun _ _ => Tryz.call10 _ _) rfl ?_
  have hv' := hv
  obtain ⟨sa, cap, rfl, hmc, hm60, hv0⟩ := hv
  have hy' := hy
  obtain ⟨sy, capy, rfl, hmyc, hmy60, hy0⟩ := hy
  cases hset : settB G F S m ks with
  | false =>
    rw [show chkR G F S m my ks ys e d o = false by unfold chkR; rw [hset]; rfl]
    refine wk8 @c10.eq_1 rN rG rS rD rP rQ @OVL.eq_1 ?_
    refine AGo_askV (r15_Setting G F S m ks _ _ _ (hv'.later (agr) (by omega))) ?_
    refine wk6 rN rG rS rD rP @hset ?_
    exact ⟨rfl, agr⟩
  | true =>
    by_cases h1 : o.e = e
    · by_cases h2 : o.d = d
      · cases hnode : nodeB m o.k with
        | false =>
          rw [show chkR G F S m my ks ys e d o = false by unfold chkR; rw [hset, decide_eq_true h1, decide_eq_true h2, hnode]; rfl]
          refine wk8 @c10.eq_1 rN rG rS rD rP rQ @OVL.eq_1 ?_
          refine AGo_askV (r15_Setting G F S m ks _ _ _ (hv'.later (agr) (by omega))) ?_
          refine wk8 rN rG rS rD rP @hset @h1 @h2 ?_
          refine AGo_askV (r15_Node G F S o.k m cap sa _ _ hok) ?_
          refine wk6 rN rG rS rD rP @hnode ?_
          exact ⟨rfl, agr⟩
        | true =>
          have hk1 : 1 ≤ o.k ∧ o.k ≤ m := by simpa [nodeB] using hnode
          have qk : (o.k + 255) % 256 = o.k - 1 := by omega
          have hlt : o.k - 1 < m := by omega
          by_cases hmy : my = m
          · subst hmy
            rcases hv0 with h | ⟨b, off, cs, ek, fk', rfl, hb, hB, hcs⟩
            · omega
            rcases hy0 with h | ⟨by', offy, csy, ey, fy, rfl, hby, hBy, hcsy⟩
            · omega
            obtain ⟨c1, c2⟩ := hcs (o.k - 1) hlt
            obtain ⟨d1, d2, d3⟩ := key_halves c1 c2
            rw [Nat.add_assoc] at d3
            obtain ⟨y1, y2⟩ := hcsy (o.k - 1) hlt
            rw [show chkR G F S my my ks ys e d o = checkB G openT G.h (ks (o.k - 1)).2 o.z (ys (o.k - 1)) o.c o.s by unfold chkR; rw [hset, decide_eq_true h1, decide_eq_true h2, hnode, decide_eq_true rfl]; rfl]
            refine wk8 @c10.eq_1 rN rG rS rD rP rQ @OVL.eq_1 ?_
            refine AGo_askV (r15_Setting G F S my ks _ _ _ (hv'.later (agr) (by omega))) ?_
            refine wk8 rN rG rS rD rP @hset @h1 @h2 ?_
            refine AGo_askV (r15_Node G F S o.k my cap (some ⟨b, off, none⟩) _ _ hok) ?_
            simp (disch := first | assumption | omega) only [N_fold, N_zero, N_one, GV_fold, vcells_GV, isTup_GV, SV_fold, vcells_SV, isTup_SV, DV_fold, vcells_DV, isTup_DV, PV_fold, vcells_PV, isTup_PV, hnode, qk, ite_lt, ite_le, hB, d3, hBy, y2, agg_vN, openT_lit, W, sim, ↓reduceIte, Nat.reduceAdd, Nat.reduceSub, Nat.reduceMul, Nat.reduceLT, Nat.reduceLeDiff, Nat.reduceEqDiff, Nat.reduceBEq, Nat.reduceBNe, Nat.reduceMod, Nat.reduceDiv]
            refine AGo_askV (r14_Check G openT G.h (ks (o.k - 1)).2 o.z (ys (o.k - 1)) o.c o.s _ _ openT_size) ?_
            refine wk5 rN rG rS rD rP ?_
            exact ⟨rfl, agr⟩
          · rw [show chkR G F S m my ks ys e d o = false by unfold chkR; rw [hset, decide_eq_true h1, decide_eq_true h2, hnode, decide_eq_false hmy]; rfl]
            refine wk8 @c10.eq_1 rN rG rS rD rP rQ @OVL.eq_1 ?_
            refine AGo_askV (r15_Setting G F S m ks _ _ _ (hv'.later (agr) (by omega))) ?_
            refine wk8 rN rG rS rD rP @hset @h1 @h2 ?_
            refine AGo_askV (r15_Node G F S o.k m cap sa _ _ hok) ?_
            refine wk7 rN rG rS rD rP @hnode @hmy ?_
            exact ⟨rfl, agr⟩
      · rw [show chkR G F S m my ks ys e d o = false by unfold chkR; rw [hset, decide_eq_true h1, decide_eq_false h2]; rfl]
        refine wk8 @c10.eq_1 rN rG rS rD rP rQ @OVL.eq_1 ?_
        refine AGo_askV (r15_Setting G F S m ks _ _ _ (hv'.later (agr) (by omega))) ?_
        refine wk8 rN rG rS rD rP @hset @h1 @h2 ?_
        exact ⟨rfl, agr⟩
    · rw [show chkR G F S m my ks ys e d o = false by unfold chkR; rw [hset, decide_eq_false h1]; rfl]
      refine wk8 @c10.eq_1 rN rG rS rD rP rQ @OVL.eq_1 ?_
      refine AGo_askV (r15_Setting G F S m ks _ _ _ (hv'.later (agr) (by omega))) ?_
      refine wk7 rN rG rS rD rP @hset @h1 ?_
      exact ⟨rfl, agr⟩
end Go.Proofs.YtcjchcommaahdaaGreat
namespace Go.Proofs.YtcjchcommaahdaaGreat
open Go.Ab
theorem agg_vPV (c s : U) : Value.agg (vcells (PV c s)).toArray = PV c s := rfl
/-- The cells of so many elements. -/
def flat (c : Nat → List Value) : Nat → List Value
  | 0 => []
  | k + 1 => flat c k ++ c k
theorem flat_succ (c : Nat → List Value) (k : Nat) : flat c (k + 1) = flat c k ++ c k := rfl
theorem flat_length {c : Nat → List Value} {esz : Nat} (h : ∀ i, (c i).length = esz) : ∀ k, (flat c k).length = k * esz
  | 0 => by simp [flat]
  | k + 1 => by rw [flat_succ, List.length_append, flat_length h k, h, Nat.add_mul, Nat.one_mul]
theorem flat_get {c : Nat → List Value} {esz : Nat} (h : ∀ i, (c i).length = esz) (rest : List Value) : ∀ k i, i < k → (((flat c k ++ rest).drop (i * esz)).take esz) = c i
  | 0, i, hi => by omega
  | k + 1, i, hi => by
    rw [flat_succ, List.append_assoc]
    by_cases e : i = k
    · subst e
      rw [← flat_length h i, List.drop_left, ← h i, List.take_left]
    · exact flat_get h (c k ++ rest) k i (by omega)
/-- A twin: the elements, and a mark behind them. -/
def Twn (nb n : Nat) (H : Heap) (v : Value) (m esz : Nat) (c : Nat → List Value) (mark : List Value) (e : TypeId) : Prop :=
  ∃ b cap rest, v = .slice (some ⟨b, 0, none⟩) m cap ∧ nb ≤ b ∧ b < n ∧ m + 1 ≤ cap ∧ m < 2 ^ 60 ∧ H b = some (.cells (flat c m ++ (mark ++ rest)) e (0, 0))
theorem Twn.keep {nb n n' : Nat} {H H' : Heap} {v : Value} {m esz : Nat} {c : Nat → List Value} {mark : List Value} {e : TypeId} (h : Twn nb n H v m esz c mark e) (hA : ∀ j, nb ≤ j → j < n → H' j = H j) (hn : n ≤ n') : Twn nb n' H' v m esz c mark e := by
  obtain ⟨b, cap, rest, h1, h2, h3, h4, h5, h6⟩ := h
  exact ⟨b, cap, rest, h1, h2, by omega, h4, h5, (hA b h2 h3).trans h6⟩
theorem Twn.weaken {nb nb' n : Nat} {H : Heap} {v : Value} {m esz : Nat} {c : Nat → List Value} {mark : List Value} {e : TypeId} (h : Twn nb n H v m esz c mark e) (hn : nb' ≤ nb) : Twn nb' n H v m esz c mark e := by
  obtain ⟨b, cap, rest, h1, h2, h3⟩ := h
  exact ⟨b, cap, rest, h1, by omega, h3⟩
theorem Twn.elems {nb n : Nat} {H : Heap} {v : Value} {m esz : Nat} {c : Nat → List Value} {mark : List Value} {e : TypeId} (h : Twn nb n H v m esz c mark e) (hc : ∀ i, (c i).length = esz) : ElemsA n H v m esz c := by
  obtain ⟨b, cap, rest, h1, h2, h3, h4, h5, h6⟩ := h
  refine ⟨_, cap, h1, by omega, h5, .inr ⟨b, 0, _, e, (0, 0), rfl, h3, h6, fun i hi => ⟨?_, ?_⟩⟩⟩
  · have : (i + 1) * esz ≤ m * esz := Nat.mul_le_mul_right _ hi
    rw [Nat.add_mul, Nat.one_mul] at this
    rw [List.length_append, flat_length hc]; omega
  · rw [Nat.zero_add]; exact flat_get hc _ m i hi
def Twins (n : Nat) (H : Heap) (m esz : Nat) (c : Nat → List Value) (mark : List Value) (e : TypeId) : Post := fun r H' n' => ∃ v, r = .returned v ∧ Twn n n' H' v m esz c mark e ∧ Agree n H H'
theorem AGo_twinV {P : Program} {res : ALeave} {k : List AItem} {tm : List Value} {H : Heap} {n n0 : Nat} {d : Bool} {R : Post} {dst : Option Nat} {f : Opd} {args ap : List Opd} {ops : List AOper} {xs : List Value} {g : FuncId} {first cap : Array Value}
    {m esz : Nat} {c : Nat → List Value} {mark : List Value} {e : TypeId} (hc : ACall P g (first.toList ++ xs ++ cap.toList) H n (Twins n H m esz c mark e))
    (h : ∀ v H' n', Twn n n' H' v m esz c mark e → Agree n H H' → n ≤ n' → AGo P res (.inReg n0 d ops :: k) (put tm dst v) H' n' R) : CallV P res n0 d dst f args ap ops k tm H n R (.func (.func g) first cap) xs :=
  AGo_callQV (fun v H' n' => Twn n n' H' v m esz c mark e ∧ Agree n H H') (hc.mono fun r H' n' ⟨v, h1, h2, h3⟩ _ _ => ⟨v, h1, h2, h3⟩) (fun _ v H' _ hq i hi => hq.2 i hi) (fun v H' n' hq hn => h v H' n' hq.1 hq.2 hn)
theorem rep_len (k : Nat) (z : List Value) : (List.replicate k z).flatten.length = k * z.length := by simp
theorem own_none (nb n b : Nat) (H : Heap) (e : TypeId) (esz k : Nat) (z : List Value) (hz : z.length = esz) (hb : nb ≤ b) (hn : b < n) (hk : k < 2 ^ 63) : OwnB nb n (upd H b (.cells (List.replicate k z).flatten e (0, 0))) (.slice (some ⟨b, 0, none⟩) 0 k) [] e esz := by
  refine ⟨⟨b, 0, k, (List.replicate k z).flatten, rfl, hb, by rw [upd_same]; rfl, by simp, by rw [rep_len, hz, Nat.sub_zero], by omega, hk⟩, fun b' k' c' e => by cases e; exact hn⟩
def mark4 : List Value := vcells (N 77)
def mark8 : List Value := [.int .u64 ((77 : Nat) : Int), .int .u64 ((0 : Nat) : Int), .int .u64 ((0 : Nat) : Int), .int .u64 ((0 : Nat) : Int), .int .u64 ((0 : Nat) : Int), .int .u64 ((0 : Nat) : Int), .int .u64 ((0 : Nat) : Int), .int .u64 ((0 : Nat) : Int)]
theorem mark4_eq : mark4 = [.int .u64 ((77 : Nat) : Int), .int .u64 ((0 : Nat) : Int), .int .u64 ((0 : Nat) : Int), .int .u64 ((0 : Nat) : Int)] := by
  obtain ⟨h0, h1, h2, h3⟩ := w_small (show 77 < B by rw [B_eq]; decide)
  unfold mark4; rw [vcells_N, h0, h1, h2, h3]
theorem mark8_eq : mark8 = [.int .u64 ((77 : Nat) : Int), .int .u64 ((0 : Nat) : Int), .int .u64 ((0 : Nat) : Int), .int .u64 ((0 : Nat) : Int), .int .u64 ((0 : Nat) : Int), .int .u64 ((0 : Nat) : Int), .int .u64 ((0 : Nat) : Int), .int .u64 ((0 : Nat) : Int)] := rfl
theorem lenN (x : Nat) : (vcells (N x)).length = 4 := rfl
theorem lenPV (c s : U) : (vcells (PV c s)).length = 8 := rfl
theorem tw_Nums (m : Nat) (a : Nat → U) (v : Value) (H : Heap) (n : Nat) (hv : NumsA n H v m a) (hm : m ≤ 100) : ACall Tryz.prog 14 [v] H n (Twins n H m 4 (fun i => vcells (N (a i).val)) mark4 24) := by
  refine acall_ofF mix Tryz.func14 ok14 (fun _ _ => Tryz.call14 _ _) rfl ?_
  obtain ⟨sa, cap, rfl, hmc, hm60, hv⟩ := hv
  have q1 : ((((0 : Nat) : Int) ≤ ((m + 1 : Nat) : Int)) ∧ ((m + 1 : Nat) : Int) < 2 ^ 62 ∧ ((32 : Nat) : Int) * ((m + 1 : Nat) : Int) ≤ 2 ^ 48) = True := by
    apply propext; refine ⟨fun _ => trivial, fun _ => ⟨by omega, by omega, by omega⟩⟩
  have q2 : (((m + 1 : Nat) : Int) < 2 ^ 62 ∧ ((32 : Nat) : Int) * ((m + 1 : Nat) : Int) ≤ 2 ^ 48) = True := by
    apply propext; refine ⟨fun _ => trivial, fun _ => ⟨by omega, by omega⟩⟩
  have hfl := fun k => flat_length (c := fun i => vcells (N (a i).val)) (esz := 4) (fun i => lenN _) k
  refine wk4 @c14.eq_1 @q1 @q2 @Nat.zero_le ?_
  have o0 := own_none n (n + 6) (n + 4) H 24 4 (m + 1) [.int .u64 ((0 : Nat) : Int), .int .u64 ((0 : Nat) : Int), .int .u64 ((0 : Nat) : Int), .int .u64 ((0 : Nat) : Int)] rfl (by omega) (by omega) (by omega)
  generalize hG : upd H (n + 4) _ = K at o0
  have kA : Agree n H K := by rw [← hG]; exact agr
  refine AGo_cycleD (α := (Nat × Value)) 9 29 (fun x => [(4, .int .i64 (x.1 : Nat)), (3, x.2)]) (fun x H' n' => x.1 ≤ m ∧ n ≤ n' ∧ OwnB n n' H' x.2 (flat (fun i => vcells (N (a i).val)) x.1) 24 4 ∧ Agree n H H') (fun x H' n' => n ≤ n' ∧ OwnB n n' H' x.2 (flat (fun i => vcells (N (a i).val)) m) 24 4 ∧ Agree n H H') (fun x => m - x.1) ((0, .slice (some ⟨n + 4, 0, none⟩) 0 (m + 1))) ?_ (by simp only [subs_nil, subs_if, lk_if, lk_nil, dropR_nil, dropR_cons, Nat.reduceLT, List.cons_append, List.nil_append, List.elem_nil, List.elem_cons, Nat.reduceBEq, beq_self_eq_true, Bool.true_or, Bool.false_or, Bool.or_true, Bool.or_false, Bool.false_eq_true, ↓reduceIte, if_true, if_false, Nat.reduceEqDiff, and_self, and_true, true_and, eq_self]) ?_ ?_
  · exact ⟨Nat.zero_le _, by omega, o0.keep (fun _ _ _ => rfl) (by omega), kA⟩
  · clear o0 kA hG
    rintro ⟨i, w⟩ H' n' kk ⟨hi, hn, ho, fA⟩ hK hS
    simp only at hi ho
    simp only [List.cons_append, List.nil_append, dropR_nil, dropR_cons, Nat.reduceLT, ↓reduceIte]
    by_cases hlt : i < m
    · rcases hv with h | ⟨b, off, cs, e, fz, rfl, hb, hB, hcs⟩
      · omega
      obtain ⟨c1, c2⟩ := hcs i hlt
      have hB' : H' b = some (.cells cs e fz) := (fA b hb).trans hB
      have hfi := hfl i
      refine AGo_turn ?_
      refine wk10 rN rG rP @PV_zero rI @hlt @hB' @c1 @c2 @agg_vN ?_
      refine AGo_push (n1 := n' + 8) (nb := n) (l := flat (fun i => vcells (N (a i).val)) i) (l2 := vcells (N (a i).val)) ((ho.keep (n' := n' + 7) (fun _ _ _ => rfl) (by omega)).upd (by omega) (by omega)) (src_mk (upd_same _ _ _) rfl rfl) (by omega) (by omega) (by rw [hfi, lenN _]; omega) (by decide) (by omega) rfl ?_
      intro v2 H2 o2 hA2
      rw [← flat_succ (fun i => vcells (N (a i).val))] at o2
      refine wk0 ?_
      refine AGo_le ?_ (hS (i + 1, v2) _ _ ⟨by simp only; omega, by omega, o2.keep (fun _ _ _ => rfl) (by omega), fun j hj => ?_⟩ (by simp only; omega))
      · simp only [subs_nil, subs_if, lk_if, lk_nil, dropR_nil, dropR_cons, Nat.reduceLT, List.cons_append, List.nil_append, List.elem_nil, List.elem_cons, Nat.reduceBEq, beq_self_eq_true, Bool.true_or, Bool.false_or, Bool.or_true, Bool.or_false, Bool.false_eq_true, ↓reduceIte, if_true, if_false, Nat.reduceEqDiff, and_self, and_true, true_and, eq_self]
      rw [hA2 _ (by omega), upd_ne _ _ (by omega)]; exact fA j hj
    · have him : i = m := by omega
      subst him
      refine AGo_turn ?_
      refine wk1 @hlt ?_
      refine AGo_markL ?_ (hK (i, w) _ _ ⟨by omega, ho.keep (fun _ _ _ => rfl) (by omega), fA⟩)
      · simp only [subs_nil, subs_if, lk_if, lk_nil, dropR_nil, dropR_cons, Nat.reduceLT, List.cons_append, List.nil_append, List.elem_nil, List.elem_cons, Nat.reduceBEq, beq_self_eq_true, Bool.true_or, Bool.false_or, Bool.or_true, Bool.or_false, Bool.false_eq_true, ↓reduceIte, if_true, if_false, Nat.reduceEqDiff, and_self, and_true, true_and, eq_self]
  clear o0 kA hG
  rintro ⟨i, w⟩ H1 n1 ⟨hn1, ho, fA⟩
  simp only at ho
  simp only [List.cons_append, List.nil_append, dropR_nil, dropR_cons, Nat.reduceLT, ↓reduceIte]
  refine wk0 ?_
  rw [← mark4_eq]
  refine AGo_push (n1 := n1 + 3) (nb := n) (l := flat (fun i => vcells (N (a i).val)) m) (l2 := mark4) ((ho.keep (n' := n1 + 2) (fun _ _ _ => rfl) (by omega)).upd (by omega) (by omega)) (src_mk (upd_same _ _ _) rfl rfl) (by omega) (by omega) (by rw [hfl m, show mark4.length = 4 from rfl]; omega) (by decide) (by omega) rfl ?_
  intro v2 H2 o2 hA2
  obtain ⟨⟨b2, k2, cp2, rest2, rfl, hb2, hB2, hl2, -, hk2, -⟩, hbn2⟩ := o2
  replace hbn2 := hbn2 _ _ _ rfl
  have hk : k2 = m + 1 := by
    have h3 : (flat (fun i => vcells (N (a i).val)) m ++ mark4).length = k2 * 4 := hl2
    rw [List.length_append, hfl m, show mark4.length = 4 from rfl] at h3; omega
  subst hk
  have e1 : m ≤ cp2 := by omega
  have e2 : ¬ cp2 = 0 := by omega
  refine wk5 rI @e1 @e2 @ite_addr @Nat.sub_zero ?_
  refine ⟨_, rfl, ⟨b2, cp2, rest2, rfl, hb2, by omega, by omega, by omega, ?_⟩, fun j hj => ?_⟩
  · rw [← List.append_assoc]; exact hB2
  · rw [hA2 _ (by omega), upd_ne _ _ (by omega)]; exact fA j hj
theorem tw_Keys (m : Nat) (a : Nat → U × U) (v : Value) (H : Heap) (n : Nat) (hv : KeysA n H v m a) (hm : m ≤ 100) : ACall Tryz.prog 13 [v] H n (Twins n H m 8 (fun i => vcells (PV (a i).1 (a i).2)) mark8 58) := by
  refine acall_ofF mix Tryz.func13 ok13 (fun _ _ => Tryz.call13 _ _) rfl ?_
  obtain ⟨sa, cap, rfl, hmc, hm60, hv⟩ := hv
  have q1 : ((((0 : Nat) : Int) ≤ ((m + 1 : Nat) : Int)) ∧ ((m + 1 : Nat) : Int) < 2 ^ 62 ∧ ((64 : Nat) : Int) * ((m + 1 : Nat) : Int) ≤ 2 ^ 48) = True := by
    apply propext; refine ⟨fun _ => trivial, fun _ => ⟨by omega, by omega, by omega⟩⟩
  have q2 : (((m + 1 : Nat) : Int) < 2 ^ 62 ∧ ((64 : Nat) : Int) * ((m + 1 : Nat) : Int) ≤ 2 ^ 48) = True := by
    apply propext; refine ⟨fun _ => trivial, fun _ => ⟨by omega, by omega⟩⟩
  have hfl := fun k => flat_length (c := fun i => vcells (PV (a i).1 (a i).2)) (esz := 8) (fun i => lenPV _ _) k
  refine wk4 @c13.eq_1 @q1 @q2 @Nat.zero_le ?_
  have o0 := own_none n (n + 6) (n + 4) H 58 8 (m + 1) [.int .u64 ((0 : Nat) : Int), .int .u64 ((0 : Nat) : Int), .int .u64 ((0 : Nat) : Int), .int .u64 ((0 : Nat) : Int), .int .u64 ((0 : Nat) : Int), .int .u64 ((0 : Nat) : Int), .int .u64 ((0 : Nat) : Int), .int .u64 ((0 : Nat) : Int)] rfl (by omega) (by omega) (by omega)
  generalize hG : upd H (n + 4) _ = K at o0
  have kA : Agree n H K := by rw [← hG]; exact agr
  refine AGo_cycleD (α := (Nat × Value)) 9 30 (fun x => [(4, .int .i64 (x.1 : Nat)), (3, x.2)]) (fun x H' n' => x.1 ≤ m ∧ n ≤ n' ∧ OwnB n n' H' x.2 (flat (fun i => vcells (PV (a i).1 (a i).2)) x.1) 58 8 ∧ Agree n H H') (fun x H' n' => n ≤ n' ∧ OwnB n n' H' x.2 (flat (fun i => vcells (PV (a i).1 (a i).2)) m) 58 8 ∧ Agree n H H') (fun x => m - x.1) ((0, .slice (some ⟨n + 4, 0, none⟩) 0 (m + 1))) ?_ (by simp only [subs_nil, subs_if, lk_if, lk_nil, dropR_nil, dropR_cons, Nat.reduceLT, List.cons_append, List.nil_append, List.elem_nil, List.elem_cons, Nat.reduceBEq, beq_self_eq_true, Bool.true_or, Bool.false_or, Bool.or_true, Bool.or_false, Bool.false_eq_true, ↓reduceIte, if_true, if_false, Nat.reduceEqDiff, and_self, and_true, true_and, eq_self]) ?_ ?_
  · exact ⟨Nat.zero_le _, by omega, o0.keep (fun _ _ _ => rfl) (by omega), kA⟩
  · clear o0 kA hG
    rintro ⟨i, w⟩ H' n' kk ⟨hi, hn, ho, fA⟩ hK hS
    simp only at hi ho
    simp only [List.cons_append, List.nil_append, dropR_nil, dropR_cons, Nat.reduceLT, ↓reduceIte]
    by_cases hlt : i < m
    · rcases hv with h | ⟨b, off, cs, e, fz, rfl, hb, hB, hcs⟩
      · omega
      obtain ⟨c1, c2⟩ := hcs i hlt
      have hB' : H' b = some (.cells cs e fz) := (fA b hb).trans hB
      have hfi := hfl i
      refine AGo_turn ?_
      refine wk10 rN rG rP @PV_zero rI @hlt @hB' @c1 @c2 @agg_vPV ?_
      refine AGo_push (n1 := n' + 8) (nb := n) (l := flat (fun i => vcells (PV (a i).1 (a i).2)) i) (l2 := vcells (PV (a i).1 (a i).2)) ((ho.keep (n' := n' + 7) (fun _ _ _ => rfl) (by omega)).upd (by omega) (by omega)) (src_mk (upd_same _ _ _) rfl rfl) (by omega) (by omega) (by rw [hfi, lenPV _ _]; omega) (by decide) (by omega) rfl ?_
      intro v2 H2 o2 hA2
      rw [← flat_succ (fun i => vcells (PV (a i).1 (a i).2))] at o2
      refine wk0 ?_
      refine AGo_le ?_ (hS (i + 1, v2) _ _ ⟨by simp only; omega, by omega, o2.keep (fun _ _ _ => rfl) (by omega), fun j hj => ?_⟩ (by simp only; omega))
      · simp only [subs_nil, subs_if, lk_if, lk_nil, dropR_nil, dropR_cons, Nat.reduceLT, List.cons_append, List.nil_append, List.elem_nil, List.elem_cons, Nat.reduceBEq, beq_self_eq_true, Bool.true_or, Bool.false_or, Bool.or_true, Bool.or_false, Bool.false_eq_true, ↓reduceIte, if_true, if_false, Nat.reduceEqDiff, and_self, and_true, true_and, eq_self]
      rw [hA2 _ (by omega), upd_ne _ _ (by omega)]; exact fA j hj
    · have him : i = m := by omega
      subst him
      refine AGo_turn ?_
      refine wk1 @hlt ?_
      refine AGo_markL ?_ (hK (i, w) _ _ ⟨by omega, ho.keep (fun _ _ _ => rfl) (by omega), fA⟩)
      · simp only [subs_nil, subs_if, lk_if, lk_nil, dropR_nil, dropR_cons, Nat.reduceLT, List.cons_append, List.nil_append, List.elem_nil, List.elem_cons, Nat.reduceBEq, beq_self_eq_true, Bool.true_or, Bool.false_or, Bool.or_true, Bool.or_false, Bool.false_eq_true, ↓reduceIte, if_true, if_false, Nat.reduceEqDiff, and_self, and_true, true_and, eq_self]
  clear o0 kA hG
  rintro ⟨i, w⟩ H1 n1 ⟨hn1, ho, fA⟩
  simp only at ho
  simp only [List.cons_append, List.nil_append, dropR_nil, dropR_cons, Nat.reduceLT, ↓reduceIte]
  refine wk0 ?_
  rw [← mark8_eq]
  refine AGo_push (n1 := n1 + 4) (nb := n) (l := flat (fun i => vcells (PV (a i).1 (a i).2)) m) (l2 := mark8) ((ho.keep (n' := n1 + 3) (fun _ _ _ => rfl) (by omega)).upd (by omega) (by omega)) (src_mk (upd_same _ _ _) rfl rfl) (by omega) (by omega) (by rw [hfl m, show mark8.length = 8 from rfl]; omega) (by decide) (by omega) rfl ?_
  intro v2 H2 o2 hA2
  obtain ⟨⟨b2, k2, cp2, rest2, rfl, hb2, hB2, hl2, -, hk2, -⟩, hbn2⟩ := o2
  replace hbn2 := hbn2 _ _ _ rfl
  have hk : k2 = m + 1 := by
    have h3 : (flat (fun i => vcells (PV (a i).1 (a i).2)) m ++ mark8).length = k2 * 8 := hl2
    rw [List.length_append, hfl m, show mark8.length = 8 from rfl] at h3; omega
  subst hk
  have e1 : m ≤ cp2 := by omega
  have e2 : ¬ cp2 = 0 := by omega
  refine wk5 rI @e1 @e2 @ite_addr @Nat.sub_zero ?_
  refine ⟨_, rfl, ⟨b2, cp2, rest2, rfl, hb2, by omega, by omega, by omega, ?_⟩, fun j hj => ?_⟩
  · rw [← List.append_assoc]; exact hB2
  · rw [hA2 _ (by omega), upd_ne _ _ (by omega)]; exact fA j hj
theorem tw_Proofs (m : Nat) (a : Nat → U × U) (v : Value) (H : Heap) (n : Nat) (hv : KeysA n H v m a) (hm : m ≤ 100) : ACall Tryz.prog 15 [v] H n (Twins n H m 8 (fun i => vcells (PV (a i).1 (a i).2)) mark8 42) := by
  refine acall_ofF mix Tryz.func15 ok15 (fun _ _ => Tryz.call15 _ _) rfl ?_
  obtain ⟨sa, cap, rfl, hmc, hm60, hv⟩ := hv
  have q1 : ((((0 : Nat) : Int) ≤ ((m + 1 : Nat) : Int)) ∧ ((m + 1 : Nat) : Int) < 2 ^ 62 ∧ ((64 : Nat) : Int) * ((m + 1 : Nat) : Int) ≤ 2 ^ 48) = True := by
    apply propext; refine ⟨fun _ => trivial, fun _ => ⟨by omega, by omega, by omega⟩⟩
  have q2 : (((m + 1 : Nat) : Int) < 2 ^ 62 ∧ ((64 : Nat) : Int) * ((m + 1 : Nat) : Int) ≤ 2 ^ 48) = True := by
    apply propext; refine ⟨fun _ => trivial, fun _ => ⟨by omega, by omega⟩⟩
  have hfl := fun k => flat_length (c := fun i => vcells (PV (a i).1 (a i).2)) (esz := 8) (fun i => lenPV _ _) k
  refine wk4 @c15.eq_1 @q1 @q2 @Nat.zero_le ?_
  have o0 := own_none n (n + 6) (n + 4) H 42 8 (m + 1) [.int .u64 ((0 : Nat) : Int), .int .u64 ((0 : Nat) : Int), .int .u64 ((0 : Nat) : Int), .int .u64 ((0 : Nat) : Int), .int .u64 ((0 : Nat) : Int), .int .u64 ((0 : Nat) : Int), .int .u64 ((0 : Nat) : Int), .int .u64 ((0 : Nat) : Int)] rfl (by omega) (by omega) (by omega)
  generalize hG : upd H (n + 4) _ = K at o0
  have kA : Agree n H K := by rw [← hG]; exact agr
  refine AGo_cycleD (α := (Nat × Value)) 9 30 (fun x => [(4, .int .i64 (x.1 : Nat)), (3, x.2)]) (fun x H' n' => x.1 ≤ m ∧ n ≤ n' ∧ OwnB n n' H' x.2 (flat (fun i => vcells (PV (a i).1 (a i).2)) x.1) 42 8 ∧ Agree n H H') (fun x H' n' => n ≤ n' ∧ OwnB n n' H' x.2 (flat (fun i => vcells (PV (a i).1 (a i).2)) m) 42 8 ∧ Agree n H H') (fun x => m - x.1) ((0, .slice (some ⟨n + 4, 0, none⟩) 0 (m + 1))) ?_ (by simp only [subs_nil, subs_if, lk_if, lk_nil, dropR_nil, dropR_cons, Nat.reduceLT, List.cons_append, List.nil_append, List.elem_nil, List.elem_cons, Nat.reduceBEq, beq_self_eq_true, Bool.true_or, Bool.false_or, Bool.or_true, Bool.or_false, Bool.false_eq_true, ↓reduceIte, if_true, if_false, Nat.reduceEqDiff, and_self, and_true, true_and, eq_self]) ?_ ?_
  · exact ⟨Nat.zero_le _, by omega, o0.keep (fun _ _ _ => rfl) (by omega), kA⟩
  · clear o0 kA hG
    rintro ⟨i, w⟩ H' n' kk ⟨hi, hn, ho, fA⟩ hK hS
    simp only at hi ho
    simp only [List.cons_append, List.nil_append, dropR_nil, dropR_cons, Nat.reduceLT, ↓reduceIte]
    by_cases hlt : i < m
    · rcases hv with h | ⟨b, off, cs, e, fz, rfl, hb, hB, hcs⟩
      · omega
      obtain ⟨c1, c2⟩ := hcs i hlt
      have hB' : H' b = some (.cells cs e fz) := (fA b hb).trans hB
      have hfi := hfl i
      refine AGo_turn ?_
      refine wk10 rN rG rP @PV_zero rI @hlt @hB' @c1 @c2 @agg_vPV ?_
      refine AGo_push (n1 := n' + 8) (nb := n) (l := flat (fun i => vcells (PV (a i).1 (a i).2)) i) (l2 := vcells (PV (a i).1 (a i).2)) ((ho.keep (n' := n' + 7) (fun _ _ _ => rfl) (by omega)).upd (by omega) (by omega)) (src_mk (upd_same _ _ _) rfl rfl) (by omega) (by omega) (by rw [hfi, lenPV _ _]; omega) (by decide) (by omega) rfl ?_
      intro v2 H2 o2 hA2
      rw [← flat_succ (fun i => vcells (PV (a i).1 (a i).2))] at o2
      refine wk0 ?_
      refine AGo_le ?_ (hS (i + 1, v2) _ _ ⟨by simp only; omega, by omega, o2.keep (fun _ _ _ => rfl) (by omega), fun j hj => ?_⟩ (by simp only; omega))
      · simp only [subs_nil, subs_if, lk_if, lk_nil, dropR_nil, dropR_cons, Nat.reduceLT, List.cons_append, List.nil_append, List.elem_nil, List.elem_cons, Nat.reduceBEq, beq_self_eq_true, Bool.true_or, Bool.false_or, Bool.or_true, Bool.or_false, Bool.false_eq_true, ↓reduceIte, if_true, if_false, Nat.reduceEqDiff, and_self, and_true, true_and, eq_self]
      rw [hA2 _ (by omega), upd_ne _ _ (by omega)]; exact fA j hj
    · have him : i = m := by omega
      subst him
      refine AGo_turn ?_
      refine wk1 @hlt ?_
      refine AGo_markL ?_ (hK (i, w) _ _ ⟨by omega, ho.keep (fun _ _ _ => rfl) (by omega), fA⟩)
      · simp only [subs_nil, subs_if, lk_if, lk_nil, dropR_nil, dropR_cons, Nat.reduceLT, List.cons_append, List.nil_append, List.elem_nil, List.elem_cons, Nat.reduceBEq, beq_self_eq_true, Bool.true_or, Bool.false_or, Bool.or_true, Bool.or_false, Bool.false_eq_true, ↓reduceIte, if_true, if_false, Nat.reduceEqDiff, and_self, and_true, true_and, eq_self]
  clear o0 kA hG
  rintro ⟨i, w⟩ H1 n1 ⟨hn1, ho, fA⟩
  simp only at ho
  simp only [List.cons_append, List.nil_append, dropR_nil, dropR_cons, Nat.reduceLT, ↓reduceIte]
  refine wk0 ?_
  rw [← mark8_eq]
  refine AGo_push (n1 := n1 + 4) (nb := n) (l := flat (fun i => vcells (PV (a i).1 (a i).2)) m) (l2 := mark8) ((ho.keep (n' := n1 + 3) (fun _ _ _ => rfl) (by omega)).upd (by omega) (by omega)) (src_mk (upd_same _ _ _) rfl rfl) (by omega) (by omega) (by rw [hfl m, show mark8.length = 8 from rfl]; omega) (by decide) (by omega) rfl ?_
  intro v2 H2 o2 hA2
  obtain ⟨⟨b2, k2, cp2, rest2, rfl, hb2, hB2, hl2, -, hk2, -⟩, hbn2⟩ := o2
  replace hbn2 := hbn2 _ _ _ rfl
  have hk : k2 = m + 1 := by
    have h3 : (flat (fun i => vcells (PV (a i).1 (a i).2)) m ++ mark8).length = k2 * 8 := hl2
    rw [List.length_append, hfl m, show mark8.length = 8 from rfl] at h3; omega
  subst hk
  have e1 : m ≤ cp2 := by omega
  have e2 : ¬ cp2 = 0 := by omega
  refine wk5 rI @e1 @e2 @ite_addr @Nat.sub_zero ?_
  refine ⟨_, rfl, ⟨b2, cp2, rest2, rfl, hb2, by omega, by omega, by omega, ?_⟩, fun j hj => ?_⟩
  · rw [← List.append_assoc]; exact hB2
  · rw [hA2 _ (by omega), upd_ne _ _ (by omega)]; exact fA j hj
end Go.Proofs.YtcjchcommaahdaaGreat

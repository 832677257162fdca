/- Layer 3: the greatest common divisor; what is left of a wide number. slices.Grow of nothing. slices.Concat of two. Iterators: slices.Backward of words, pairs of numbers. Layer 3: what is left of a number of twice as many words. Layer 3: what is left of a number of twice as many words, bit by bit. No conditions. -/
import Derived.WalkKit
import Derived.Lib.Walk
import Derived.Lib.SliceRun
import Derived.Lib.AppendZerosOnto
import Derived.Test.YtcjchcommaahdaaGreatQ12
import Derived.Test.YtcjchcommaahdaaGreatQ15
set_option maxRecDepth 20000
set_option maxHeartbeats 4000000
set_option linter.all false
namespace Go.Proofs.YtcjchcommaahdaaGreat
open Go.Ab

theorem div_any (a b : Nat) (ha : a < BB) (hb : b < BB) (hb0 : b ≠ 0) (H : Heap) (n : Nat) : ACall Tryz.prog 89 [N a, N b] H n (Ret (.tuple #[N (a / b), N (a % b), .int .i64 (0 : Nat)]) H n) := by
  by_cases h : b < B
  · exact div_one a b ha hb0 h H n
  · exact div_long a b ha hb h H n

theorem div_Common (a b : Nat) (ha : a < BB) (hb : b < BB) (H : Heap) (n : Nat) : ACall Tryz.prog 88 [N a, N b] H n (Ret (N (Nat.gcd a b)) H n) := by
  refine acall_retF mix lw Tryz.func88 ok88 (fun _ _ => Tryz.call88 _ _) rfl ?_
  have bbp := BB_pos
  refine wk2 @c88.eq_1 rN ?_
  refine AGo_cycleD (α := Nat × Nat) 5 20 (fun _ => []) (fun x H' n' => x.1 < BB ∧ x.2 < BB ∧ Nat.gcd x.1 x.2 = Nat.gcd a b ∧ n + 3 ≤ n' ∧ Agree n H H' ∧ H' n = some (.cells (vcells (N x.1)) 24 (0, 0)) ∧ H' (n + 1) = some (.cells (vcells (N x.2)) 24 (0, 0)) ∧ H' (n + 2) = some (.cells (vcells (N 0)) 24 (0, 0))) (fun _ H' n' => n + 3 ≤ n' ∧ Agree n H H' ∧ H' n = some (.cells (vcells (N (Nat.gcd a b))) 24 (0, 0)) ∧ H' (n + 2) = some (.cells (vcells (N 0)) 24 (0, 0))) (fun x => x.2) ((a, b)) ?_ (by simp only [subs_nil, subs_if, lk_if, lk_nil, dropR_nil, dropR_cons, Nat.reduceLT, List.cons_append, List.nil_append, List.elem_nil, List.elem_cons, Nat.reduceBEq, beq_self_eq_true, Bool.true_or, Bool.false_or, Bool.or_true, Bool.or_false, Bool.false_eq_true, ↓reduceIte, if_true, if_false, Nat.reduceEqDiff, and_self, and_true, true_and, eq_self]) ?_ ?_
  · refine ⟨ha, hb, rfl, by omega, agr, ?_, ?_, ?_⟩ <;> (simp (disch := first | assumption | omega) only [upd_same, upd_neq, vcells_N, w_zero])
  · rintro ⟨x, y⟩ H' n' kk ⟨hx, hy, hg, hn, hA, f0, f1, f2⟩ hK hS
    dsimp only at hx hy hg f0 f1
    simp only [List.cons_append, List.nil_append, dropR_nil, dropR_cons, Nat.reduceLT, ↓reduceIte]
    simp only [vcells_N] at f0 f1 f2
    by_cases h0 : y = 0
    · subst h0
      rw [Nat.gcd_zero_right] at hg
      subst hg
      refine AGo_turn ?_
      refine wk5 rN @f0 @f1 @f2 @w_zero ?_
      refine AGo_markL ?_ (hK (Nat.gcd a b, 0) _ _ ⟨by omega, agr, ?_, ?_⟩)
      · simp only [subs_nil, subs_if, lk_if, lk_nil, dropR_nil, dropR_cons, Nat.reduceLT, List.cons_append, List.nil_append, List.elem_nil, List.elem_cons, Nat.reduceBEq, beq_self_eq_true, Bool.true_or, Bool.false_or, Bool.or_true, Bool.or_false, Bool.false_eq_true, ↓reduceIte, if_true, if_false, Nat.reduceEqDiff, and_self, and_true, true_and, eq_self]
      · exact up1 @f0
      · exact up1 @f2
    · refine AGo_turn ?_
      refine wk5 rN @f0 @f1 @f2 @h0 ?_
      have hlt := Nat.mod_lt x (show 0 < y by omega)
      refine AGo_askV (div_any x y hx hy h0 _ _) ?_
      refine wk4 rN @f0 @f1 @f2 ?_
      refine AGo_le ?_ (hS (y, x % y) _ _ ⟨hy, by show x % y < BB; omega, ?_, by omega, agr, ?_, ?_, ?_⟩ (by show x % y < y; omega))
      · simp only [subs_nil, subs_if, lk_if, lk_nil, dropR_nil, dropR_cons, Nat.reduceLT, List.cons_append, List.nil_append, List.elem_nil, List.elem_cons, Nat.reduceBEq, beq_self_eq_true, Bool.true_or, Bool.false_or, Bool.or_true, Bool.or_false, Bool.false_eq_true, ↓reduceIte, if_true, if_false, Nat.reduceEqDiff, and_self, and_true, true_and, eq_self]
      · dsimp only; rw [← hg, Nat.gcd_comm x y, Nat.gcd_rec y x, Nat.gcd_comm]
      · exact up0
      · exact up0
      · exact up1 @f2
  rintro ⟨x, y⟩ H' n' ⟨hn, hA, f0, f2⟩
  simp only [List.cons_append, List.nil_append, dropR_nil, dropR_cons, Nat.reduceLT, ↓reduceIte]
  simp only [vcells_N] at f0 f2
  refine wk3 rN @f0 @f2 ?_
  exact ⟨rfl, agr⟩
end Go.Proofs.YtcjchcommaahdaaGreat
namespace Go.Proofs.YtcjchcommaahdaaGreat
open Go.RowKit Go.Lib

set_option maxHeartbeats 2000000 in
set_option maxRecDepth 100000 in
theorem grow64_calls (n : Nat) (h0 : 0 < n) (hn : n ≤ 1000000) (w : World) : Calls Tryz.prog 158 #[.slice none 0 0, .int .i64 n] w fun e w' =>
    e = .returned (.slice (some ⟨w.heap.size, 0, none⟩) 0 (grownCap w (0 + n) 0 22)) ∧
      w' = w.drew.alloc (.cells (#[] ++ Builtin.zeroCells #[.int .u64 0] n ++ Builtin.zeroCells #[.int .u64 0] (grownCap w (0 + n) 0 22 - (0 + n))) 22) := by
  have h1 : ¬ ((n : Int) < 0) := by omega
  have h2 : wrap64 (((0 : Nat) : Int) - ((0 : Nat) : Int)) = 0 := by unfold wrap64; omega
  have h3 : wrap64 ((n : Int) - 0) = (n : Int) := by unfold wrap64; omega
  have h4 : (n : Int) > 0 := by omega
  go_enter Tryz.func158, Tryz.ntmps158
  go_wp2
  all_goals first
    | (go_ret; exact ⟨rfl, rfl⟩) | (go_ret; exact ⟨by simp [grownCap], by simp [grownCap]⟩)
    | (exfalso; have hb : Tryz.t22.bytes = 8 := (by kernel_rfl); have hnc : Builtin.nextslicecap n 0 = n := (by unfold Builtin.nextslicecap; rw [if_pos (by omega)]); simp only [hnc, hb] at *; omega)
set_option maxHeartbeats 2000000 in
set_option maxRecDepth 100000 in
theorem grow8_calls (n : Nat) (h0 : 0 < n) (hn : n ≤ 1000000) (w : World) : Calls Tryz.prog 140 #[.slice none 0 0, .int .i64 n] w fun e w' =>
    e = .returned (.slice (some ⟨w.heap.size, 0, none⟩) 0 (grownCap w (0 + n) 0 5)) ∧
      w' = w.drew.alloc (.cells (#[] ++ Builtin.zeroCells #[.int .u8 0] n ++ Builtin.zeroCells #[.int .u8 0] (grownCap w (0 + n) 0 5 - (0 + n))) 5) := by
  have h1 : ¬ ((n : Int) < 0) := by omega
  have h2 : wrap64 (((0 : Nat) : Int) - ((0 : Nat) : Int)) = 0 := by unfold wrap64; omega
  have h3 : wrap64 ((n : Int) - 0) = (n : Int) := by unfold wrap64; omega
  have h4 : (n : Int) > 0 := by omega
  go_enter Tryz.func140, Tryz.ntmps140
  go_wp2
  all_goals first
    | (go_ret; exact ⟨rfl, rfl⟩) | (go_ret; exact ⟨by simp [grownCap], by simp [grownCap]⟩)
    | (exfalso; have hb : Tryz.t5.bytes = 1 := (by kernel_rfl); have hnc : Builtin.nextslicecap n 0 = n := (by unfold Builtin.nextslicecap; rw [if_pos (by omega)]); simp only [hnc, hb] at *; omega)

theorem acall_grow {f : FuncId} {t : TypeId} {k : IntKind} (he : ∀ (args : Array Value) (w : World), (callFunc f args).run Tryz.prog w = .ok (.enter f args) w) (m : Nat)
    (hc : ∀ w, Calls Tryz.prog f #[.slice none 0 0, .int .i64 m] w fun e w' =>
      e = .returned (.slice (some ⟨w.heap.size, 0, none⟩) 0 (grownCap w (0 + m) 0 t)) ∧
      w' = w.drew.alloc (.cells (#[] ++ Builtin.zeroCells #[.int k 0] m ++ Builtin.zeroCells #[.int k 0] (grownCap w (0 + m) 0 t - (0 + m))) t)) (hm : m < 2 ^ 62) (H : Ab.Heap) (n : Nat) :
    Ab.ACall Tryz.prog f [.slice none 0 0, .int .i64 m] H n (fun e H' n' => ∃ cap, m ≤ cap ∧ cap < 2 ^ 63 ∧ e = .returned (.slice (some ⟨n, 0, none⟩) 0 cap) ∧ H' = Ab.upd H n (.cells (List.replicate cap (.int k ((0 : Nat) : Int))) t (0, 0)) ∧ n' = n + 1) := by
  intro hC ρ w args' hH hF ha
  have ha' : args' = [.slice none 0 0, .int .i64 m] := by simpa [Ab.LRel, Ab.VRel] using ha
  subst ha'
  rw [he]
  refine (hc w).mono ?_
  rintro e w' ⟨rfl, rfl⟩
  generalize hcap : grownCap w (0 + m) 0 t = cap
  have hge : m ≤ cap := by rw [← hcap]; unfold grownCap; simp [Question.cut]
  have hlt : cap < 2 ^ 63 := by
    rw [← hcap]; unfold grownCap; simp only [Question.cut]
    have := Nat.mod_lt (w.tape w.drawn (.appendCap (0 + m) 0 t)) (show 0 < 2 ^ 63 - (0 + m) by omega)
    omega
  have hρ : ρ n = none := by
    cases h : ρ n with
    | none => rfl
    | some c => have := hF _ _ h; omega
  refine ⟨.returned (.slice (some ⟨n, 0, none⟩) 0 cap), ρ.put n w.heap.size, _, n + 1, ⟨_, rfl, by simp [Ab.VRel, Ab.Ren.put]⟩, ⟨cap, hge, hlt, rfl, rfl, rfl⟩, ?_, ?_, ?_, by omega, ?_⟩
  · refine Ab.HRel.alloc (w := w.drew) (hH.drawn (w.drawn + 1)) hρ ⟨_, rfl, ?_⟩
    rw [Ab.zeroCells_eq _ 1 _ rfl (by decide), Ab.zeroCells_eq _ 1 _ rfl (by decide)]
    have e : ∀ j, Ab.zeros #[Value.int k 0].toList j = List.replicate j (.int k 0) := by
      intro j; simp [Ab.zeros, List.flatten_replicate_singleton]
    simp only [e, Array.toList_append, List.nil_append, List.replicate_append_replicate]
    rw [show m + (cap - (0 + m)) = cap by omega]
    exact Ab.LRel.replicate (by simp [Ab.VRel]) cap
  · intro i c hi
    unfold Ab.Ren.put at hi
    split at hi
    · omega
    · have := hF i c hi; omega
  · exact Ab.clean_upd (fun i hi => hC i (by omega)) (by omega)
  · exact (Ab.Ext.drawn n ρ w (w.drawn + 1)).trans (Ab.Ext.alloc (w := w.drew) hρ (Nat.le_refl _) _) (Nat.le_refl _)
theorem grow64 (m : Nat) (h0 : 0 < m) (hm : m ≤ 1000000) (H : Ab.Heap) (n : Nat) : Ab.ACall Tryz.prog 158 [.slice none 0 0, .int .i64 (m : Nat)] H n (fun e H' n' => ∃ cap, m ≤ cap ∧ cap < 2 ^ 63 ∧ e = .returned (.slice (some ⟨n, 0, none⟩) 0 cap) ∧ H' = Ab.upd H n (.cells (List.replicate cap (.int .u64 ((0 : Nat) : Int))) 22 (0, 0)) ∧ n' = n + 1) := acall_grow (fun _ _ => Tryz.call158 _ _) m (fun w => grow64_calls m h0 hm w) (by omega) H n
theorem grow8 (m : Nat) (h0 : 0 < m) (hm : m ≤ 1000000) (H : Ab.Heap) (n : Nat) : Ab.ACall Tryz.prog 140 [.slice none 0 0, .int .i64 (m : Nat)] H n (fun e H' n' => ∃ cap, m ≤ cap ∧ cap < 2 ^ 63 ∧ e = .returned (.slice (some ⟨n, 0, none⟩) 0 cap) ∧ H' = Ab.upd H n (.cells (List.replicate cap (.int .u8 ((0 : Nat) : Int))) 5 (0, 0)) ∧ n' = n + 1) := acall_grow (fun _ _ => Tryz.call140 _ _) m (fun w => grow8_calls m h0 hm w) (by omega) H n
end Go.Proofs.YtcjchcommaahdaaGreat
namespace Go.Proofs.YtcjchcommaahdaaGreat
open Go.Ab

theorem grow64M (m : Nat) (h0 : 0 < m) (hm : m ≤ 1000000) (H : Heap) (n : Nat) : ACall Tryz.prog 158 [.slice none 0 0, .int .i64 (m : Nat)] H n (Makes n H [] 22 1) := by
  refine (grow64 m h0 hm H n).mono ?_
  rintro e H' n' ⟨cap, h1, h2, rfl, rfl, rfl⟩ _ _
  exact ⟨_, rfl, ⟨n, 0, cap, _, rfl, Nat.le_refl _, upd_same _ _ _, rfl, by simp, Nat.zero_le _, h2⟩, Agree.upd (Agree.refl _ _) (Nat.le_refl _)⟩
theorem concat64 (H : Heap) (n : Nat) (bp : Nat) (s1 s2 : Value) (l1 l2 : List Value) (t : TypeId) (fz : Nat × Nat) (hbp : bp < n) (hH : H bp = some (.cells [s1, s2] t fz)) (h1 : SrcA n H s1 l1 1) (h2 : SrcA n H s2 l2 1) (h0 : 0 < l1.length) (hm : l1.length + l2.length ≤ 1000000) : ACall Tryz.prog 142 [.slice (some ⟨bp, 0, none⟩) 2 2] H n (Makes n H (l1 ++ l2) 22 1) := by
  refine acall_ofF mix Tryz.func142 ok142 (fun _ _ => Tryz.call142 _ _) rfl ?_
  have h1' := h1; have h2' := h2
  obtain ⟨a1, m1, c1, rfl, hl1, -, -⟩ := h1.here
  obtain ⟨a2, m2, c2, rfl, hl2, -, -⟩ := h2.here
  refine wk2 @c142.eq_1 @hH ?_
  refine AGo_turn ?_
  refine wk2 @hH @Nat.not_lt_zero ?_
  refine AGo_turn ?_
  refine wk2 @hH @Nat.not_lt_zero ?_
  refine AGo_turn ?_
  refine wk2 @hH @Nat.not_lt_zero ?_
  refine AGo_makeV (grow64M (m1 + m2) (by omega) (by omega) _ _) ?_
  intro v H1 n1 ho hA hn
  have hA1 : Agree n H H1 := fun i hi => hA i (by omega)
  have hH1 : H1 bp = some (.cells [.slice a1 m1 c1, .slice a2 m2 c2] t fz) := by rw [hA1 bp hbp]; exact hH
  refine wk1 @hH1 ?_
  refine AGo_turn ?_
  refine wk1 @hH1 ?_
  refine AGo_appOwn (ho.weaken (by omega)) (h1' H1 hA1) (nb := n) (by omega) (by simp; omega) (by simp) (by omega) rfl ?_
  intro v2 H2 ho2 hA2
  have hH2 : H2 bp = some (.cells [.slice a1 m1 c1, .slice a2 m2 c2] t fz) := by rw [hA2 bp hbp]; exact hH1
  have hA2' : Agree n H H2 := fun i hi => (hA2 i hi).trans (hA1 i hi)
  refine wk1 @hH2 ?_
  refine AGo_turn ?_
  refine wk1 @hH2 ?_
  refine AGo_appOwn ho2 (h2' H2 hA2') (by omega) (by simp; omega) (by simp) (by omega) rfl ?_
  intro v3 H3 ho3 hA3
  refine wk0 ?_
  refine AGo_turn ?_
  refine wk0 ?_
  exact Makes.of_agree ho3 (fun i hi => (hA3 i hi).trans (hA2' i hi))

theorem grow8M (m : Nat) (h0 : 0 < m) (hm : m ≤ 1000000) (H : Heap) (n : Nat) : ACall Tryz.prog 140 [.slice none 0 0, .int .i64 (m : Nat)] H n (Makes n H [] 5 1) := by
  refine (grow8 m h0 hm H n).mono ?_
  rintro e H' n' ⟨cap, h1, h2, rfl, rfl, rfl⟩ _ _
  exact ⟨_, rfl, ⟨n, 0, cap, _, rfl, Nat.le_refl _, upd_same _ _ _, rfl, by simp, Nat.zero_le _, h2⟩, Agree.upd (Agree.refl _ _) (Nat.le_refl _)⟩
theorem concat8 (H : Heap) (n : Nat) (bp : Nat) (s1 s2 : Value) (l1 l2 : List Value) (t : TypeId) (fz : Nat × Nat) (hbp : bp < n) (hH : H bp = some (.cells [s1, s2] t fz)) (h1 : SrcA n H s1 l1 1) (h2 : SrcA n H s2 l2 1) (h0 : 0 < l1.length) (hm : l1.length + l2.length ≤ 1000000) : ACall Tryz.prog 103 [.slice (some ⟨bp, 0, none⟩) 2 2] H n (Makes n H (l1 ++ l2) 5 1) := by
  refine acall_ofF mix Tryz.func103 ok103 (fun _ _ => Tryz.call103 _ _) rfl ?_
  have h1' := h1; have h2' := h2
  obtain ⟨a1, m1, c1, rfl, hl1, -, -⟩ := h1.here
  obtain ⟨a2, m2, c2, rfl, hl2, -, -⟩ := h2.here
  refine wk2 @c103.eq_1 @hH ?_
  refine AGo_turn ?_
  refine wk2 @hH @Nat.not_lt_zero ?_
  refine AGo_turn ?_
  refine wk2 @hH @Nat.not_lt_zero ?_
  refine AGo_turn ?_
  refine wk2 @hH @Nat.not_lt_zero ?_
  refine AGo_makeV (grow8M (m1 + m2) (by omega) (by omega) _ _) ?_
  intro v H1 n1 ho hA hn
  have hA1 : Agree n H H1 := fun i hi => hA i (by omega)
  have hH1 : H1 bp = some (.cells [.slice a1 m1 c1, .slice a2 m2 c2] t fz) := by rw [hA1 bp hbp]; exact hH
  refine wk1 @hH1 ?_
  refine AGo_turn ?_
  refine wk1 @hH1 ?_
  refine AGo_appOwn (ho.weaken (by omega)) (h1' H1 hA1) (nb := n) (by omega) (by simp; omega) (by simp) (by omega) rfl ?_
  intro v2 H2 ho2 hA2
  have hH2 : H2 bp = some (.cells [.slice a1 m1 c1, .slice a2 m2 c2] t fz) := by rw [hA2 bp hbp]; exact hH1
  have hA2' : Agree n H H2 := fun i hi => (hA2 i hi).trans (hA1 i hi)
  refine wk1 @hH2 ?_
  refine AGo_turn ?_
  refine wk1 @hH2 ?_
  refine AGo_appOwn ho2 (h2' H2 hA2') (by omega) (by simp; omega) (by simp) (by omega) rfl ?_
  intro v3 H3 ho3 hA3
  refine wk0 ?_
  refine AGo_turn ?_
  refine wk0 ?_
  exact Makes.of_agree ho3 (fun i hi => (hA3 i hi).trans (hA2' i hi))
end Go.Proofs.YtcjchcommaahdaaGreat
namespace Go.Proofs.YtcjchcommaahdaaGreat
open Go.Ab

theorem AGo_callP {P : Program} {res : ALeave} {k : List AItem} {tm : List Value} {H : Heap} {n n0 : Nat} {d : Bool} {R : Post} {dst : Option Nat} {f : Opd} {args ap : List Opd} {ops : List AOper} {av : List Value} {g : FuncId} {first cap : Array Value}
    (Q : Post) (hc : ACall P g (first.toList ++ av ++ cap.toList) H n Q) (hd : d = true → ∀ e H' n', Q e H' n' → ∀ i, i < n → H' i = H i)
    (h : ∀ e H' n', Q e H' n' → n ≤ n' → ∃ v, e = .returned v ∧ AGo P res (.inReg n0 d ops :: k) (put tm dst v) H' n' R) : CallV P res n0 d dst f args ap ops k tm H n R (.func (.func g) first cap) av := by
  rintro hf rfl
  refine .call Q rfl rfl hf hc ?_ ?_ ?_
  · intro v H' n' hq _ hdt; exact ⟨fun i _ hi => hd hdt _ _ _ hq i hi, fun _ _ b _ _ hb => hd hdt _ _ _ hq b hb⟩
  · intro v H' n' hq hn; obtain ⟨v', h1, h2⟩ := h _ _ _ hq hn; cases h1; exact h2
  · intro c H' n' hq hn; obtain ⟨v', h1, h2⟩ := h _ _ _ hq hn; cases h1
theorem AGo_makeC {P : Program} {res : ALeave} {k : List AItem} {tm : List Value} {H : Heap} {n n0 : Nat} {d : Bool} {R : Post} {dst : Option Nat} {f : Opd} {args ap : List Opd} {ops : List AOper} {av : List Value} {g : FuncId} {first cap : Array Value}
    {l : List Value} {e : TypeId} {esz : Nat} (hc : ACall P g (first.toList ++ av ++ cap.toList) H n (Makes n H l e esz))
    (h : ∀ v H' n', Own n H' v l e esz → Agree n H H' → Ab.Clean H' n' → n ≤ n' → AGo P res (.inReg n0 d ops :: k) (put tm dst v) H' n' R) : CallV P res n0 d dst f args ap ops k tm H n R (.func (.func g) first cap) av :=
  AGo_callQV (fun v H' n' => Own n H' v l e esz ∧ Agree n H H' ∧ Ab.Clean H' n') (hc.mono fun e H' n' ⟨v, h1, h2, h3⟩ hC _ => ⟨v, h1, h2, h3, hC⟩) (fun _ v H' _ hq i hi => hq.2.1 i hi) (fun v H' n' hq hn => h v H' n' hq.1 hq.2.1 hq.2.2 hn)
theorem cleanLt {H : Heap} {n b : Nat} {o : AObj} (hC : Ab.Clean H n) (h : H b = some o) : b < n := by
  rcases Nat.lt_or_ge b n with h1 | h1
  · exact h1
  · rw [hC b h1] at h; cases h
/-- What makes an iterator over a list in a box of its own. -/
def Boxes1 (g : FuncId) (e : TypeId) (s : Value) (n : Nat) (H : Heap) : Post := fun r H' n' => ∃ b, r = .returned (.func (.func g) #[] #[.pointer (some ⟨b, 0, none⟩)]) ∧ n ≤ b ∧ b < n' ∧ H' b = some (.cells [s] e (0, 0)) ∧ Agree n H H'
theorem backward64 (sa : Option Addr) (m c : Nat) (H : Heap) (n : Nat) : ACall Tryz.prog 143 [.slice sa m c] H n (Boxes1 159 94 (.slice sa m c) n H) := by
  refine acall_ofF mix Tryz.func143 ok143 (fun _ _ => Tryz.call143 _ _) rfl ?_
  refine wk1 @c143.eq_1 ?_
  exact ⟨n, rfl, Nat.le_refl _, by omega, upd_same _ _ _, Agree.upd (Agree.refl _ _) (Nat.le_refl _)⟩

theorem geq_neg {a : Int} (h : a < 0) : binInt .geq .i64 a .i64 ((0 : Nat) : Int) = some (.bool false) := by
  simp only [binInt, if_pos]; congr 2; simpa using h
theorem sub_one (a : Int) (h1 : -1 ≤ a - 1) (h2 : a < 9223372036854775808) : binInt .sub .i64 a .i64 ((1 : Nat) : Int) = some (.int .i64 (a - 1)) := by
  simp only [binInt, if_pos]; congr 2
  simp only [IntKind.wrap, IntKind.bits, IntKind.signed]; simp; omega
theorem backward_iter (bp bs off N c : Nat) (cs : List Value) (e e2 : TypeId) (fz f2 : Nat × Nat) (lw : Nat → Nat) (hcs : ∀ k, k < N → cs[off + k]? = some (.int .u64 (lw k : Nat))) (hN : N < 2 ^ 62) (l : Nat) (J : Nat → Heap → Nat → Prop) (JX : AJump → Heap → Nat → Prop)
    (hK : ∀ i H' n', J i H' n' → H' bp = some (.cells [.slice (some ⟨bs, off, none⟩) N c] e2 f2) ∧ H' bs = some (.cells cs e fz)) (H : Heap) (n : Nat) :
    AIter Tryz.prog 159 [] [.pointer (some ⟨bp, 0, none⟩)] l (fun i => [.int .i64 ((N - 1 - i : Nat) : Nat), .int .u64 (lw (N - 1 - i) : Nat)]) N J JX H n := by
  intro hsJ hsX hy h0
  refine acall_ofF mix Tryz.func159 ok159 (fun _ _ => Tryz.call159 _ _) rfl ?_
  obtain ⟨k1, k2⟩ := hK 0 H n h0
  have hs0 : binInt .sub .i64 ((N : Nat) : Int) .i64 ((1 : Nat) : Int) = some (.int .i64 ((N : Int) - 1 - ((0 : Nat) : Int))) := by rw [sub_one _ (by omega) (by omega)]; simp
  refine wk3 @c159.eq_1 @k1 @hs0 ?_
  refine AGo_cycleD (α := Nat) 4 19 (fun k => [(3, .int .i64 ((N : Int) - 1 - (k : Nat)))]) (fun k H' n' => k ≤ N ∧ J k H' n') (fun k H' n' => J N H' n') (fun k => N - k) (0) ?_ (by simp only [subs_nil, subs_if, lk_if, lk_nil, dropR_nil, dropR_cons, Nat.reduceLT, List.cons_append, List.nil_append, List.elem_nil, List.elem_cons, Nat.reduceBEq, beq_self_eq_true, Bool.true_or, Bool.false_or, Bool.or_true, Bool.or_false, Bool.false_eq_true, ↓reduceIte, if_true, if_false, Nat.reduceEqDiff, and_self, and_true, true_and, eq_self]) ?_ ?_
  · exact ⟨Nat.zero_le _, hsJ _ _ _ _ _ h0 (fun _ _ => rfl) (by omega)⟩
  · rintro k H' n' kk ⟨hk, hj⟩ hK1 hS
    obtain ⟨k1, k2⟩ := hK k H' n' hj
    by_cases hlt : k < N
    · have hidx : (N : Int) - 1 - (k : Nat) = ((N - 1 - k : Nat) : Int) := by omega
      have hc := hcs (N - 1 - k) (by omega)
      have hs : binInt .sub .i64 ((N - 1 - k : Nat) : Int) .i64 ((1 : Nat) : Int) = some (.int .i64 ((N : Int) - 1 - ((k + 1 : Nat) : Int))) := by rw [sub_one _ (by omega) (by omega)]; congr 2; omega
      have hlt2 : N - 1 - k < N := by omega
      simp only [hidx, List.cons_append, List.nil_append, dropR_nil, dropR_cons, Nat.reduceLT, ↓reduceIte]
      refine AGo_turn ?_
      refine wk5 @k1 @k2 @hc @hlt2 @Nat.zero_le ?_
      refine AGo_yieldV (fun e H'' n'' => (e = .returned (.bool true) ∧ J (k + 1) H'' n'') ∨ (e = .returned (.bool false) ∧ ∃ j, JX j H'' n'')) ?_ ?_ ?_
      · exact hy k H' _ hlt (hsJ k H' n' H' _ hj (fun _ _ => rfl) (by omega))
      · intro h; cases h
      rintro v H2 n2 (⟨hv, hj2⟩ | ⟨hv, j, hx⟩) hn2
      · cases hv
        refine wk1 @hs ?_
        refine AGo_le ?_ (hS (k + 1) _ _ ⟨by omega, hsJ _ _ _ _ _ hj2 (fun _ _ => rfl) (by omega)⟩ (by omega))
        · simp only [subs_nil, subs_if, lk_if, lk_nil, dropR_nil, dropR_cons, Nat.reduceLT, List.cons_append, List.nil_append, List.elem_nil, List.elem_cons, Nat.reduceBEq, beq_self_eq_true, Bool.true_or, Bool.false_or, Bool.or_true, Bool.or_false, Bool.false_eq_true, ↓reduceIte, if_true, if_false, Nat.reduceEqDiff, and_self, and_true, true_and, eq_self]
      · cases hv
        refine wk0 ?_
        exact ⟨_, rfl, .inr ⟨j, hsX _ _ _ _ _ hx (fun _ _ => rfl) (by omega)⟩⟩
    · have hkN : k = N := by omega
      subst hkN
      have hneg := geq_neg (show ((k : Nat) : Int) - 1 - (k : Nat) < 0 by omega)
      simp only [List.cons_append, List.nil_append, dropR_nil, dropR_cons, Nat.reduceLT, ↓reduceIte]
      refine AGo_turn ?_
      refine wk1 @hneg ?_
      refine AGo_markL ?_ (hK1 k H' _ (hsJ k H' n' H' _ hj (fun _ _ => rfl) ?_))
      · simp only [subs_nil, subs_if, lk_if, lk_nil, dropR_nil, dropR_cons, Nat.reduceLT, List.cons_append, List.nil_append, List.elem_nil, List.elem_cons, Nat.reduceBEq, beq_self_eq_true, Bool.true_or, Bool.false_or, Bool.or_true, Bool.or_false, Bool.false_eq_true, ↓reduceIte, if_true, if_false, Nat.reduceEqDiff, and_self, and_true, true_and, eq_self]
      · omega
  intro k H' n' hj
  refine wk0 ?_
  exact ⟨_, rfl, .inl (hsJ _ _ _ _ _ hj (fun _ _ => rfl) (by omega))⟩
end Go.Proofs.YtcjchcommaahdaaGreat
namespace Go.Proofs.YtcjchcommaahdaaGreat
open Go.Ab

def lwK (lo hi k : Nat) : Nat := if k < 4 then wK lo k else wK hi (k - 4)
theorem lwK_lt (lo hi k : Nat) : lwK lo hi k < B := by unfold lwK; split <;> exact wK_lt _ _
theorem lwK_eq {lo hi k : Nat} (hl : lo < BB) : lwK lo hi k = (hi * BB + lo) / B ^ k % B := by
  have hB : ∀ j, B ^ j = 2 ^ (64 * j) := fun j => by rw [B_pow, ← Nat.pow_mul]
  have hBB : BB = B ^ 4 := by rw [BB_B]; simp [Nat.pow_succ]
  unfold lwK wK
  rw [hB]
  split
  · rename_i h
    rw [← hB, hBB, show (4 : Nat) = (4 - k) + k by omega, Nat.pow_add, ← Nat.mul_assoc, Nat.add_comm, Nat.add_mul_div_right _ _ (Nat.pow_pos B_pos), show 4 - k = (3 - k) + 1 by omega, Nat.pow_succ, ← Nat.mul_assoc, Nat.add_mul_mod_self_right]
  · rename_i h
    have e : B ^ k = BB * B ^ (k - 4) := by rw [hBB, ← Nat.pow_add]; congr 1; omega
    rw [← hB, ← hB, e, ← Nat.div_div_eq_div_mul, Nat.mul_comm hi, Nat.mul_add_div BB_pos, Nat.div_eq_of_lt hl, Nat.add_zero]
def rW (lo hi m i : Nat) : Nat := (hi * BB + lo) / B ^ (8 - i) % m
theorem rW_zero {lo hi m : Nat} (hl : lo < BB) (hh : hi < BB) : rW lo hi m 0 = 0 := by
  unfold rW
  have h8 : B ^ (8 - 0) = BB * BB := by rw [BB_B]; simp [Nat.pow_succ, Nat.mul_assoc]
  rw [h8, Nat.div_eq_of_lt, Nat.zero_mod]
  have := Nat.mul_le_mul_right BB (show hi + 1 ≤ BB from hh)
  rw [Nat.add_mul] at this; omega
theorem rW_all (lo hi m : Nat) : rW lo hi m 8 = (hi * BB + lo) % m := by unfold rW; simp
theorem rW_step {lo hi m i : Nat} (hl : lo < BB) (hi8 : i < 8) : rW lo hi m (i + 1) = (rW lo hi m i * B + lwK lo hi (7 - i)) % m := by
  rw [lwK_eq hl]
  unfold rW
  rw [show 8 - (i + 1) = 7 - i by omega, show 8 - i = (7 - i) + 1 by omega, Nat.pow_succ, ← Nat.div_div_eq_div_mul]
  generalize (hi * BB + lo) / B ^ (7 - i) = A
  conv => lhs; rw [← Nat.div_add_mod A B, Nat.mul_comm B]
  rw [Nat.add_mod, Nat.mul_mod, ← Nat.mod_mod (A / B) m, ← Nat.mul_mod, ← Nat.add_mod]
  simp
theorem lw_cells (lo hi k : Nat) (hk : k < 8) (rest : List Value) : ([Value.int .u64 (w0 lo : Nat), .int .u64 (w1 lo : Nat), .int .u64 (w2 lo : Nat), .int .u64 (w3 lo : Nat)] ++ [Value.int .u64 (w0 hi : Nat), .int .u64 (w1 hi : Nat), .int .u64 (w2 hi : Nat), .int .u64 (w3 hi : Nat)] ++ rest)[0 + k]? = some (.int .u64 (lwK lo hi k : Nat)) := by
  have hc : k = 0 ∨ k = 1 ∨ k = 2 ∨ k = 3 ∨ k = 4 ∨ k = 5 ∨ k = 6 ∨ k = 7 := by omega
  rcases hc with rfl | rfl | rfl | rfl | rfl | rfl | rfl | rfl <;> simp [lwK, wK0, wK1, wK2, wK3]

theorem wide_zero (lo hi : Nat) (hl : lo < BB) (hh : hi < BB) (H : Heap) (n : Nat) : ACall Tryz.prog 107 [N lo, N hi, N 0] H n (Ret (.tuple #[N 0, .int .i64 (1 : Nat)]) H n) := by
  refine acall_retF mix lw Tryz.func107 ok107 (fun _ _ => Tryz.call107 _ _) rfl ?_
  have bbp := BB_pos
  refine wk2 @c107.eq_1 rN ?_
  exact ⟨rfl, agr⟩
theorem wide_one (lo hi m : Nat) (hl : lo < BB) (hh : hi < BB) (hm0 : m ≠ 0) (hm : m < B) (H : Heap) (n : Nat) : ACall Tryz.prog 107 [N lo, N hi, N m] H n (Ret (.tuple #[N ((hi * BB + lo) % m), .int .i64 (0 : Nat)]) H n) := by
  refine acall_retF mix lw Tryz.func107 ok107 (fun _ _ => Tryz.call107 _ _) rfl ?_
  have bbp := BB_pos
  have hm1 : 0 < m := by omega
  have hmB : m < BB := Nat.lt_trans hm (by rw [B_eq, BB_eq]; decide)
  obtain ⟨s0, s1, s2, s3⟩ := w_small hm
  have hlast := rW_all lo hi m
  have hlB : (hi * BB + lo) % m < B := Nat.lt_trans (Nat.mod_lt _ hm1) hm
  rw [← hlast] at hlB ⊢
  refine wk3 @c107.eq_1 rN @hm0 ?_
  refine AGo_askV (div_short m hmB _ _) ?_
  refine wk2 @hm rN ?_
  refine AGo_makeC (concat64 _ _ (n + 14) (.slice (some ⟨n, 0, none⟩) 4 4) (.slice (some ⟨n + 1, 0, none⟩) 4 4) (vcells (N lo)) (vcells (N hi)) 94 (0, 0) (by omega) (upd_same _ _ _)
    (SrcA.of_block (b := n) (c := vcells (N lo)) (e := 24) (fz := (0, 0)) (by omega) (by (simp (disch := first | assumption | omega) only [upd_same, upd_neq, vcells_N, w_zero])) (Nat.le_refl _) rfl rfl) (SrcA.of_block (b := n + 1) (c := vcells (N hi)) (e := 24) (fz := (0, 0)) (by omega) (by (simp (disch := first | assumption | omega) only [upd_same, upd_neq, vcells_N, w_zero])) (Nat.le_refl _) rfl rfl) (Nat.zero_lt_succ _) (by show 4 + 4 ≤ 1000000; decide)) ?_
  rintro v H1 n1 ⟨bs, k, cap, rest, rfl, hbs, hHs, hlen, -, -, -⟩ hA hC1 hn
  have hk : 8 = k := by have : 4 + 4 = k * 1 := hlen; omega
  subst hk
  have f2 : H1 (n + 2) = some (.cells (vcells (N m)) 24 (0, 0)) := by rw [hA _ (by omega)]; (simp (disch := first | assumption | omega) only [upd_same, upd_neq, vcells_N, w_zero])
  have f3 : H1 (n + 3) = some (.cells [.int .u64 ((rW lo hi m 0 : Nat) : Int), .int .u64 ((0 : Nat) : Int), .int .u64 ((0 : Nat) : Int), .int .u64 ((0 : Nat) : Int)] 24 (0, 0)) := by rw [hA _ (by omega), rW_zero hl hh]; (simp (disch := first | assumption | omega) only [upd_same, upd_neq, vcells_N, w_zero])
  have hA1 : Agree n H H1 := fun i hi => (hA i (by omega)).trans (by (simp (disch := first | assumption | omega) only [upd_same, upd_neq, vcells_N, w_zero]))
  have hbn : bs < n1 := cleanLt hC1 hHs
  refine wk0 ?_
  refine AGo_callP _ (backward64 (some ⟨bs, 0, none⟩) 8 cap _ _) (fun hd => by cases hd) ?_
  rintro e H2 n2 ⟨b, rfl, hb1, hb2, hHb, hA2⟩ hn2
  refine ⟨_, rfl, ?_⟩
  refine wk0 ?_
  refine AGo_range (fun i => [.int .i64 ((8 - 1 - i : Nat) : Nat), .int .u64 (lwK lo hi (8 - 1 - i) : Nat)]) 8 (fun i H' n' => n2 + 1 ≤ n' ∧ Agree n H H' ∧ H' (n + 2) = some (.cells (vcells (N m)) 24 (0, 0)) ∧ H' (n + 3) = some (.cells [.int .u64 ((rW lo hi m i : Nat) : Int), .int .u64 ((0 : Nat) : Int), .int .u64 ((0 : Nat) : Int), .int .u64 ((0 : Nat) : Int)] 24 (0, 0)) ∧ H' b = some (.cells [.slice (some ⟨bs, 0, none⟩) 8 cap] 94 (0, 0)) ∧ H' bs = some (.cells (vcells (N lo) ++ vcells (N hi) ++ rest) 22 (0, 0))) (fun _ _ _ => False)
    (fun _ _ => Tryz.call159 _ _) (fun _ => rfl) ?_ (fun _ _ _ _ _ h => h.elim) ?_ (fun _ _ _ _ h => h.elim) ?_ ?_ ?_ ?_ (fun _ _ _ h => h.elim)
  · rintro i Ha na Hb nb ⟨g1, g2, g3, g4, g5, g6⟩ ha hn'
    exact ⟨by omega, fun j hj => (ha j (by omega)).trans (g2 j hj), by rw [ha _ (by omega)]; exact g3, by rw [ha _ (by omega)]; exact g4, by rw [ha _ (by omega)]; exact g5, by rw [ha _ (by omega)]; exact g6⟩
  · rintro i Ha na x ⟨g1, g2, g3, g4, g5, g6⟩
    exact ⟨by omega, fun j hj => (upd_ne _ _ (by omega)).trans (g2 j hj), by rw [upd_ne _ _ (by omega)]; exact g3, by rw [upd_ne _ _ (by omega)]; exact g4, by rw [upd_ne _ _ (by omega)]; exact g5, by rw [upd_ne _ _ (by omega)]; exact g6⟩
  · intro r J' JX' hJ'
    exact backward_iter b bs 0 8 cap (vcells (N lo) ++ vcells (N hi) ++ rest) 22 94 (0, 0) (0, 0) (lwK lo hi) (fun k hk => lw_cells lo hi k hk rest) (by decide) _ J' JX' (fun i H' n' h => ⟨(hJ' i H' n' h).2.2.2.2.1, (hJ' i H' n' h).2.2.2.2.2⟩) _ _
  · exact ⟨by omega, fun j hj => (hA2 j (by omega)).trans (hA1 j hj), by rw [hA2 _ (by omega)]; exact f2, by rw [hA2 _ (by omega)]; exact f3, hHb, by rw [hA2 _ (by omega)]; exact hHs⟩
  · rintro i r H' n' hi8 hr hnl hl' ⟨g1, g2, g3, g4, g5, g6⟩
    simp only [vcells_N] at g3
    have hrlt : rW lo hi m i < m := Nat.mod_lt _ hm1
    refine wk2 @g3 @g4 ?_
    refine AGo_begin hl' hr.1 ?_
    refine wk3 @g3 @g4 @s0 ?_
    refine AGo_askV (div64 (rW lo hi m i) (lwK lo hi (7 - i)) m hrlt (lwK_lt _ _ _) hm _ _) ?_
    refine wk1 @g4 ?_
    refine ⟨.off, rfl, ?_, by omega, by omega, agr, ?_, ?_, ?_, ?_⟩
    · exact up0
    · exact up2 @g3 @s0
    · simp (disch := first | assumption | omega) only [rW_step hl hi8, upd_same, upd_neq, vcells_N, w_zero]
    · exact up1 @g5
    · simp (disch := first | assumption | omega) only [g6, List.cons_append, List.nil_append, upd_same, upd_neq, vcells_N, w_zero]
  rintro H' n' ⟨g1, g2, g3, g4, g5, g6⟩
  refine wk1 @g4 ?_
  rw [N_small hlB]
  exact ⟨rfl, agr⟩
end Go.Proofs.YtcjchcommaahdaaGreat
namespace Go.Proofs.YtcjchcommaahdaaGreat
open Go.Ab

theorem bit_hi {lo hi k : Nat} (hl : lo < BB) (hk : k < 256) : (hi * BB + lo) / 2 ^ (512 - 1 - k) % 2 = bitOf hi (255 - k) := by
  unfold bitOf
  rw [show 512 - 1 - k = 256 + (255 - k) by omega, Nat.pow_add, ← BB_pow, ← Nat.div_div_eq_div_mul, Nat.mul_comm hi, Nat.mul_add_div BB_pos, Nat.div_eq_of_lt hl, Nat.add_zero]
theorem bit_lo {lo hi k : Nat} (hk : k < 256) : (hi * BB + lo) / 2 ^ (512 - 1 - (256 + k)) % 2 = bitOf lo (255 - k) := by
  unfold bitOf
  rw [show 512 - 1 - (256 + k) = 255 - k by omega, BB_pow, show 256 = (255 - k) + (k + 1) by omega, Nat.pow_add, Nat.mul_left_comm, Nat.mul_add_div (Nat.pow_pos (by decide)), Nat.pow_succ, ← Nat.mul_assoc]
  omega
set_option exponentiation.threshold 1024 in
theorem wide_long (lo hi m : Nat) (hl : lo < BB) (hh : hi < BB) (hm : m < BB) (hmB : ¬ m < B) (H : Heap) (n : Nat) : ACall Tryz.prog 107 [N lo, N hi, N m] H n (Ret (.tuple #[N ((hi * BB + lo) % m), .int .i64 (0 : Nat)]) H n) := by
  refine acall_retF mix lw Tryz.func107 ok107 (fun _ _ => Tryz.call107 _ _) rfl ?_
  have bbp := BB_pos
  have hm0 : m ≠ 0 := by have := B_pos; omega
  refine wk3 @c107.eq_1 rN @hm0 ?_
  refine AGo_askV (div_short m hm _ _) ?_
  refine wk2 @hmB rN ?_
  refine AGo_turn ?_
  refine wk1 rN ?_
  have hm1 : 0 < m := by omega
  have xstep : ∀ j, j < 512 → ∀ bit, (hi * BB + lo) / 2 ^ (512 - 1 - j) % 2 = bit → topA (hi * BB + lo) 512 (j + 1) % m = (2 * (topA (hi * BB + lo) 512 j % m) + bit) % m := by
    intro j hj bit hb
    rw [← hb]
    have h1 := top_step (hi * BB + lo) 512 j hj
    unfold topA; rw [h1, (div_step hm1).1]
  have x0 : topA (hi * BB + lo) 512 0 % m = 0 := by
    unfold topA
    rw [Nat.div_eq_of_lt, Nat.zero_mod]
    have := Nat.mul_le_mul_right BB (show hi + 1 ≤ BB from hh)
    rw [Nat.add_mul] at this
    have e : (2 : Nat) ^ (512 - 0) = BB * BB := by rw [BB_pow, ← Nat.pow_add]
    rw [e]; omega
  have x1 : topA (hi * BB + lo) 512 (256 + 256) = hi * BB + lo := topA_all _ _
  have bh : ∀ k, k < 256 → (hi * BB + lo) / 2 ^ (512 - 1 - k) % 2 = bitOf hi (255 - k) := fun k hk => bit_hi hl hk
  have bl : ∀ k, k < 256 → (hi * BB + lo) / 2 ^ (512 - 1 - (256 + k)) % 2 = bitOf lo (255 - k) := fun k hk => bit_lo hk
  generalize hX : hi * BB + lo = X at *
  refine AGo_cycleD (α := Nat) 48 61 (fun k => [(47, .int .i64 (k : Nat))]) (fun k H' n' => k ≤ 256 ∧ n + 21 ≤ n' ∧ Agree n H H' ∧ H' (n + 2) = some (.cells (vcells (N m)) 24 (0, 0)) ∧ H' (n + 3) = some (.cells (vcells (N (topA X 512 k % m))) 24 (0, 0)) ∧ H' (n + 18) = some (.cells (vcells (N hi)) 24 (0, 0))) (fun k H' n' => n + 21 ≤ n' ∧ Agree n H H' ∧ H' (n + 2) = some (.cells (vcells (N m)) 24 (0, 0)) ∧ H' (n + 3) = some (.cells (vcells (N (topA X 512 256 % m))) 24 (0, 0))) (fun k => 256 - k) (0) ?_ (by simp only [subs_nil, subs_if, lk_if, lk_nil, dropR_nil, dropR_cons, Nat.reduceLT, List.cons_append, List.nil_append, List.elem_nil, List.elem_cons, Nat.reduceBEq, beq_self_eq_true, Bool.true_or, Bool.false_or, Bool.or_true, Bool.or_false, Bool.false_eq_true, ↓reduceIte, if_true, if_false, Nat.reduceEqDiff, and_self, and_true, true_and, eq_self]) ?_ ?_
  · refine ⟨by omega, by omega, agr, ?_, ?_, ?_⟩
    · exact up0
    · exact up1 @x0
    · exact up0
  · rintro k H' n' kk ⟨hk, hn, hA, f2, f3, f4⟩ hK hS
    simp only [List.cons_append, List.nil_append, dropR_nil, dropR_cons, Nat.reduceLT, ↓reduceIte]
    simp only [vcells_N] at f2 f3 f4
    by_cases hlt : k < 256
    · have hr := Nat.mod_lt (topA X 512 k) hm1
      have hi8 : 255 - k < 256 := by omega
      have hb1 : bitOf hi (255 - k) ≤ 1 := by unfold bitOf; omega
      have he := xstep k (by omega) (bitOf hi (255 - k)) (bh k hlt)
      refine AGo_turn ?_
      refine wk5 rN @f2 @f3 @f4 @hlt ?_
      refine AGo_askV (limbs_Bit hi (255 - k) (by assumption) hi8 _ _) ?_
      refine wk4 rN @f2 @f3 @f4 ?_
      refine AGo_askV (div_next _ _ _ hr hb1 hm _ _) ?_
      refine wk4 rN @f2 @f3 @f4 ?_
      refine AGo_le ?_ (hS (k + 1) _ _ ⟨by omega, by omega, agr, ?_, ?_, ?_⟩ (by omega))
      · simp only [subs_nil, subs_if, lk_if, lk_nil, dropR_nil, dropR_cons, Nat.reduceLT, List.cons_append, List.nil_append, List.elem_nil, List.elem_cons, Nat.reduceBEq, beq_self_eq_true, Bool.true_or, Bool.false_or, Bool.or_true, Bool.or_false, Bool.false_eq_true, ↓reduceIte, if_true, if_false, Nat.reduceEqDiff, and_self, and_true, true_and, eq_self]
      · exact up1 @f2
      · exact up1 @he
      · exact up1 @f4
    · have hk2 : k = 256 := by omega
      subst hk2
      refine AGo_turn ?_
      refine wk5 rN @f2 @f3 @f4 @hlt ?_
      refine AGo_markL ?_ (hK 256 _ _ ⟨by omega, agr, ?_, ?_⟩)
      · simp only [subs_nil, subs_if, lk_if, lk_nil, dropR_nil, dropR_cons, Nat.reduceLT, List.cons_append, List.nil_append, List.elem_nil, List.elem_cons, Nat.reduceBEq, beq_self_eq_true, Bool.true_or, Bool.false_or, Bool.or_true, Bool.or_false, Bool.false_eq_true, ↓reduceIte, if_true, if_false, Nat.reduceEqDiff, and_self, and_true, true_and, eq_self]
      · exact up1 @f2
      · exact up1 @f3
  rintro k H1 n1 ⟨hn1, hA1, f2, f3⟩
  simp only [List.cons_append, List.nil_append, dropR_nil, dropR_cons, Nat.reduceLT, ↓reduceIte]
  simp only [vcells_N] at f2 f3
  refine wk3 rN @f2 @f3 ?_
  refine AGo_turn ?_
  refine wk3 rN @f2 @f3 ?_
  refine AGo_dropD 13 14 ?_
  simp only [dropR_cons, dropR_nil, Nat.reduceLT, ↓reduceIte]
  refine AGo_cycleD (α := Nat) 48 61 (fun k => [(47, .int .i64 (k : Nat))]) (fun k H' n' => k ≤ 256 ∧ n1 + 5 ≤ n' ∧ Agree n H H' ∧ H' (n + 2) = some (.cells (vcells (N m)) 24 (0, 0)) ∧ H' (n + 3) = some (.cells (vcells (N (topA X 512 (256 + k) % m))) 24 (0, 0)) ∧ H' (n1 + 4) = some (.cells (vcells (N lo)) 24 (0, 0))) (fun k H' n' => n1 + 5 ≤ n' ∧ Agree n H H' ∧ H' (n + 2) = some (.cells (vcells (N m)) 24 (0, 0)) ∧ H' (n + 3) = some (.cells (vcells (N (topA X 512 (256 + 256) % m))) 24 (0, 0))) (fun k => 256 - k) (0) ?_ (by simp only [subs_nil, subs_if, lk_if, lk_nil, dropR_nil, dropR_cons, Nat.reduceLT, List.cons_append, List.nil_append, List.elem_nil, List.elem_cons, Nat.reduceBEq, beq_self_eq_true, Bool.true_or, Bool.false_or, Bool.or_true, Bool.or_false, Bool.false_eq_true, ↓reduceIte, if_true, if_false, Nat.reduceEqDiff, and_self, and_true, true_and, eq_self]) ?_ ?_
  · refine ⟨by omega, by omega, agr, ?_, ?_, ?_⟩
    · exact up1 @f2
    · simp (disch := first | assumption | omega) only [f3, Nat.add_zero, upd_same, upd_neq, vcells_N, w_zero]
    · exact up0
  · rintro k H' n' kk ⟨hk, hn, hA, f2, f3, f4⟩ hK hS
    simp only [List.cons_append, List.nil_append, dropR_nil, dropR_cons, Nat.reduceLT, ↓reduceIte]
    simp only [vcells_N] at f2 f3 f4
    by_cases hlt : k < 256
    · have hr := Nat.mod_lt (topA X 512 (256 + k)) hm1
      have hi8 : 255 - k < 256 := by omega
      have hb1 : bitOf lo (255 - k) ≤ 1 := by unfold bitOf; omega
      have he := xstep (256 + k) (by omega) (bitOf lo (255 - k)) (bl k hlt)
      rw [Nat.add_assoc] at he
      refine AGo_turn ?_
      refine wk5 rN @f2 @f3 @f4 @hlt ?_
      refine AGo_askV (limbs_Bit lo (255 - k) (by assumption) hi8 _ _) ?_
      refine wk4 rN @f2 @f3 @f4 ?_
      refine AGo_askV (div_next _ _ _ hr hb1 hm _ _) ?_
      refine wk4 rN @f2 @f3 @f4 ?_
      refine AGo_le ?_ (hS (k + 1) _ _ ⟨by omega, by omega, agr, ?_, ?_, ?_⟩ (by omega))
      · simp only [subs_nil, subs_if, lk_if, lk_nil, dropR_nil, dropR_cons, Nat.reduceLT, List.cons_append, List.nil_append, List.elem_nil, List.elem_cons, Nat.reduceBEq, beq_self_eq_true, Bool.true_or, Bool.false_or, Bool.or_true, Bool.or_false, Bool.false_eq_true, ↓reduceIte, if_true, if_false, Nat.reduceEqDiff, and_self, and_true, true_and, eq_self]
      · exact up1 @f2
      · exact up1 @he
      · exact up1 @f4
    · have hk2 : k = 256 := by omega
      subst hk2
      refine AGo_turn ?_
      refine wk5 rN @f2 @f3 @f4 @hlt ?_
      refine AGo_markL ?_ (hK 256 _ _ ⟨by omega, agr, ?_, ?_⟩)
      · simp only [subs_nil, subs_if, lk_if, lk_nil, dropR_nil, dropR_cons, Nat.reduceLT, List.cons_append, List.nil_append, List.elem_nil, List.elem_cons, Nat.reduceBEq, beq_self_eq_true, Bool.true_or, Bool.false_or, Bool.or_true, Bool.or_false, Bool.false_eq_true, ↓reduceIte, if_true, if_false, Nat.reduceEqDiff, and_self, and_true, true_and, eq_self]
      · exact up1 @f2
      · exact up1 @f3
  rintro k H2 n2 ⟨hn2, hA2, f2, f3⟩
  rw [x1] at f3
  simp only [List.cons_append, List.nil_append, dropR_nil, dropR_cons, Nat.reduceLT, ↓reduceIte]
  simp only [vcells_N] at f2 f3
  refine wk3 rN @f2 @f3 ?_
  refine AGo_turn ?_
  refine wk3 rN @f2 @f3 ?_
  exact ⟨rfl, agr⟩
theorem wide_any (lo hi m : Nat) (hl : lo < BB) (hh : hi < BB) (hm : m < BB) (hm0 : m ≠ 0) (H : Heap) (n : Nat) : ACall Tryz.prog 107 [N lo, N hi, N m] H n (Ret (.tuple #[N ((hi * BB + lo) % m), .int .i64 (0 : Nat)]) H n) := by
  by_cases h : m < B
  · exact wide_one lo hi m hl hh hm0 h H n
  · exact wide_long lo hi m hl hh hm h H n
end Go.Proofs.YtcjchcommaahdaaGreat

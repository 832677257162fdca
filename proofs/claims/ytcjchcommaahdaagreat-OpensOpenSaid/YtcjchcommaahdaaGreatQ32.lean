/- A node's share of a dealing: what is opened. No conditions. -/
import Derived.Test.YtcjchcommaahdaaGreatQ12
import Derived.Test.YtcjchcommaahdaaGreatQ31
set_option maxRecDepth 20000
set_option maxHeartbeats 4000000
set_option linter.all false
namespace Go.Ab
theorem OwnB.low {nb n : Nat} {H : Heap} {v : Value} {l : List Value} {e : TypeId} {esz : Nat} (h : OwnB nb n H v l e esz) {b k c : Nat} (hv : v = .slice (some ⟨b, 0, none⟩) k c) : nb ≤ b := by
  obtain ⟨_, _, _, _, e2, hb, _⟩ := h.1
  rw [e2] at hv; cases hv; exact hb
theorem OwnB.form {nb n : Nat} {H : Heap} {v : Value} {l : List Value} {e : TypeId} {esz : Nat} (h : OwnB nb n H v l e esz) : ∃ b k c, v = .slice (some ⟨b, 0, none⟩) k c := by
  obtain ⟨b, k, c, _, e2, _⟩ := h.1
  exact ⟨b, k, c, e2⟩
section
variable {P : Program} {res : ALeave} {kk : List AItem} {tm : List Value} {H : Heap} {n n0 : Nat} {d : Bool} {R : Post} {dst : Option Nat} {f : Opd} {args ap : List Opd} {ops : List AOper} {xs : List Value} {g : FuncId} {first cap : Array Value}
end
end Go.Ab
namespace Go.Proofs.YtcjchcommaahdaaGreat
open Go.Ab
/-- A dealing. -/
def DV (e d : Nat) (vv yv pv : Value) (C S : U) : Value := .agg #[.int .u64 (e : Nat), .int .u8 (d : Nat), vv, yv, pv, .int .u64 (w0 C.val : Nat), .int .u64 (w1 C.val : Nat), .int .u64 (w2 C.val : Nat), .int .u64 (w3 C.val : Nat), .int .u64 (w0 S.val : Nat), .int .u64 (w1 S.val : Nat), .int .u64 (w2 S.val : Nat), .int .u64 (w3 S.val : Nat)]
theorem DV_fold (e d : Nat) (vv yv pv : Value) (C S : U) : Value.agg #[.int .u64 (e : Nat), .int .u8 (d : Nat), vv, yv, pv, .int .u64 (w0 C.val : Nat), .int .u64 (w1 C.val : Nat), .int .u64 (w2 C.val : Nat), .int .u64 (w3 C.val : Nat), .int .u64 (w0 S.val : Nat), .int .u64 (w1 S.val : Nat), .int .u64 (w2 S.val : Nat), .int .u64 (w3 S.val : Nat)] = DV e d vv yv pv C S := rfl
theorem vcells_DV (e d : Nat) (vv yv pv : Value) (C S : U) : vcells (DV e d vv yv pv C S) = [.int .u64 (e : Nat), .int .u8 (d : Nat), vv, yv, pv, .int .u64 (w0 C.val : Nat), .int .u64 (w1 C.val : Nat), .int .u64 (w2 C.val : Nat), .int .u64 (w3 C.val : Nat), .int .u64 (w0 S.val : Nat), .int .u64 (w1 S.val : Nat), .int .u64 (w2 S.val : Nat), .int .u64 (w3 S.val : Nat)] := rfl
theorem isTup_DV (e d : Nat) (vv yv pv : Value) (C S : U) : isTup (DV e d vv yv pv C S) = false := rfl
theorem rD : type_of% (And.intro @DV_fold (And.intro @vcells_DV @isTup_DV)) := (And.intro @DV_fold (And.intro @vcells_DV @isTup_DV))
/-- A share that was opened. -/
structure Opn where
  e : Nat
  d : Nat
  k : Nat
  z : U
  c : U
  s : U
def OVL (o : Opn) : List Value := [.int .u64 (o.e : Nat), .int .u8 (o.d : Nat), .int .u8 (o.k : Nat), .int .u64 (w0 o.z.val : Nat), .int .u64 (w1 o.z.val : Nat), .int .u64 (w2 o.z.val : Nat), .int .u64 (w3 o.z.val : Nat), .int .u64 (w0 o.c.val : Nat), .int .u64 (w1 o.c.val : Nat), .int .u64 (w2 o.c.val : Nat), .int .u64 (w3 o.c.val : Nat), .int .u64 (w0 o.s.val : Nat), .int .u64 (w1 o.s.val : Nat), .int .u64 (w2 o.s.val : Nat), .int .u64 (w3 o.s.val : Nat)]
def OV (o : Opn) : Value := .agg ⟨OVL o⟩
theorem OV_fold (o : Opn) : Value.agg #[.int .u64 (o.e : Nat), .int .u8 (o.d : Nat), .int .u8 (o.k : Nat), .int .u64 (w0 o.z.val : Nat), .int .u64 (w1 o.z.val : Nat), .int .u64 (w2 o.z.val : Nat), .int .u64 (w3 o.z.val : Nat), .int .u64 (w0 o.c.val : Nat), .int .u64 (w1 o.c.val : Nat), .int .u64 (w2 o.c.val : Nat), .int .u64 (w3 o.c.val : Nat), .int .u64 (w0 o.s.val : Nat), .int .u64 (w1 o.s.val : Nat), .int .u64 (w2 o.s.val : Nat), .int .u64 (w3 o.s.val : Nat)] = OV o := rfl
theorem vcells_OV (o : Opn) : vcells (OV o) = OVL o := rfl
theorem isTup_OV (o : Opn) : isTup (OV o) = false := rfl
theorem rQ : type_of% (And.intro @vcells_OV @isTup_OV) := (And.intro @vcells_OV @isTup_OV)
def Opn.none : Opn := ⟨0, 0, 0, uz, uz, uz⟩
theorem OV_mk (e d k : Nat) (z c s : U) : Value.agg #[.int .u64 (e : Nat), .int .u8 (d : Nat), .int .u8 (k : Nat), .int .u64 (w0 z.val : Nat), .int .u64 (w1 z.val : Nat), .int .u64 (w2 z.val : Nat), .int .u64 (w3 z.val : Nat), .int .u64 (w0 c.val : Nat), .int .u64 (w1 c.val : Nat), .int .u64 (w2 c.val : Nat), .int .u64 (w3 c.val : Nat), .int .u64 (w0 s.val : Nat), .int .u64 (w1 s.val : Nat), .int .u64 (w2 s.val : Nat), .int .u64 (w3 s.val : Nat)] = OV ⟨e, d, k, z, c, s⟩ := rfl
theorem uz_words : w0 uz.val = 0 ∧ w1 uz.val = 0 ∧ w2 uz.val = 0 ∧ w3 uz.val = 0 := by rw [uz_val]; unfold w0 w1 w2 w3; simp
theorem OV_none : Value.agg #[.int .u64 ((0 : Nat) : Int), .int .u8 ((0 : Nat) : Int), .int .u8 ((0 : Nat) : Int), .int .u64 ((0 : Nat) : Int), .int .u64 ((0 : Nat) : Int), .int .u64 ((0 : Nat) : Int), .int .u64 ((0 : Nat) : Int), .int .u64 ((0 : Nat) : Int), .int .u64 ((0 : Nat) : Int), .int .u64 ((0 : Nat) : Int), .int .u64 ((0 : Nat) : Int), .int .u64 ((0 : Nat) : Int), .int .u64 ((0 : Nat) : Int), .int .u64 ((0 : Nat) : Int), .int .u64 ((0 : Nat) : Int)] = OV Opn.none := by
  obtain ⟨h0, h1, h2, h3⟩ := uz_words
  unfold OV OVL Opn.none; simp only [h0, h1, h2, h3]
theorem OVL_none : OVL Opn.none = [.int .u64 ((0 : Nat) : Int), .int .u8 ((0 : Nat) : Int), .int .u8 ((0 : Nat) : Int), .int .u64 ((0 : Nat) : Int), .int .u64 ((0 : Nat) : Int), .int .u64 ((0 : Nat) : Int), .int .u64 ((0 : Nat) : Int), .int .u64 ((0 : Nat) : Int), .int .u64 ((0 : Nat) : Int), .int .u64 ((0 : Nat) : Int), .int .u64 ((0 : Nat) : Int), .int .u64 ((0 : Nat) : Int), .int .u64 ((0 : Nat) : Int), .int .u64 ((0 : Nat) : Int), .int .u64 ((0 : Nat) : Int)] := by
  have := OV_none
  unfold OV at this
  simp only [Value.agg.injEq, Array.mk.injEq] at this
  exact this.symm
theorem low_OVL (n : Nat) (o : Opn) : LowL n (OVL o) := by
  unfold OVL
  repeat' first | exact Low.int | exact LowL.nil _ | apply LowL.cons
theorem low_OV (n : Nat) (o : Opn) : Low n (OV o) := Low.agg (low_OVL n o)
/-- What Open answers. -/
def provePr (G : Grp) (t : ByteArray) (x base y draw : U) : U × U := if proveOk G x base y draw then (proveC G t x base y draw, proveS G t x base y draw) else (uz, uz)
def proveE (G : Grp) (x base y draw : U) : Nat := if proveOk G x base y draw then 0 else 1
theorem proveV_eq (G : Grp) (t : ByteArray) (x base y draw : U) : proveV G t x base y draw = .tuple #[PV (provePr G t x base y draw).1 (provePr G t x base y draw).2, .int .i64 (proveE G x base y draw : Nat)] := by
  unfold proveV provePr proveE
  cases proveOk G x base y draw <;> rfl
def openZ (G : Grp) (x y : U) : U := (grpExp G y (modInv x G.q).1).1
def openH (G : Grp) (e d k : Nat) (x y : U) : List (List Nat) := [about e d k, long y.val, long (openZ G x y).val]
def openF (G : Grp) (e d k : Nat) (x y : U) : Nat → Nat := sha (enc openT (openH G e d k x y))
theorem openF_def (G : Grp) (e d k : Nat) (x y : U) : sha (enc openT (openH G e d k x y)) = openF G e d k x y := rfl
theorem hdChan_PV (c s : U) (l : List Value) : hdChan (PV c s :: l) = false := rfl
theorem bs_two (d k : Nat) : [Value.int .u8 (d : Nat), .int .u8 (k : Nat)] = bs [d, k] := rfl
theorem about_def (e d k : Nat) : bel 8 e ++ [d, k] = about e d k := rfl
theorem openH_ok (G : Grp) {e d k : Nat} (x y : U) (hd : d < 256) (hk : k < 256) : Bounded (openH G e d k x y) := by
  refine ⟨by simp [openH], fun p hp => ?_⟩
  simp only [openH, List.mem_cons, List.not_mem_nil, or_false] at hp
  rcases hp with rfl | rfl | rfl
  · exact about_ok hd hk
  · exact ⟨by rw [long_length]; omega, long_lt _⟩
  · exact ⟨by rw [long_length]; omega, long_lt _⟩
theorem openF_lt (G : Grp) (e d k : Nat) (x y : U) (i : Nat) : openF G e d k x y i < 256 := sha_lt _ i
def openP (G : Grp) (e d k : Nat) (x y : U) : U × U := provePr G openT x G.h (openZ G x y) (drawU G x (openF G e d k x y))
theorem openP_def (G : Grp) (e d k : Nat) (x y : U) : provePr G openT x G.h (openZ G x y) (drawU G x (openF G e d k x y)) = openP G e d k x y := rfl
def openO (G : Grp) (e d k : Nat) (x y : U) : Opn := ⟨e, d, k, openZ G x y, (openP G e d k x y).1, (openP G e d k x y).2⟩
def openR (G : Grp) (F S : Int) (m my : Nat) (ks : Nat → U × U) (ys : Nat → U) (e d k : Nat) (x : U) : Opn × Nat :=
  if settB G F S m ks && (nodeB m k && secB G x (ks (k - 1)).2) then
    if decide (my = m) && grpIn G (ys (k - 1)) then
      if (modInv x G.q).2 = 0 then (openO G e d k x (ys (k - 1)), 0) else (Opn.none, 7)
    else (Opn.none, 4)
  else (Opn.none, 1)
def OR (r : Opn × Nat) : Value := .tuple #[OV r.1, .int .i64 (r.2 : Nat)]
theorem low_OR (n : Nat) (r : Opn × Nat) : Low n (OR r) := low_pair (low_OV _ _) Low.int
theorem OR_none (k : Nat) : OR (Opn.none, k) = .tuple #[.agg #[.int .u64 ((0 : Nat) : Int), .int .u8 ((0 : Nat) : Int), .int .u8 ((0 : Nat) : Int), .int .u64 ((0 : Nat) : Int), .int .u64 ((0 : Nat) : Int), .int .u64 ((0 : Nat) : Int), .int .u64 ((0 : Nat) : Int), .int .u64 ((0 : Nat) : Int), .int .u64 ((0 : Nat) : Int), .int .u64 ((0 : Nat) : Int), .int .u64 ((0 : Nat) : Int), .int .u64 ((0 : Nat) : Int), .int .u64 ((0 : Nat) : Int), .int .u64 ((0 : Nat) : Int), .int .u64 ((0 : Nat) : Int)], .int .i64 (k : Nat)] := by
  unfold OR; rw [← OV_none]
theorem settB_in {G : Grp} {F S : Int} {m : Nat} {ks : Nat → U × U} (h : settB G F S m ks = true) : m ≤ 7 ∧ grpIn G G.h = true := by
  unfold settB at h
  simp only [Bool.and_eq_true, decide_eq_true_eq] at h
  have h2 := h.2.2.1.2
  unfold isKey at h2
  simp only [Bool.and_eq_true] at h2
  exact ⟨h.1.2.2.2.2.2.2, h2.1⟩
theorem openZ_def (G : Grp) (x y : U) : (grpExp G y (modInv x G.q).1).1 = openZ G x y := rfl
attribute [local irreducible] settB nodeB secB grpIn modInv grpExp openZ isKey numH long sha enc fk bs openF openP drawU
theorem op_Open (G : Grp) (F S : Int) (m my : Nat) (ks : Nat → U × U) (ys : Nat → U) (nv vv yv pv : Value) (e d k : Nat) (x Cg Sg : U) (H : Heap) (n : Nat) (he : e < B) (hd : d < 256) (hk : k < 256) (hv : KeysA n H nv m ks) (hy : NumsA n H yv my ys) : ACall Tryz.prog 7 [SV G F S nv, DV e d vv yv pv Cg Sg, .int .u8 (k : Nat), N x.val] H n (Ret (OR (openR G F S m my ks ys e d k x)) H n) := by
  refine acall_retF mix (low_OR _ _) Tryz.func7 ok7 (fun _ _ => Tryz.call7 _ _) rfl ?_
  have hv' := hv
  obtain ⟨sa, cap, rfl, hmc, hm60, hv0⟩ := hv
  have hy' := hy
  obtain ⟨sy, capy, rfl, hmyc, hmy60, hy0⟩ := hy
  cases hset : settB G F S m ks with
  | false =>
    rw [show openR G F S m my ks ys e d k x = (Opn.none, 1) by unfold openR; rw [hset]; rfl, OR_none]
    refine wk6 @c7.eq_1 rN rG rS rD rP ?_
    refine AGo_askV (dl_Setting G F S m ks _ _ _ (hv'.later (agr) (by omega))) ?_
    refine wk6 rN rG rS rD rP @hset ?_
    exact ⟨rfl, agr⟩
  | true =>
    have hset2 := settB_in hset
    have hhm := grpIn_may hset2.2
    cases hnode : nodeB m k with
    | false =>
      rw [show openR G F S m my ks ys e d k x = (Opn.none, 1) by unfold openR; rw [hset, hnode]; rfl, OR_none]
      refine wk6 @c7.eq_1 rN rG rS rD rP ?_
      refine AGo_askV (dl_Setting G F S m ks _ _ _ (hv'.later (agr) (by omega))) ?_
      refine wk6 rN rG rS rD rP @hset ?_
      refine AGo_askV (op_node G F S k m cap sa _ _ hk) ?_
      refine wk6 rN rG rS rD rP @hnode ?_
      exact ⟨rfl, agr⟩
    | true =>
      have hk1 : 1 ≤ k ∧ k ≤ m := by simpa [nodeB] using hnode
      have qk : (k + 255) % 256 = k - 1 := by omega
      have hlt : k - 1 < m := by omega
      rcases hv0 with h | ⟨b, off, cs, ek, fk', rfl, hb, hB, hcs⟩
      · omega
      obtain ⟨c1, c2⟩ := hcs (k - 1) hlt
      obtain ⟨d1, d2, d3⟩ := key_halves c1 c2
      rw [Nat.add_assoc] at d3
      cases hsec : secB G x (ks (k - 1)).2 with
      | false =>
        rw [show openR G F S m my ks ys e d k x = (Opn.none, 1) by unfold openR; rw [hset, hnode, hsec]; rfl, OR_none]
        refine wk6 @c7.eq_1 rN rG rS rD rP ?_
        refine AGo_askV (dl_Setting G F S m ks _ _ _ (hv'.later (agr) (by omega))) ?_
        refine wk6 rN rG rS rD rP @hset ?_
        refine AGo_askV (op_node G F S k m cap (some ⟨b, off, none⟩) _ _ hk) ?_
        refine wk11 rN rG rS rD rP @hnode @qk rI @hB @d3 @agg_vN ?_
        refine AGo_askV (op_secret G x (ks (k - 1)).2 _ _ hhm) ?_
        refine wk6 rN rG rS rD rP @hsec ?_
        exact ⟨rfl, agr⟩
      | true =>
        by_cases hmy : my = m
        · subst hmy
          rcases hy0 with h | ⟨by', offy, csy, ey, fy, rfl, hby, hBy, hcsy⟩
          · omega
          obtain ⟨y1, y2⟩ := hcsy (k - 1) hlt
          cases hin : grpIn G (ys (k - 1)) with
          | false =>
            rw [show openR G F S my my ks ys e d k x = (Opn.none, 4) by unfold openR; rw [hset, hnode, hsec, hin]; simp, OR_none]
            refine wk6 @c7.eq_1 rN rG rS rD rP ?_
            refine AGo_askV (dl_Setting G F S my ks _ _ _ (hv'.later (agr) (by omega))) ?_
            refine wk6 rN rG rS rD rP @hset ?_
            refine AGo_askV (op_node G F S k my cap (some ⟨b, off, none⟩) _ _ hk) ?_
            refine wk11 rN rG rS rD rP @hnode @qk rI @hB @d3 @agg_vN ?_
            refine AGo_askV (op_secret G x (ks (k - 1)).2 _ _ hhm) ?_
            refine wk11 rN rG rS rD rP @hsec @qk rI @hBy @y2 @agg_vN ?_
            refine AGo_askV (gr_In G (ys (k - 1)) _ _) ?_
            refine wk6 rN rG rS rD rP @hin ?_
            exact ⟨rfl, agr⟩
          | true =>
            by_cases hinv : (modInv x G.q).2 = 0
            · rw [show openR G F S my my ks ys e d k x = (openO G e d k x (ys (k - 1)), 0) by unfold openR; rw [hset, hnode, hsec, hin, hinv]; simp]
              refine wk6 @c7.eq_1 rN rG rS rD rP ?_
              refine AGo_askV (dl_Setting G F S my ks _ _ _ (hv'.later (agr) (by omega))) ?_
              refine wk6 rN rG rS rD rP @hset ?_
              refine AGo_askV (op_node G F S k my cap (some ⟨b, off, none⟩) _ _ hk) ?_
              refine wk11 rN rG rS rD rP @hnode @qk rI @hB @d3 @agg_vN ?_
              refine AGo_askV (op_secret G x (ks (k - 1)).2 _ _ hhm) ?_
              refine wk11 rN rG rS rD rP @hsec @qk rI @hBy @y2 @agg_vN ?_
              refine AGo_askV (gr_In G (ys (k - 1)) _ _) ?_
              refine wk11 rN rG rS rD rP @hin @qk rI @hBy @y2 @agg_vN ?_
              refine AGo_askV (sc_Inv G x _ _) ?_
              refine wk7 rN rG rS rD rP @RV.eq_1 @hinv ?_
              refine AGo_askV (gr_Exp G (ys (k - 1)) (modInv x G.q).1 _ _) ?_
              simp (disch := first | assumption | omega) only [N_fold, N_zero, N_one, GV_fold, vcells_GV, isTup_GV, SV_fold, vcells_SV, isTup_SV, DV_fold, vcells_DV, isTup_DV, PV_fold, vcells_PV, isTup_PV, RV, openZ_def, ↓z32', openT_lit, W, sim, ↓reduceIte, Nat.reduceAdd, Nat.reduceSub, Nat.reduceMul, Nat.reduceLT, Nat.reduceLeDiff, Nat.reduceEqDiff, Nat.reduceBEq, Nat.reduceBNe, Nat.reduceMod, Nat.reduceDiv]
              generalize hK : upd (upd (upd (upd (upd (upd (upd (upd (upd (upd _ _ _) _ _) _ _) _ _) _ _) _ _) _ _) _ _) _ _) _ _ = K
              have k1 : K (n + 1) = some (.cells (vcells (DV e d vv (.slice (some ⟨by', offy, none⟩) my capy) pv Cg Sg)) 35 (0, 0)) := by
                rw [← hK]
                simp (disch := first | assumption | omega) only [upd_same, upd_neq, vcells_N, w_zero]
                rfl
              have k2 : K (n + 2) = some (.cells (vcells (N x.val)) 24 (0, 0)) := by
                rw [← hK]
                simp (disch := first | assumption | omega) only [upd_same, upd_neq, vcells_N, w_zero]
              have k3 : K (n + 3) = some (.cells [.int .u64 ((0 : Nat) : Int), .int .u8 ((0 : Nat) : Int), .int .u8 ((0 : Nat) : Int), .int .u64 ((0 : Nat) : Int), .int .u64 ((0 : Nat) : Int), .int .u64 ((0 : Nat) : Int), .int .u64 ((0 : Nat) : Int), .int .u64 ((0 : Nat) : Int), .int .u64 ((0 : Nat) : Int), .int .u64 ((0 : Nat) : Int), .int .u64 ((0 : Nat) : Int), .int .u64 ((0 : Nat) : Int), .int .u64 ((0 : Nat) : Int), .int .u64 ((0 : Nat) : Int), .int .u64 ((0 : Nat) : Int)] 44 (0, 0)) := by
                rw [← hK]
                simp (disch := first | assumption | omega) only [upd_same, upd_neq, vcells_N, w_zero]
              have k30 : K (n + 30) = some (.cells (gcells G) 26 (0, 0)) := by
                rw [← hK]
                simp (disch := first | assumption | omega) only [upd_same, upd_neq, vcells_N, w_zero]
                rfl
              have k56 : K (n + 56) = some (.cells (vcells (N (ys (k - 1)).val)) 24 (0, 0)) := by
                rw [← hK]
                simp (disch := first | assumption | omega) only [upd_same, upd_neq, vcells_N, w_zero]
              have k76 : K (n + 76) = some (.cells (vcells (N (openZ G x (ys (k - 1))).val)) 24 (0, 0)) := by
                rw [← hK]
                simp (disch := first | assumption | omega) only [upd_same, upd_neq, vcells_N, w_zero]
              have k85 : K (n + 85) = some (.cells [.int .u8 (d : Nat), .int .u8 (k : Nat)] 5 (0, 0)) := by
                rw [← hK]
                simp (disch := first | assumption | omega) only [upd_same, upd_neq, vcells_N, w_zero]
              have k93 : K (n + 93) = some (.cells (fk .u8 32 fun _ => 0) 64 (0, 0)) := by
                rw [← hK]
                simp (disch := first | assumption | omega) only [upd_same, upd_neq, vcells_N, w_zero]
              have kA : Agree n H K := by rw [← hK]; exact agr
              clear hK
              rw [bs_two] at k85
              refine AGo_makeB (nums_Put [] 8 e _ _ _ (srcA_nil _ _) (by omega) he (by simp)) ?_
              intro v1 H1 n1 o1 hA1 hn1
              rw [List.nil_append] at o1
              refine wk0 ?_
              refine AGo_appOwnS (nb := n + 86) (l := bs (bel 8 e)) (l2 := bs [d, k]) (o1.1.weaken (by omega)) (src_mk ((hA1 _ (by omega)).trans k85) (by rw [bs_length]; rfl) (bs_all _)) (by omega) (by rw [bs_length, bs_length, bel_length]; simp) (by decide) (by omega) (fun _ b kk' cc' e' => by have := o1.low e'; simp [ev_i, lk_if, blkNe]; omega) ?_
              intro v2 H2 o2 hA2 hv2
              rw [← bs_append, about_def] at o2
              have hv2b : ∀ b k' c', v2 = .slice (some ⟨b, 0, none⟩) k' c' → b = n + 86 ∨ (n + 95 ≤ b ∧ b < n1) := by
                intro b k' c' e'
                rcases hv2 _ _ _ e' with ⟨k4, c4, e4⟩ | e4
                · exact .inr ⟨o1.low e4, o1.2 _ _ _ e4⟩
                · exact .inl e4
              have hfr : ∀ j, j < n + 95 → j ≠ n + 86 → H2 j = K j := fun j h1 h2 => (hA2 j (fun k c e' => by have := o1.low e'; omega) h2).trans (hA1 j h1)
              have o2b : OwnB (n + 86) n1 H2 v2 (bs (about e d k)) 5 1 := ⟨o2, fun b k' c' e' => by rcases hv2b _ _ _ e' with h | h <;> omega⟩
              clear o2 hA2 hA1 hv2 o1
              refine wk0 ?_
              refine AGo_makeB (nums_PutLong [] (ys (k - 1)).val _ _ _ (srcA_nil _ _) (by simp)) ?_
              intro v3 H3 n3 o3 hA3 hn3
              rw [List.nil_append] at o3
              refine wk0 ?_
              refine AGo_makeB (nums_PutLong [] (openZ G x (ys (k - 1))).val _ _ _ (srcA_nil _ _) (by simp)) ?_
              intro v4 H4 n4 o4 hA4 hn4
              rw [List.nil_append] at o4
              have f : ∀ j, j < n + 95 → j ≠ n + 86 → H4 j = K j := fun j h1 h2 => (hA4 j (by omega)).trans ((hA3 j (by omega)).trans (hfr j h1 h2))
              have s2 := o2b.keep2 (n' := n4) (H' := H4) (fun b k' c' e' => by have := o2b.2 _ _ _ e'; exact (hA4 b (by omega)).trans (hA3 b (by omega))) (by omega)
              have s3 := o3.keep2 (n' := n4) (H' := H4) (fun b k' c' e' => by have := o3.2 _ _ _ e'; exact hA4 b (by omega)) (by omega)
              clear hA3 hA4 hfr
              have g2 := s2.srcA (bs_all _)
              have g3 := s3.srcA (bs_all _)
              have g4 := o4.srcA (bs_all _)
              obtain ⟨b2, kb2, cb2, rfl⟩ := s2.form
              obtain ⟨b3, kb3, cb3, rfl⟩ := s3.form
              obtain ⟨b4, kb4, cb4, rfl⟩ := o4.form
              have hb2 := hv2b _ _ _ rfl
              have hb3 := o3.low rfl
              have hb4 := o4.low rfl
              refine wk0 ?_
              generalize hK : upd H4 (n + 91) _ = K5
              have j91 : K5 (n + 91) = some (.cells ([.slice (some ⟨b2, 0, none⟩) kb2 cb2, .slice (some ⟨b3, 0, none⟩) kb3 cb3, .slice (some ⟨b4, 0, none⟩) kb4 cb4] ++ []) 66 (0, 0)) := by rw [← hK, upd_same]; rfl
              have hpa : PartsA n4 K5 [.slice (some ⟨b2, 0, none⟩) kb2 cb2, .slice (some ⟨b3, 0, none⟩) kb3 cb3, .slice (some ⟨b4, 0, none⟩) kb4 cb4] (openH G e d k x (ys (k - 1))) := by
                refine PartsA.cons ?_ s2.capd (PartsA.cons ?_ s3.capd (PartsA.cons ?_ o4.capd (PartsA.nil _ _)))
                · exact (s2.keep2 (n' := n4) (fun b k' c' e' => by cases e'; rw [← hK, upd_ne _ _ (by omega)]) (by omega)).srcA (bs_all _)
                · exact (s3.keep2 (n' := n4) (fun b k' c' e' => by cases e'; rw [← hK, upd_ne _ _ (by omega)]) (by omega)).srcA (bs_all _)
                · exact (o4.keep2 (n' := n4) (fun b k' c' e' => by cases e'; rw [← hK, upd_ne _ _ (by omega)]) (by omega)).srcA (bs_all _)
              have f5 : ∀ j, j < n + 95 → j ≠ n + 86 → j ≠ n + 91 → K5 j = K j := fun j h1 h2 h3 => by rw [← hK, upd_ne _ _ h3]; exact f j h1 h2
              clear hK f s2 s3 o4 o3 o2b g2 g3 g4
              have hof := h_Of openT (openH G e d k x (ys (k - 1))) _ [] (n + 91) 3 66 (0, 0) K5 n4 openT_size (openH_ok G x (ys (k - 1)) hd hk) hpa (by omega) j91
              rw [openF_def] at hof
              have m1 := (f5 (n + 1) (by omega) (by omega) (by omega)).trans k1
              have m2 := (f5 (n + 2) (by omega) (by omega) (by omega)).trans k2
              have m3 := (f5 (n + 3) (by omega) (by omega) (by omega)).trans k3
              have m30 := (f5 (n + 30) (by omega) (by omega) (by omega)).trans k30
              have m76 := (f5 (n + 76) (by omega) (by omega) (by omega)).trans k76
              have m93 := (f5 (n + 93) (by omega) (by omega) (by omega)).trans k93
              have mA : Agree n H K5 := fun i hi => (f5 i (by omega) (by omega) (by omega)).trans (kA i hi)
              clear f5 k1 k2 k3 k30 k56 k76 k85 k93 kA
              simp only [vcells_N, vcells_DV, gcells_eq] at m1 m2 m30 m76
              refine AGo_askV (hof) ?_
              simp (disch := first | assumption | omega) only [N_fold, N_zero, N_one, GV_fold, vcells_GV, isTup_GV, SV_fold, vcells_SV, isTup_SV, DV_fold, vcells_DV, isTup_DV, PV_fold, vcells_PV, isTup_PV, ite_lt, ite_le, bin_rem_u64, bin_quo_u64, fl_get, fl_splice, fl_splice_all, fl_length, fl_all, fl_take, cell_wK, m93, m2, m30, m76, fk_length, fk_all, fk_splice_all, fk_take, W1, sim, ↓reduceIte, Nat.reduceAdd, Nat.reduceSub, Nat.reduceMul, Nat.reduceLT, Nat.reduceLeDiff, Nat.reduceEqDiff, Nat.reduceBEq, Nat.reduceBNe, Nat.reduceMod, Nat.reduceDiv]
              refine AGo_askV (op_draw G x (openF G e d k x (ys (k - 1))) (openF_lt _ _ _ _ _ _) _ _) ?_
              refine wk5 rN rG rS rD rP ?_
              refine AGo_askV (pf_Prove G openT x G.h (openZ G x (ys (k - 1))) (drawU G x (openF G e d k x (ys (k - 1)))) _ _ openT_size) ?_
              rw [proveV_eq, openP_def]
              refine wk9 rN rG rS rD rP @hdChan_PV @m1 @m3 @m76 ?_
              exact ⟨rfl, agr⟩

            · have hinv7 : (modInv x G.q).2 = 0 → False := hinv
              rw [show openR G F S my my ks ys e d k x = (Opn.none, 7) by unfold openR; rw [hset, hnode, hsec, hin]; simp [hinv], OR_none]
              refine wk6 @c7.eq_1 rN rG rS rD rP ?_
              refine AGo_askV (dl_Setting G F S my ks _ _ _ (hv'.later (agr) (by omega))) ?_
              refine wk6 rN rG rS rD rP @hset ?_
              refine AGo_askV (op_node G F S k my cap (some ⟨b, off, none⟩) _ _ hk) ?_
              refine wk11 rN rG rS rD rP @hnode @qk rI @hB @d3 @agg_vN ?_
              refine AGo_askV (op_secret G x (ks (k - 1)).2 _ _ hhm) ?_
              refine wk11 rN rG rS rD rP @hsec @qk rI @hBy @y2 @agg_vN ?_
              refine AGo_askV (gr_In G (ys (k - 1)) _ _) ?_
              refine wk11 rN rG rS rD rP @hin @qk rI @hBy @y2 @agg_vN ?_
              refine AGo_askV (sc_Inv G x _ _) ?_
              refine wk7 rN rG rS rD rP @RV.eq_1 @hinv ?_
              exact ⟨rfl, agr⟩
        · rw [show openR G F S m my ks ys e d k x = (Opn.none, 4) by unfold openR; rw [hset, hnode, hsec, decide_eq_false hmy]; rfl, OR_none]
          refine wk6 @c7.eq_1 rN rG rS rD rP ?_
          refine AGo_askV (dl_Setting G F S m ks _ _ _ (hv'.later (agr) (by omega))) ?_
          refine wk6 rN rG rS rD rP @hset ?_
          refine AGo_askV (op_node G F S k m cap (some ⟨b, off, none⟩) _ _ hk) ?_
          refine wk11 rN rG rS rD rP @hnode @qk rI @hB @d3 @agg_vN ?_
          refine AGo_askV (op_secret G x (ks (k - 1)).2 _ _ hhm) ?_
          refine wk7 rN rG rS rD rP @hsec @hmy ?_
          exact ⟨rfl, agr⟩
theorem r16_Open (G : Grp) (F S : Int) (m my : Nat) (ks : Nat → U × U) (ys : Nat → U) (nv vv yv pv : Value) (e d k : Nat) (x Cg Sg : U) (H : Heap) (n : Nat) (he : e < B) (hd : d < 256) (hk : k < 256) (hv : KeysA n H nv m ks) (hy : NumsA n H yv my ys) : ACall Tryz.prog 8 [SV G F S nv, DV e d vv yv pv Cg Sg, .int .u8 (k : Nat), N x.val] H n (Ret (OR (openR G F S m my ks ys e d k x)) H n) := by
  refine acall_retF mix (low_OR _ _) Tryz.func8 ok8 (fun _ _ => Tryz.call8 _ _) rfl ?_
  have hv' := hv
  obtain ⟨sa, cap, rfl, hmc, hm60, hv0⟩ := hv
  have hy' := hy
  obtain ⟨sy, capy, rfl, hmyc, hmy60, hy0⟩ := hy
  cases hset : settB G F S m ks with
  | false =>
    rw [show openR G F S m my ks ys e d k x = (Opn.none, 1) by unfold openR; rw [hset]; rfl, OR_none]
    refine wk6 @c8.eq_1 rN rG rS rD rP ?_
    refine AGo_askV (r15_Setting G F S m ks _ _ _ (hv'.later (agr) (by omega))) ?_
    refine wk6 rN rG rS rD rP @hset ?_
    exact ⟨rfl, agr⟩
  | true =>
    have hset2 := settB_in hset
    have hhm := grpIn_may hset2.2
    cases hnode : nodeB m k with
    | false =>
      rw [show openR G F S m my ks ys e d k x = (Opn.none, 1) by unfold openR; rw [hset, hnode]; rfl, OR_none]
      refine wk6 @c8.eq_1 rN rG rS rD rP ?_
      refine AGo_askV (r15_Setting G F S m ks _ _ _ (hv'.later (agr) (by omega))) ?_
      refine wk6 rN rG rS rD rP @hset ?_
      refine AGo_askV (r15_Node G F S k m cap sa _ _ hk) ?_
      refine wk6 rN rG rS rD rP @hnode ?_
      exact ⟨rfl, agr⟩
    | true =>
      have hk1 : 1 ≤ k ∧ k ≤ m := by simpa [nodeB] using hnode
      have qk : (k + 255) % 256 = k - 1 := by omega
      have hlt : k - 1 < m := by omega
      rcases hv0 with h | ⟨b, off, cs, ek, fk', rfl, hb, hB, hcs⟩
      · omega
      obtain ⟨c1, c2⟩ := hcs (k - 1) hlt
      obtain ⟨d1, d2, d3⟩ := key_halves c1 c2
      rw [Nat.add_assoc] at d3
      cases hsec : secB G x (ks (k - 1)).2 with
      | false =>
        rw [show openR G F S m my ks ys e d k x = (Opn.none, 1) by unfold openR; rw [hset, hnode, hsec]; rfl, OR_none]
        refine wk6 @c8.eq_1 rN rG rS rD rP ?_
        refine AGo_askV (r15_Setting G F S m ks _ _ _ (hv'.later (agr) (by omega))) ?_
        refine wk6 rN rG rS rD rP @hset ?_
        refine AGo_askV (r15_Node G F S k m cap (some ⟨b, off, none⟩) _ _ hk) ?_
        refine wk11 rN rG rS rD rP @hnode @qk rI @hB @d3 @agg_vN ?_
        refine AGo_askV (r16_secret G x (ks (k - 1)).2 _ _ hhm) ?_
        refine wk6 rN rG rS rD rP @hsec ?_
        exact ⟨rfl, agr⟩
      | true =>
        by_cases hmy : my = m
        · subst hmy
          rcases hy0 with h | ⟨by', offy, csy, ey, fy, rfl, hby, hBy, hcsy⟩
          · omega
          obtain ⟨y1, y2⟩ := hcsy (k - 1) hlt
          cases hin : grpIn G (ys (k - 1)) with
          | false =>
            rw [show openR G F S my my ks ys e d k x = (Opn.none, 4) by unfold openR; rw [hset, hnode, hsec, hin]; simp, OR_none]
            refine wk6 @c8.eq_1 rN rG rS rD rP ?_
            refine AGo_askV (r15_Setting G F S my ks _ _ _ (hv'.later (agr) (by omega))) ?_
            refine wk6 rN rG rS rD rP @hset ?_
            refine AGo_askV (r15_Node G F S k my cap (some ⟨b, off, none⟩) _ _ hk) ?_
            refine wk11 rN rG rS rD rP @hnode @qk rI @hB @d3 @agg_vN ?_
            refine AGo_askV (r16_secret G x (ks (k - 1)).2 _ _ hhm) ?_
            refine wk11 rN rG rS rD rP @hsec @qk rI @hBy @y2 @agg_vN ?_
            refine AGo_askV (r8_In G (ys (k - 1)) _ _) ?_
            refine wk6 rN rG rS rD rP @hin ?_
            exact ⟨rfl, agr⟩
          | true =>
            by_cases hinv : (modInv x G.q).2 = 0
            · rw [show openR G F S my my ks ys e d k x = (openO G e d k x (ys (k - 1)), 0) by unfold openR; rw [hset, hnode, hsec, hin, hinv]; simp]
              refine wk6 @c8.eq_1 rN rG rS rD rP ?_
              refine AGo_askV (r15_Setting G F S my ks _ _ _ (hv'.later (agr) (by omega))) ?_
              refine wk6 rN rG rS rD rP @hset ?_
              refine AGo_askV (r15_Node G F S k my cap (some ⟨b, off, none⟩) _ _ hk) ?_
              refine wk11 rN rG rS rD rP @hnode @qk rI @hB @d3 @agg_vN ?_
              refine AGo_askV (r16_secret G x (ks (k - 1)).2 _ _ hhm) ?_
              refine wk11 rN rG rS rD rP @hsec @qk rI @hBy @y2 @agg_vN ?_
              refine AGo_askV (r8_In G (ys (k - 1)) _ _) ?_
              refine wk11 rN rG rS rD rP @hin @qk rI @hBy @y2 @agg_vN ?_
              refine AGo_askV (r9_Inv G x _ _) ?_
              refine wk7 rN rG rS rD rP @RV.eq_1 @hinv ?_
              refine AGo_askV (r8_Exp G (ys (k - 1)) (modInv x G.q).1 _ _) ?_
              simp (disch := first | assumption | omega) only [N_fold, N_zero, N_one, GV_fold, vcells_GV, isTup_GV, SV_fold, vcells_SV, isTup_SV, DV_fold, vcells_DV, isTup_DV, PV_fold, vcells_PV, isTup_PV, RV, openZ_def, ↓z32', openT_lit, W, sim, ↓reduceIte, Nat.reduceAdd, Nat.reduceSub, Nat.reduceMul, Nat.reduceLT, Nat.reduceLeDiff, Nat.reduceEqDiff, Nat.reduceBEq, Nat.reduceBNe, Nat.reduceMod, Nat.reduceDiv]
              generalize hK : upd (upd (upd (upd (upd (upd (upd (upd (upd _ _ _) _ _) _ _) _ _) _ _) _ _) _ _) _ _) _ _ = K
              have k1 : K (n + 1) = some (.cells (vcells (DV e d vv (.slice (some ⟨by', offy, none⟩) my capy) pv Cg Sg)) 35 (0, 0)) := by
                rw [← hK]
                simp (disch := first | assumption | omega) only [upd_same, upd_neq, vcells_N, w_zero]
                rfl
              have k2 : K (n + 2) = some (.cells (vcells (N x.val)) 24 (0, 0)) := by
                rw [← hK]
                simp (disch := first | assumption | omega) only [upd_same, upd_neq, vcells_N, w_zero]
              have k3 : K (n + 3) = some (.cells [.int .u64 ((0 : Nat) : Int), .int .u8 ((0 : Nat) : Int), .int .u8 ((0 : Nat) : Int), .int .u64 ((0 : Nat) : Int), .int .u64 ((0 : Nat) : Int), .int .u64 ((0 : Nat) : Int), .int .u64 ((0 : Nat) : Int), .int .u64 ((0 : Nat) : Int), .int .u64 ((0 : Nat) : Int), .int .u64 ((0 : Nat) : Int), .int .u64 ((0 : Nat) : Int), .int .u64 ((0 : Nat) : Int), .int .u64 ((0 : Nat) : Int), .int .u64 ((0 : Nat) : Int), .int .u64 ((0 : Nat) : Int)] 44 (0, 0)) := by
                rw [← hK]
                simp (disch := first | assumption | omega) only [upd_same, upd_neq, vcells_N, w_zero]
              have k30 : K (n + 30) = some (.cells (gcells G) 26 (0, 0)) := by
                rw [← hK]
                simp (disch := first | assumption | omega) only [upd_same, upd_neq, vcells_N, w_zero]
                rfl
              have k56 : K (n + 56) = some (.cells (vcells (N (ys (k - 1)).val)) 24 (0, 0)) := by
                rw [← hK]
                simp (disch := first | assumption | omega) only [upd_same, upd_neq, vcells_N, w_zero]
              have k76 : K (n + 76) = some (.cells (vcells (N (openZ G x (ys (k - 1))).val)) 24 (0, 0)) := by
                rw [← hK]
                simp (disch := first | assumption | omega) only [upd_same, upd_neq, vcells_N, w_zero]
              have k93 : K (n + 91) = some (.cells (fk .u8 32 fun _ => 0) 64 (0, 0)) := by
                rw [← hK]
                simp (disch := first | assumption | omega) only [upd_same, upd_neq, vcells_N, w_zero]
              have kA : Agree n H K := by rw [← hK]; exact agr
              clear hK
              refine AGo_makeB (r15_About e d k _ _ he hd hk) ?_
              intro v2 H2 n2 o2b hA2 hn2
              refine wk0 ?_
              refine AGo_makeB (r1_PutLong [] (ys (k - 1)).val _ _ _ (srcA_nil _ _) (by simp)) ?_
              intro v3 H3 n3 o3 hA3 hn3
              rw [List.nil_append] at o3
              refine wk0 ?_
              refine AGo_makeB (r1_PutLong [] (openZ G x (ys (k - 1))).val _ _ _ (srcA_nil _ _) (by simp)) ?_
              intro v4 H4 n4 o4 hA4 hn4
              rw [List.nil_append] at o4
              have f : ∀ j, j < n + 93 → H4 j = K j := fun j h1 => (hA4 j (by omega)).trans ((hA3 j (by omega)).trans (hA2 j h1))
              have s2 := o2b.keep2 (n' := n4) (H' := H4) (fun b k' c' e' => by have := o2b.2 _ _ _ e'; exact (hA4 b (by omega)).trans (hA3 b (by omega))) (by omega)
              have s3 := o3.keep2 (n' := n4) (H' := H4) (fun b k' c' e' => by have := o3.2 _ _ _ e'; exact hA4 b (by omega)) (by omega)
              clear hA3 hA4 hA2
              have g2 := s2.srcA (bs_all _)
              have g3 := s3.srcA (bs_all _)
              have g4 := o4.srcA (bs_all _)
              obtain ⟨b2, kb2, cb2, rfl⟩ := s2.form
              obtain ⟨b3, kb3, cb3, rfl⟩ := s3.form
              obtain ⟨b4, kb4, cb4, rfl⟩ := o4.form
              have hb2 := o2b.low rfl
              have hb3 := o3.low rfl
              have hb4 := o4.low rfl
              refine wk0 ?_
              generalize hK : upd H4 (n + 89) _ = K5
              have j91 : K5 (n + 89) = some (.cells ([.slice (some ⟨b2, 0, none⟩) kb2 cb2, .slice (some ⟨b3, 0, none⟩) kb3 cb3, .slice (some ⟨b4, 0, none⟩) kb4 cb4] ++ []) 66 (0, 0)) := by rw [← hK, upd_same]; rfl
              have hpa : PartsA n4 K5 [.slice (some ⟨b2, 0, none⟩) kb2 cb2, .slice (some ⟨b3, 0, none⟩) kb3 cb3, .slice (some ⟨b4, 0, none⟩) kb4 cb4] (openH G e d k x (ys (k - 1))) := by
                refine PartsA.cons ?_ s2.capd (PartsA.cons ?_ s3.capd (PartsA.cons ?_ o4.capd (PartsA.nil _ _)))
                · exact (s2.keep2 (n' := n4) (fun b k' c' e' => by cases e'; rw [← hK, upd_ne _ _ (by omega)]) (by omega)).srcA (bs_all _)
                · exact (s3.keep2 (n' := n4) (fun b k' c' e' => by cases e'; rw [← hK, upd_ne _ _ (by omega)]) (by omega)).srcA (bs_all _)
                · exact (o4.keep2 (n' := n4) (fun b k' c' e' => by cases e'; rw [← hK, upd_ne _ _ (by omega)]) (by omega)).srcA (bs_all _)
              have f5 : ∀ j, j < n + 93 → j ≠ n + 89 → K5 j = K j := fun j h1 h3 => by rw [← hK, upd_ne _ _ h3]; exact f j h1
              clear hK f s2 s3 o4 o3 o2b g2 g3 g4
              have hof := r6_Of openT (openH G e d k x (ys (k - 1))) _ [] (n + 89) 3 66 (0, 0) K5 n4 openT_size (openH_ok G x (ys (k - 1)) hd hk) hpa (by omega) j91
              rw [openF_def] at hof
              have m1 := (f5 (n + 1) (by omega) (by omega)).trans k1
              have m2 := (f5 (n + 2) (by omega) (by omega)).trans k2
              have m3 := (f5 (n + 3) (by omega) (by omega)).trans k3
              have m30 := (f5 (n + 30) (by omega) (by omega)).trans k30
              have m76 := (f5 (n + 76) (by omega) (by omega)).trans k76
              have m93 := (f5 (n + 91) (by omega) (by omega)).trans k93
              have mA : Agree n H K5 := fun i hi => (f5 i (by omega) (by omega)).trans (kA i hi)
              clear f5 k1 k2 k3 k30 k56 k76 k93 kA
              simp only [vcells_N, vcells_DV, gcells_eq] at m1 m2 m30 m76
              refine AGo_askV (hof) ?_
              simp (disch := first | assumption | omega) only [N_fold, N_zero, N_one, GV_fold, vcells_GV, isTup_GV, SV_fold, vcells_SV, isTup_SV, DV_fold, vcells_DV, isTup_DV, PV_fold, vcells_PV, isTup_PV, ite_lt, ite_le, bin_rem_u64, bin_quo_u64, fl_get, fl_splice, fl_splice_all, fl_length, fl_all, fl_take, cell_wK, m93, m2, m30, m76, fk_length, fk_all, fk_splice_all, fk_take, W1, sim, ↓reduceIte, Nat.reduceAdd, Nat.reduceSub, Nat.reduceMul, Nat.reduceLT, Nat.reduceLeDiff, Nat.reduceEqDiff, Nat.reduceBEq, Nat.reduceBNe, Nat.reduceMod, Nat.reduceDiv]
              refine AGo_askV (r15_Draw G x (openF G e d k x (ys (k - 1))) (openF_lt _ _ _ _ _ _) _ _) ?_
              refine wk5 rN rG rS rD rP ?_
              refine AGo_askV (r14_Prove G openT x G.h (openZ G x (ys (k - 1))) (drawU G x (openF G e d k x (ys (k - 1)))) _ _ openT_size) ?_
              rw [proveV_eq, openP_def]
              refine wk9 rN rG rS rD rP @hdChan_PV @m1 @m3 @m76 ?_
              exact ⟨rfl, agr⟩

            · have hinv7 : (modInv x G.q).2 = 0 → False := hinv
              rw [show openR G F S my my ks ys e d k x = (Opn.none, 7) by unfold openR; rw [hset, hnode, hsec, hin]; simp [hinv], OR_none]
              refine wk6 @c8.eq_1 rN rG rS rD rP ?_
              refine AGo_askV (r15_Setting G F S my ks _ _ _ (hv'.later (agr) (by omega))) ?_
              refine wk6 rN rG rS rD rP @hset ?_
              refine AGo_askV (r15_Node G F S k my cap (some ⟨b, off, none⟩) _ _ hk) ?_
              refine wk11 rN rG rS rD rP @hnode @qk rI @hB @d3 @agg_vN ?_
              refine AGo_askV (r16_secret G x (ks (k - 1)).2 _ _ hhm) ?_
              refine wk11 rN rG rS rD rP @hsec @qk rI @hBy @y2 @agg_vN ?_
              refine AGo_askV (r8_In G (ys (k - 1)) _ _) ?_
              refine wk11 rN rG rS rD rP @hin @qk rI @hBy @y2 @agg_vN ?_
              refine AGo_askV (r9_Inv G x _ _) ?_
              refine wk7 rN rG rS rD rP @RV.eq_1 @hinv ?_
              exact ⟨rfl, agr⟩
        · rw [show openR G F S m my ks ys e d k x = (Opn.none, 4) by unfold openR; rw [hset, hnode, hsec, decide_eq_false hmy]; rfl, OR_none]
          refine wk6 @c8.eq_1 rN rG rS rD rP ?_
          refine AGo_askV (r15_Setting G F S m ks _ _ _ (hv'.later (agr) (by omega))) ?_
          refine wk6 rN rG rS rD rP @hset ?_
          refine AGo_askV (r15_Node G F S k m cap (some ⟨b, off, none⟩) _ _ hk) ?_
          refine wk11 rN rG rS rD rP @hnode @qk rI @hB @d3 @agg_vN ?_
          refine AGo_askV (r16_secret G x (ks (k - 1)).2 _ _ hhm) ?_
          refine wk7 rN rG rS rD rP @hsec @hmy ?_
          exact ⟨rfl, agr⟩
end Go.Proofs.YtcjchcommaahdaaGreat

/- What is hashed, and as what. What the document hashes. A hash as a number: the program's half of it. No conditions. -/
import Derived.Test.YtcjchcommaahdaaGreatQ12
import Derived.Test.YtcjchcommaahdaaGreatQ26
set_option maxRecDepth 20000
set_option maxHeartbeats 4000000
set_option linter.all false
namespace Go.Proofs.YtcjchcommaahdaaGreat
open Go.Ab
/-- A text's bytes. -/
def txt (t : ByteArray) : List Nat := t.data.toList.map UInt8.toNat
theorem txt_length (t : ByteArray) : (txt t).length = t.size := by unfold txt; rw [List.length_map]; rfl
theorem txt_lt (t : ByteArray) : ∀ c, c ∈ txt t → c < 256 := by
  intro c hc
  simp only [txt, List.mem_map] at hc
  obtain ⟨b, _, rfl⟩ := hc
  exact b.toNat_lt
theorem txt_bs (t : ByteArray) : t.data.toList.map (fun b : UInt8 => Value.int .u8 b.toNat) = bs (txt t) := by simp [bs, txt]
/-- A slice's room is not less than it is long. -/
def Capd (v : Value) : Prop := ∀ sa m xc, v = .slice sa m xc → m ≤ xc
theorem capd_nil : Capd (.slice none 0 0) := by intro _ _ _ h; cases h; omega
theorem _root_.Go.Ab.OwnB.capd {nb n : Nat} {H : Heap} {v : Value} {l : List Value} {e : TypeId} {esz : Nat} (h : OwnB nb n H v l e esz) : Capd v := by
  obtain ⟨⟨b, k, cap, rest, rfl, hb, hB, hl, hr, hkc, _⟩, hbn⟩ := h
  intro _ _ _ e; cases e; exact hkc
theorem bys_of {H H' : Heap} {n n' p : Nat} {v : Value} {l : List Nat} (h : SrcA n H v (bs l) 1) (hc : Capd v) (hp : n ≤ p) (hA : ∀ i, i < n → H' i = H i) (hn : n ≤ n') : Bys H' n' p v l := by
  have h1 := h (fun i => if i < n then H i else none) (fun i hi => by simp [hi])
  have h2 := h H' hA
  obtain ⟨sa, m, xc, rfl, hl, hs1, -⟩ := h1
  obtain ⟨_, _, _, he, _, hs2, _⟩ := h2
  cases he
  rw [bs_length, Nat.mul_one] at hl
  rw [Nat.mul_one] at hs1 hs2
  cases sa with
  | none =>
    simp only [srcCells] at hs1
    have h0 : l = [] := by
      cases l with
      | nil => rfl
      | cons x l => simp [bs] at hs1
    subst h0; simp at hl; subst hl
    exact .inl ⟨xc, rfl, rfl⟩
  | some a =>
    obtain ⟨b, off, sp⟩ := a
    cases sp with
    | some _ => simp [srcCells] at hs1
    | none =>
      simp only [srcCells] at hs1 hs2
      by_cases hb : b < n
      · cases hB : H' b with
        | none => rw [hB] at hs2; simp at hs2
        | some o =>
          cases o with
          | cells c e fz =>
            rw [hB] at hs2
            simp only at hs2
            split at hs2
            · rename_i hle
              subst hl
              refine .inr ⟨b, off, xc, c, e, fz, rfl, by omega, by omega, hB, hle, by simpa using hs2, hc _ _ _ rfl⟩
            · cases hs2
          | _ => rw [hB] at hs2; simp at hs2
      · rw [if_neg hb] at hs1; simp at hs1
/-- Parts, each a list of bytes. -/
def PartsA (n : Nat) (H : Heap) (vs : List Value) (ps : List (List Nat)) : Prop := vs.length = ps.length ∧ ∀ (i : Nat) v p, vs[i]? = some v → ps[i]? = some p → SrcA n H v (bs p) 1 ∧ Capd v
theorem PartsA.nil (n : Nat) (H : Heap) : PartsA n H [] [] := ⟨rfl, fun i v p h => by simp at h⟩
theorem PartsA.cons {n : Nat} {H : Heap} {v : Value} {p : List Nat} {vs : List Value} {ps : List (List Nat)} (h : SrcA n H v (bs p) 1) (hc : Capd v) (h2 : PartsA n H vs ps) : PartsA n H (v :: vs) (p :: ps) :=
  ⟨by simp [h2.1], fun i v p h3 h4 => by
    cases i with
    | zero => simp at h3 h4; subst h3 h4; exact ⟨h, hc⟩
    | succ i => simp at h3 h4; exact h2.2 i v p h3 h4⟩
theorem PartsA.snoc {n : Nat} {H : Heap} {v : Value} {p : List Nat} {vs : List Value} {ps : List (List Nat)} (h2 : PartsA n H vs ps) (h : SrcA n H v (bs p) 1) (hc : Capd v) : PartsA n H (vs ++ [v]) (ps ++ [p]) :=
  ⟨by simp [h2.1], fun i v' p' h3 h4 => by
    by_cases hi : i < vs.length
    · rw [List.getElem?_append_left hi] at h3; rw [List.getElem?_append_left (by rw [← h2.1]; exact hi)] at h4; exact h2.2 i v' p' h3 h4
    · by_cases hi2 : i = vs.length
      · subst hi2; rw [List.getElem?_append_right (Nat.le_refl _)] at h3; rw [List.getElem?_append_right (by rw [h2.1]; exact Nat.le_refl _)] at h4
        rw [h2.1] at h3 h4; simp at h3 h4; subst h3 h4; exact ⟨h, hc⟩
      · rw [List.getElem?_eq_none (by simp; omega)] at h3; cases h3⟩
theorem PartsA.later {n n' : Nat} {H H' : Heap} {vs : List Value} {ps : List (List Nat)} (h : PartsA n H vs ps) (ha : ∀ i, i < n → H' i = H i) (hn : n ≤ n') : PartsA n' H' vs ps :=
  ⟨h.1, fun i v p h3 h4 => ⟨(h.2 i v p h3 h4).1.later ha hn, (h.2 i v p h3 h4).2⟩⟩
def Bounded (ps : List (List Nat)) : Prop := ps.length ≤ 200 ∧ ∀ p, p ∈ ps → p.length ≤ 100000 ∧ ∀ c, c ∈ p → c < 256
/-- What is hashed. -/
def enc (t : ByteArray) (ps : List (List Nat)) : List Nat := withN (txt t) ++ bel 4 ps.length ++ (ps.map withN).flatten
theorem withN_length (l : List Nat) : (withN l).length = 4 + l.length := by simp [withN, bel_length]
theorem withN_lt {l : List Nat} (h : ∀ c, c ∈ l → c < 256) : ∀ c, c ∈ withN l → c < 256 := by
  intro c hc
  simp only [withN, List.mem_append] at hc
  exact hc.elim (bel_lt _ _ _) (h c)
theorem parts_length {ps : List (List Nat)} (h : ∀ p, p ∈ ps → p.length ≤ 100000) : ((ps.map withN).flatten).length ≤ ps.length * 100004 := by
  induction ps with
  | nil => simp
  | cons p ps ih =>
    have h1 := h p (by simp)
    have h2 := ih fun q hq => h q (by simp [hq])
    rw [List.map_cons, List.flatten_cons, List.length_append, withN_length, List.length_cons, Nat.add_mul]; omega
theorem enc_length {t : ByteArray} {ps : List (List Nat)} (ht : t.size ≤ 1000) (h : Bounded ps) : (enc t ps).length ≤ 30000000 := by
  have h1 := parts_length fun p hp => (h.2 p hp).1
  have h2 : ps.length * 100004 ≤ 200 * 100004 := Nat.mul_le_mul_right _ h.1
  unfold enc
  rw [List.length_append, List.length_append, withN_length, bel_length, txt_length]; omega
theorem parts_lt {ps : List (List Nat)} (h : ∀ p, p ∈ ps → ∀ c, c ∈ p → c < 256) : ∀ c, c ∈ (ps.map withN).flatten → c < 256 := by
  intro c hc
  simp only [List.mem_flatten, List.mem_map] at hc
  obtain ⟨_, ⟨p, hp, rfl⟩, hc⟩ := hc
  exact withN_lt (h p hp) c hc
theorem enc_lt {t : ByteArray} {ps : List (List Nat)} (h : Bounded ps) : ∀ c, c ∈ enc t ps → c < 256 := by
  intro c hc
  simp only [enc, List.mem_append] at hc
  rcases hc with (hc | hc) | hc
  · exact withN_lt (txt_lt t) c hc
  · exact bel_lt _ _ _ hc
  · exact parts_lt (fun p hp => (h.2 p hp).2) c hc
theorem enc_take (t : ByteArray) (ps : List (List Nat)) (i : Nat) (p : List Nat) (h : ps[i]? = some p) : ((ps.take (i + 1)).map withN).flatten = ((ps.take i).map withN).flatten ++ bel 4 p.length ++ p := by
  rw [List.take_add_one, h, List.map_append, List.flatten_append]; simp [withN]
theorem AGo_wroteV {P : Program} {res : ALeave} {k : List AItem} {tm : List Value} {H : Heap} {n n0 : Nat} {R : Post} {dst : Option Nat} {f : Opd} {args ap : List Opd} {ops : List AOper} {xs : List Value} {g : FuncId} {first cap : Array Value} {p : Nat} {l : List Value} {v : Value}
    (hc : ACall P g (first.toList ++ xs ++ cap.toList) H n (Wrote p l v n H)) (h : ∀ H' n', H' p = some (.cells l SMty (0, 0)) → (∀ i, i < n → i ≠ p → H' i = H i) → n ≤ n' → AGo P res (.inReg n0 false ops :: k) (put tm dst v) H' n' R) :
    CallV P res n0 false dst f args ap ops k tm H n R (.func (.func g) first cap) xs := by
  refine AGo_callQV (fun v' H' _ => v' = v ∧ H' p = some (.cells l SMty (0, 0)) ∧ ∀ i, i < n → i ≠ p → H' i = H i) (hc.mono ?_) (fun h => by cases h) ?_
  · rintro e H' n' ⟨h1, h2, h3⟩ _ _; exact ⟨_, h1, rfl, h2, h3⟩
  · rintro v H' n' ⟨rfl, h2, h3⟩ hn; exact h H' n' h2 h3 hn
theorem srcA_nil (n : Nat) (H : Heap) : SrcA n H (.slice none 0 0) (bs []) 1 := SrcA.nil _ _ _
theorem z32' : [Value.int .u8 ((0 : Nat) : Int), Value.int .u8 ((0 : Nat) : Int), Value.int .u8 ((0 : Nat) : Int), Value.int .u8 ((0 : Nat) : Int), Value.int .u8 ((0 : Nat) : Int), Value.int .u8 ((0 : Nat) : Int), Value.int .u8 ((0 : Nat) : Int), Value.int .u8 ((0 : Nat) : Int), Value.int .u8 ((0 : Nat) : Int), Value.int .u8 ((0 : Nat) : Int), Value.int .u8 ((0 : Nat) : Int), Value.int .u8 ((0 : Nat) : Int), Value.int .u8 ((0 : Nat) : Int), Value.int .u8 ((0 : Nat) : Int), Value.int .u8 ((0 : Nat) : Int), Value.int .u8 ((0 : Nat) : Int), Value.int .u8 ((0 : Nat) : Int), Value.int .u8 ((0 : Nat) : Int), Value.int .u8 ((0 : Nat) : Int), Value.int .u8 ((0 : Nat) : Int), Value.int .u8 ((0 : Nat) : Int), Value.int .u8 ((0 : Nat) : Int), Value.int .u8 ((0 : Nat) : Int), Value.int .u8 ((0 : Nat) : Int), Value.int .u8 ((0 : Nat) : Int), Value.int .u8 ((0 : Nat) : Int), Value.int .u8 ((0 : Nat) : Int), Value.int .u8 ((0 : Nat) : Int), Value.int .u8 ((0 : Nat) : Int), Value.int .u8 ((0 : Nat) : Int), Value.int .u8 ((0 : Nat) : Int), Value.int .u8 ((0 : Nat) : Int)] = fk .u8 32 (fun _ => 0) := rfl
theorem s0_feed_many (l : List Nat) : (s0.feed l).many = l.length := by rw [feed_many, s0_many, Nat.zero_add]
theorem s0_feed_ok {l : List Nat} (h : ∀ c, c ∈ l → c < 256) : (s0.feed l).Ok := feed_ok _ _ s0_ok h
attribute [local irreducible] cmpr h0 SM fk bs zc74 s0 kc bel pre long
theorem h_Of (t : ByteArray) (ps : List (List Nat)) (vs rest : List Value) (bp cap : Nat) (e : TypeId) (fz : Nat × Nat) (H : Heap) (n : Nat) (ht : t.size ≤ 1000) (hps : Bounded ps) (hvs : PartsA n H vs ps) (hbp : bp < n) (hH : H bp = some (.cells (vs ++ rest) e fz)) : ACall Tryz.prog 22 [.string t, .slice (some ⟨bp, 0, none⟩) ps.length cap] H n (Ret (.agg ⟨fk .u8 32 (sha (enc t ps))⟩) H n) := by
  refine acall_retF mix lw Tryz.func22 ok22 (fun _ _ => Tryz.call22 _ _) rfl ?_
  have hel := enc_length ht hps
  have hvl := hvs.1
  have hpl := hps.1
  simp (disch := first | assumption | omega) only [c22, ↓z32', W, sim, ↓reduceIte, Nat.reduceAdd, Nat.reduceSub, Nat.reduceMul, Nat.reduceLT, Nat.reduceLeDiff, Nat.reduceEqDiff, Nat.reduceBEq, Nat.reduceBNe, Nat.reduceMod, Nat.reduceDiv]
  refine AGo_callQV (fun v' H' n' => ∃ p, v' = .pointer (some ⟨p, 0, none⟩) ∧ n + 3 ≤ p ∧ p < n' ∧ H' p = some (.cells (SM s0) SMty (0, 0)) ∧ Agree (n + 3) (upd H n (.cells (fk .u8 32 fun _ => 0) 64 (0, 0))) H') ((sha_New _ _).mono ?_) (fun h => by cases h) ?_
  · rintro e H' n' ⟨p, h1, h2, h3, h4, h5⟩ _ _
    exact ⟨_, h1, p, rfl, h2, h3, h4, h5⟩
  rintro v1 H1 n1 ⟨p, rfl, hp, hp1, f1, hA⟩ hn1
  have f0 : H1 n = some (.cells (fk .u8 32 fun _ => 0) 64 (0, 0)) := by rw [hA _ (by omega), upd_same]
  have fA : Agree n H H1 := fun i hi => by rw [hA _ (by omega), upd_ne _ _ (by omega)]
  clear hA
  refine wk0 ?_
  refine op_strBytes _ _ t (by omega) ?_ _ rfl
  intro cp hc1 hc2
  rw [txt_bs]
  generalize hG : upd H1 _ _ = G1
  have f2 : G1 (n1 + 2) = some (.cells (bs (txt t) ++ List.replicate (cp - t.size) (Value.int .u8 0)) 5 (cp, cp + 1)) := by rw [← hG, upd_same]
  have gA : ∀ i, i ≠ n1 + 2 → G1 i = H1 i := fun i hi => by rw [← hG, upd_ne _ _ hi]
  refine wk0 ?_
  refine AGo_makeB (nums_PutBytes [] (txt t) _ _ G1 _ (srcA_nil _ _) (SrcA.of_block (by omega) f2 (by rw [List.length_append, bs_length, txt_length]; omega) (by rw [List.drop_zero, Nat.mul_one, ← txt_length, ← bs_length, List.take_left]) (bs_all _)) (by rw [txt_length]; simp; omega)) ?_
  intro v2 H2 n2 o2 hA2 hn2
  rw [List.nil_append] at o2
  have k2 : H2 p = some (.cells (SM s0) SMty (0, 0)) := by rw [hA2 _ (by omega), gA _ (by omega)]; exact f1
  replace f0 : H2 n = some (.cells (fk .u8 32 fun _ => 0) 64 (0, 0)) := by rw [hA2 _ (by omega), gA _ (by omega)]; exact f0
  replace fA : Agree n H H2 := fun i hi => by rw [hA2 _ (by omega), gA _ (by omega)]; exact fA i hi
  clear f1 hA2 gA f2 hG
  refine wk0 ?_
  refine AGo_wroteV (sha_Write s0 _ p v2 H2 n2 (by omega) k2 s0_ok (withN_lt (txt_lt t)) (by rw [s0_many, withN_length, txt_length]; omega) (o2.bys (by omega))) ?_
  intro H3 n3 k3 hA3 hn3
  replace f0 := (hA3 n (by omega) (by omega)).trans f0
  replace fA : Agree n H H3 := fun i hi => (hA3 i (by omega) (by omega)).trans (fA i hi)
  clear k2 hA3 o2
  have q1 : ps.length % B = ps.length := Nat.mod_eq_of_lt (by rw [B_eq]; omega)
  refine wk2 @u64_wrap @q1 ?_
  refine AGo_makeB (nums_Put [] 4 ps.length _ _ _ (srcA_nil _ _) (by omega) (by rw [B_eq]; omega) (by simp)) ?_
  intro v4 H4 n4 o4 hA4 hn4
  rw [List.nil_append] at o4
  replace k3 := (hA4 p (by omega)).trans k3
  replace f0 := (hA4 n (by omega)).trans f0
  replace fA : Agree n H H4 := fun i hi => (hA4 i (by omega)).trans (fA i hi)
  clear hA4
  refine wk0 ?_
  refine AGo_wroteV (sha_Write _ _ p v4 H4 n4 (by omega) k3 (s0_feed_ok (withN_lt (txt_lt t))) (bel_lt _ _) (by rw [s0_feed_many, withN_length, txt_length, bel_length]; omega) (o4.bys (by omega))) ?_
  intro H5 n5 k5 hA5 hn5
  replace f0 := (hA5 n (by omega) (by omega)).trans f0
  replace fA : Agree n H H5 := fun i hi => (hA5 i (by omega) (by omega)).trans (fA i hi)
  clear k3 hA5 o4
  rw [← feed_append] at k5
  refine wk0 ?_
  refine AGo_cycleD (α := Nat) 23 38 (fun i => [(22, .int .i64 (i : Nat))]) (fun i H' n' => i ≤ ps.length ∧ n5 ≤ n' ∧ H' p = some (.cells (SM (s0.feed (withN (txt t) ++ bel 4 ps.length ++ ((ps.take i).map withN).flatten))) SMty (0, 0)) ∧ H' n = some (.cells (fk .u8 32 fun _ => 0) 64 (0, 0)) ∧ Agree n H H') (fun i H' n' => n5 ≤ n' ∧ H' p = some (.cells (SM (s0.feed (enc t ps))) SMty (0, 0)) ∧ H' n = some (.cells (fk .u8 32 fun _ => 0) 64 (0, 0)) ∧ Agree n H H') (fun i => ps.length - i) (0) ?_ (by simp only [subs_nil, subs_if, lk_if, lk_nil, dropR_nil, dropR_cons, Nat.reduceLT, List.cons_append, List.nil_append, List.elem_nil, List.elem_cons, Nat.reduceBEq, beq_self_eq_true, Bool.true_or, Bool.false_or, Bool.or_true, Bool.or_false, Bool.false_eq_true, ↓reduceIte, if_true, if_false, Nat.reduceEqDiff, and_self, and_true, true_and, eq_self]) ?_ ?_
  · refine ⟨Nat.zero_le _, by omega, ?_, f0, fA⟩
    rw [List.take_zero, List.map_nil, List.flatten_nil, List.append_nil]; exact k5
  · clear k5 f0 fA
    rintro i H' n' kk ⟨hi, hn, k5, f0, fA⟩ hK hS
    simp only [List.cons_append, List.nil_append, dropR_nil, dropR_cons, Nat.reduceLT, ↓reduceIte]
    by_cases hlt : i < ps.length
    · have hpi : ps[i]? = some ps[i] := List.getElem?_eq_getElem hlt
      have hvi : vs[i]? = some vs[i] := List.getElem?_eq_getElem (by omega)
      have hvi2 : (vs ++ rest)[i]? = some vs[i] := by rw [List.getElem?_append_left (by omega)]; exact hvi
      obtain ⟨hsr, hcp⟩ := hvs.2 i _ _ hvi hpi
      have hbd := hps.2 _ (List.getElem_mem hlt)
      have htk := enc_take t ps i _ hpi
      have hln : (withN (txt t) ++ bel 4 ps.length ++ ((ps.take i).map withN).flatten).length ≤ 30000000 := by
        have h2 : ((ps.take i).map withN).flatten.length ≤ ((ps.take i).length) * 100004 := parts_length fun q hq => (hps.2 q (List.mem_of_mem_take hq)).1
        rw [List.length_take, Nat.min_eq_left hi] at h2
        rw [List.length_append, List.length_append, withN_length, txt_length, bel_length]; omega
      have hlc : ∀ c, c ∈ withN (txt t) ++ bel 4 ps.length ++ ((ps.take i).map withN).flatten → c < 256 := by
        intro c hc
        simp only [List.mem_append] at hc
        rcases hc with (hc | hc) | hc
        · exact withN_lt (txt_lt t) c hc
        · exact bel_lt _ _ _ hc
        · exact parts_lt (fun q hq => (hps.2 q (List.mem_of_mem_take hq)).2) c hc
      generalize vs[i] = v at hvi hvi2 hsr hcp
      generalize ps[i] = q at hpi hsr hbd htk
      generalize hE : withN (txt t) ++ bel 4 ps.length ++ ((ps.take i).map withN).flatten = E at k5 hln hlc
      have hnx : withN (txt t) ++ bel 4 ps.length ++ ((ps.take (i + 1)).map withN).flatten = E ++ bel 4 q.length ++ q := by rw [htk, ← hE]; simp only [List.append_assoc]
      have hB' : H' bp = some (.cells (vs ++ rest) e fz) := by rw [fA bp hbp]; exact hH
      have hsr' := hsr
      obtain ⟨sa, m, xc, rfl, hlm, -, -⟩ := hsr.here
      rw [bs_length, Nat.mul_one] at hlm
      have q1 : m % B = m := Nat.mod_eq_of_lt (by rw [B_eq]; omega)
      refine AGo_turn ?_
      refine wl6 rL @hlt @hB' @hvi2 @u64_wrap @q1 ?_
      refine AGo_makeB (nums_Put [] 4 m _ _ _ (srcA_nil _ _) (by omega) (by rw [B_eq]; omega) (by simp)) ?_
      intro v6 H6 n6 o6 hA6 hn6
      rw [List.nil_append, ← hlm] at o6
      replace k5 := (hA6 p (by omega)).trans k5
      replace f0 := (hA6 n (by omega)).trans f0
      replace fA : Agree n H H6 := fun i hi => (hA6 i (by omega)).trans (fA i hi)
      clear hA6
      refine wk0 ?_
      refine AGo_wroteV (sha_Write _ _ p v6 H6 n6 (by omega) k5 (s0_feed_ok hlc) (bel_lt _ _) (by rw [s0_feed_many, bel_length]; omega) (o6.bys (by omega))) ?_
      intro H7 n7 k7 hA7 hn7
      replace f0 := (hA7 n (by omega) (by omega)).trans f0
      replace fA : Agree n H H7 := fun i hi => (hA7 i (by omega) (by omega)).trans (fA i hi)
      clear k5 hA7 o6
      rw [← feed_append] at k7
      refine wk0 ?_
      refine AGo_wroteV (sha_Write _ q p _ H7 _ (by omega) k7 (s0_feed_ok ?_) hbd.2 (by rw [s0_feed_many, List.length_append, bel_length]; omega) (bys_of hsr' hcp (by omega) fA (by omega))) ?_
      · intro c hc
        exact (List.mem_append.1 hc).elim (hlc c) (bel_lt _ _ _)
      intro H8 n8 k8 hA8 hn8
      replace f0 := (hA8 n (by omega) (by omega)).trans f0
      replace fA : Agree n H H8 := fun i hi => (hA8 i (by omega) (by omega)).trans (fA i hi)
      rw [← feed_append, ← hnx] at k8
      refine wk0 ?_
      refine AGo_le ?_ (hS (i + 1) _ _ ⟨by omega, by omega, k8, f0, fA⟩ (by omega))
      · simp only [subs_nil, subs_if, lk_if, lk_nil, dropR_nil, dropR_cons, Nat.reduceLT, List.cons_append, List.nil_append, List.elem_nil, List.elem_cons, Nat.reduceBEq, beq_self_eq_true, Bool.true_or, Bool.false_or, Bool.or_true, Bool.or_false, Bool.false_eq_true, ↓reduceIte, if_true, if_false, Nat.reduceEqDiff, and_self, and_true, true_and, eq_self]
    · have hip : i = ps.length := by omega
      subst hip
      rw [List.take_of_length_le (Nat.le_refl _)] at k5
      refine AGo_turn ?_
      refine wk1 @hlt ?_
      refine AGo_markL ?_ (hK ps.length _ _ ⟨by omega, k5, f0, fA⟩)
      · simp only [subs_nil, subs_if, lk_if, lk_nil, dropR_nil, dropR_cons, Nat.reduceLT, List.cons_append, List.nil_append, List.elem_nil, List.elem_cons, Nat.reduceBEq, beq_self_eq_true, Bool.true_or, Bool.false_or, Bool.or_true, Bool.or_false, Bool.false_eq_true, ↓reduceIte, if_true, if_false, Nat.reduceEqDiff, and_self, and_true, true_and, eq_self]
  clear k5 f0 fA
  rintro i H' n' ⟨hn', k5, f0, fA⟩
  simp only [List.cons_append, List.nil_append, dropR_nil, dropR_cons, Nat.reduceLT, ↓reduceIte]
  refine wk0 ?_
  refine AGo_askV (sha_Hash _ p _ _ (by omega) k5 (s0_feed_ok (enc_lt hps)) (by rw [s0_feed_many]; omega)) ?_
  refine wl6 rL @f0 @fk_length @fk_all @fk_take @fk_splice_all ?_
  exact ⟨rfl, agr⟩
end Go.Proofs.YtcjchcommaahdaaGreat
namespace Go.Proofs.YtcjchcommaahdaaGreat
open Go.Ab
theorem enc_ne (t : ByteArray) (ps : List (List Nat)) : enc t ps ≠ [] := by
  intro h
  have := congrArg List.length h
  simp [enc, withN_length] at this
attribute [local irreducible] cmpr h0 SM fk bs zc74 s0 kc bel pre long
theorem r6_Bytes (t : ByteArray) (ps : List (List Nat)) (vs rest : List Value) (bp cap : Nat) (e : TypeId) (fz : Nat × Nat) (H : Heap) (n : Nat) (ht : t.size ≤ 1000) (hps : Bounded ps) (hvs : PartsA n H vs ps) (hbp : bp < n) (hH : H bp = some (.cells (vs ++ rest) e fz)) : ACall Tryz.prog 72 [.string t, .slice (some ⟨bp, 0, none⟩) ps.length cap] H n (Makes n H (bs (enc t ps)) 5 1) := by
  refine acall_ofF mix Tryz.func72 ok72 (fun _ _ => Tryz.call72 _ _) rfl ?_
  have hel := enc_length ht hps
  have hvl := hvs.1
  have hpl := hps.1
  refine wk1 @c72.eq_1 ?_
  refine op_strBytes _ _ t (by omega) ?_ _ rfl
  intro cp hc1 hc2
  rw [txt_bs]
  generalize hG : upd H _ _ = G1
  have f2 : G1 (n + 2) = some (.cells (bs (txt t) ++ List.replicate (cp - t.size) (Value.int .u8 0)) 5 (cp, cp + 1)) := by rw [← hG, upd_same]
  have gA : Agree n H G1 := fun i hi => by rw [← hG, upd_ne _ _ (by omega)]
  refine wk0 ?_
  refine AGo_makeB (r1_PutBytes [] (txt t) _ _ G1 _ (srcA_nil _ _) (SrcA.of_block (by omega) f2 (by rw [List.length_append, bs_length, txt_length]; omega) (by rw [List.drop_zero, Nat.mul_one, ← txt_length, ← bs_length, List.take_left]) (bs_all _)) (by rw [txt_length]; simp; omega) (by rw [txt_length]; omega)) ?_
  intro v2 H2 n2 o2 hA2 hn2
  rw [List.nil_append] at o2
  have fA : Agree n H H2 := fun i hi => by rw [hA2 _ (by omega)]; exact gA i hi
  clear hA2 gA f2 hG
  have q1 : ps.length % B = ps.length := Nat.mod_eq_of_lt (by rw [B_eq]; omega)
  refine wk2 @u64_wrap @q1 ?_
  refine AGo_makeB (r1_Put _ 4 ps.length _ _ _ ((o2.srcA (bs_all _)).later (fun _ _ => rfl) (by omega)) (by omega) (by omega) (by rw [B_eq]; omega) (by rw [withN_length, txt_length]; omega)) ?_
  intro v4 H4 n4 o4 hA4 hn4
  replace fA : Agree n H H4 := fun i hi => (hA4 i (by omega)).trans (fA i hi)
  clear hA4 o2
  refine wk0 ?_
  refine AGo_cycleD (α := (Nat × Value)) 15 28 (fun x => [(6, .int .i64 (x.1 : Nat)), (5, x.2)]) (fun x H' n' => x.1 ≤ ps.length ∧ n ≤ n' ∧ OwnB n n' H' x.2 (bs (withN (txt t) ++ bel 4 ps.length ++ ((ps.take x.1).map withN).flatten)) 5 1 ∧ Agree n H H') (fun x H' n' => OwnB n n' H' x.2 (bs (enc t ps)) 5 1 ∧ Agree n H H') (fun x => ps.length - x.1) ((0, v4)) ?_ (by simp only [subs_nil, subs_if, lk_if, lk_nil, dropR_nil, dropR_cons, Nat.reduceLT, List.cons_append, List.nil_append, List.elem_nil, List.elem_cons, Nat.reduceBEq, beq_self_eq_true, Bool.true_or, Bool.false_or, Bool.or_true, Bool.or_false, Bool.false_eq_true, ↓reduceIte, if_true, if_false, Nat.reduceEqDiff, and_self, and_true, true_and, eq_self]) ?_ ?_
  · refine ⟨Nat.zero_le _, by omega, ?_, fA⟩
    rw [List.take_zero, List.map_nil, List.flatten_nil, List.append_nil]; exact (o4.weaken (by omega)).keep (fun _ _ _ => rfl) (by omega)
  · clear o4 fA
    rintro ⟨i, w⟩ H' n' kk ⟨hi, hn, ho, fA⟩ hK hS
    simp only at hi ho
    simp only [List.cons_append, List.nil_append, dropR_nil, dropR_cons, Nat.reduceLT, ↓reduceIte]
    by_cases hlt : i < ps.length
    · have hpi : ps[i]? = some ps[i] := List.getElem?_eq_getElem hlt
      have hvi : vs[i]? = some vs[i] := List.getElem?_eq_getElem (by omega)
      have hvi2 : (vs ++ rest)[i]? = some vs[i] := by rw [List.getElem?_append_left (by omega)]; exact hvi
      obtain ⟨hsr, hcp⟩ := hvs.2 i _ _ hvi hpi
      have hbd := hps.2 _ (List.getElem_mem hlt)
      have htk := enc_take t ps i _ hpi
      have hln : (withN (txt t) ++ bel 4 ps.length ++ ((ps.take i).map withN).flatten).length ≤ 30000000 := by
        have h2 : ((ps.take i).map withN).flatten.length ≤ ((ps.take i).length) * 100004 := parts_length fun q hq => (hps.2 q (List.mem_of_mem_take hq)).1
        rw [List.length_take, Nat.min_eq_left hi] at h2
        rw [List.length_append, List.length_append, withN_length, txt_length, bel_length]; omega
      generalize vs[i] = v at hvi hvi2 hsr hcp
      generalize ps[i] = q at hpi hsr hbd htk
      generalize hE : withN (txt t) ++ bel 4 ps.length ++ ((ps.take i).map withN).flatten = E at ho hln
      have hnx : withN (txt t) ++ bel 4 ps.length ++ ((ps.take (i + 1)).map withN).flatten = E ++ withN q := by rw [htk, ← hE]; simp only [withN, List.append_assoc]
      have hB' : H' bp = some (.cells (vs ++ rest) e fz) := by rw [fA bp hbp]; exact hH
      refine AGo_turn ?_
      refine wl4 rL @hlt @hB' @hvi2 ?_
      refine AGo_makeB (r1_PutBytes E q _ _ _ _ ((ho.srcA (bs_all _)).later (fun _ _ => rfl) (by omega)) (hsr.later fA (by omega)) (by omega) (by omega)) ?_
      intro v6 H6 n6 o6 hA6 hn6
      rw [← hnx] at o6
      refine wk0 ?_
      refine AGo_le ?_ (hS (i + 1, v6) _ _ ⟨by simp only; omega, by omega, (o6.weaken (by omega)).keep (fun _ _ _ => rfl) (by omega), fun j hj => (hA6 j (by omega)).trans (fA j hj)⟩ (by simp only; omega))
      · simp only [subs_nil, subs_if, lk_if, lk_nil, dropR_nil, dropR_cons, Nat.reduceLT, List.cons_append, List.nil_append, List.elem_nil, List.elem_cons, Nat.reduceBEq, beq_self_eq_true, Bool.true_or, Bool.false_or, Bool.or_true, Bool.or_false, Bool.false_eq_true, ↓reduceIte, if_true, if_false, Nat.reduceEqDiff, and_self, and_true, true_and, eq_self]
    · have hip : i = ps.length := by omega
      subst hip
      rw [List.take_of_length_le (Nat.le_refl _)] at ho
      refine AGo_turn ?_
      refine wk1 @hlt ?_
      refine AGo_markL ?_ (hK (ps.length, w) _ _ ⟨ho.keep (fun _ _ _ => rfl) (by omega), fA⟩)
      · simp only [subs_nil, subs_if, lk_if, lk_nil, dropR_nil, dropR_cons, Nat.reduceLT, List.cons_append, List.nil_append, List.elem_nil, List.elem_cons, Nat.reduceBEq, beq_self_eq_true, Bool.true_or, Bool.false_or, Bool.or_true, Bool.or_false, Bool.false_eq_true, ↓reduceIte, if_true, if_false, Nat.reduceEqDiff, and_self, and_true, true_and, eq_self]
  rintro ⟨i, w⟩ H' n' ⟨ho, fA⟩
  simp only [List.cons_append, List.nil_append, dropR_nil, dropR_cons, Nat.reduceLT, ↓reduceIte]
  refine wk0 ?_
  exact Makes.of_agree ho.1 fA
theorem r6_Of (t : ByteArray) (ps : List (List Nat)) (vs rest : List Value) (bp cap : Nat) (e : TypeId) (fz : Nat × Nat) (H : Heap) (n : Nat) (ht : t.size ≤ 1000) (hps : Bounded ps) (hvs : PartsA n H vs ps) (hbp : bp < n) (hH : H bp = some (.cells (vs ++ rest) e fz)) : ACall Tryz.prog 33 [.string t, .slice (some ⟨bp, 0, none⟩) ps.length cap] H n (Ret (.agg ⟨fk .u8 32 (sha (enc t ps))⟩) H n) := by
  refine acall_retF mix lw Tryz.func33 ok33 (fun _ _ => Tryz.call33 _ _) rfl ?_
  have hel := enc_length ht hps
  simp (disch := first | assumption | omega) only [c33, ↓z32', W, sim, ↓reduceIte, Nat.reduceAdd, Nat.reduceSub, Nat.reduceMul, Nat.reduceLT, Nat.reduceLeDiff, Nat.reduceEqDiff, Nat.reduceBEq, Nat.reduceBNe, Nat.reduceMod, Nat.reduceDiv]
  refine AGo_makeB (r6_Bytes t ps vs rest bp cap e fz _ _ ht hps (hvs.later (agr) (by omega)) (by omega) (by rw [upd_ne _ _ (by omega)]; exact hH)) ?_
  intro v2 H2 n2 o2 hA2 hn2
  have f0 : H2 n = some (.cells (fk .u8 32 fun _ => 0) 64 (0, 0)) := by rw [hA2 _ (by omega), upd_same]
  have fA : Agree n H H2 := fun i hi => by rw [hA2 _ (by omega), upd_ne _ _ (by omega)]
  refine wk0 ?_
  refine AGo_askV (r5_Of (enc t ps) v2 _ _ (o2.srcA (bs_all _)) (enc_ne _ _) (enc_lt hps) (by omega)) ?_
  refine wl6 rL @f0 @fk_length @fk_all @fk_take @fk_splice_all ?_
  exact ⟨rfl, agr⟩
end Go.Proofs.YtcjchcommaahdaaGreat
namespace Go.Ab
section app
variable {P : Program} {res : ALeave} {kk : List AItem} {tm : List Value} {H : Heap} {n n0 : Nat} {d : Bool} {R : Post} {dst : Option Nat} {ap : List Opd} {ops : List AOper}
/-- append where there is room. -/
theorem AGo_appRoom {i : Nat} {e e' : TypeId} {z : List Value} {bytes : Nat} {s x : Opd} {w : Value} {l2 cs : List Value} {b k cap m : Nat} (hB : H b = some (.cells cs e' (0, 0))) (hw : Src H w l2 z.length) (hm : l2.length = m * z.length) (hz : 0 < z.length) (hk : k + m ≤ cap) (hle : k * z.length + l2.length ≤ cs.length)
    (hap : d = true → ap.all (fun x => blkNe b (x.ev tm)) = true)
    (h : AGo P res (.inReg n0 d ops :: kk) (put tm dst (.slice (some ⟨b, 0, none⟩) (k + m) cap)) (upd H b (.cells (splice cs (k * z.length) l2) e' (0, 0))) n R) :
    AppV P res n0 d dst i e z bytes s x ap ops kk tm H n R (.slice (some ⟨b, 0, none⟩) k cap) w := by
  intro hs hx
  obtain ⟨sa, m', xc, rfl, hl2, hsrc, hone⟩ := hw
  have : m' = m := Nat.eq_of_mul_eq_mul_right hz (hl2.symm.trans hm)
  subst this
  refine .appIn (eff := some (b, .cells (splice cs (0 + k * z.length) l2) e' (0, 0))) (v := .slice (some ⟨b, 0, none⟩) (k + m') cap) rfl rfl ?_ (fun hd => hap hd) (by rw [Nat.zero_add]; exact h)
  rw [hs, hx]
  simp only [appIn, hB, hsrc]
  rw [if_pos hk, if_pos ⟨by omega, hone⟩]
theorem AGo_callKV {f : Opd} {args : List Opd} {xs : List Value} {g : FuncId} {first cap : Array Value} (Q : Value → Heap → Nat → Prop) (hc : ACall P g (first.toList ++ xs ++ cap.toList) H n (fun e H' n' => ∃ v, e = .returned v ∧ Q v H' n'))
    (hd : d = true → ∀ v H' n', Q v H' n' → n ≤ n' → CallKeeps n0 n tm ap H H') (h : ∀ v H' n', Q v H' n' → n ≤ n' → AGo P res (.inReg n0 d ops :: kk) (put tm dst v) H' n' R) :
    CallV P res n0 d dst f args ap ops kk tm H n R (.func (.func g) first cap) xs := by
  rintro hf rfl
  refine .call _ rfl rfl hf hc ?_ ?_ ?_
  · rintro v' H' n' ⟨v, h1, h2⟩ hn hdt; exact hd hdt _ _ _ h2 hn
  · rintro v' H' n' ⟨v, h1, h2⟩ hn; cases h1; exact h _ _ _ h2 hn
  · rintro c H' n' ⟨v, h1, _⟩; cases h1
end app
end Go.Ab
namespace Go.Proofs.YtcjchcommaahdaaGreat
open Go.Ab
/-- A half of a hashed number. -/
def halfN (t : ByteArray) (ps : List (List Nat)) (b : Nat) : Nat := ofB (sha (enc t (ps ++ [[b]])))
theorem halfN_lt (t : ByteArray) (ps : List (List Nat)) (b : Nat) : halfN t ps b < BB := ofB_lt (sha_lt _)
theorem halfN_def (t : ByteArray) (ps : List (List Nat)) (b : Nat) : ofB (sha (enc t (ps ++ [[b]]))) = halfN t ps b := rfl
theorem rep_put (l : List Value) (x : Value) : splice (List.replicate (l.length + 1) [x]).flatten 0 l = l ++ [x] := by
  have h : ∀ k, (List.replicate k [x]).flatten = List.replicate k x := by
    intro k; induction k with
    | zero => rfl
    | succ k ih => rw [List.replicate_succ, List.flatten_cons, ih, List.replicate_succ]; rfl
  unfold splice
  rw [h, List.take_zero, List.nil_append, Nat.zero_add, List.drop_replicate, show l.length + 1 - l.length = 1 by omega]; rfl
theorem fk_at (k : IntKind) (n : Nat) (f : Nat → Nat) : ∀ j, j < n → (fk k n f)[j]? = some (.int k (f j : Nat)) := fun _ h => fk_get f h
theorem Bounded.snoc {ps : List (List Nat)} {b : Nat} (h : ∀ p, p ∈ ps → p.length ≤ 100000 ∧ ∀ c, c ∈ p → c < 256) (hl : ps.length < 200) (hb : b < 256) : Bounded (ps ++ [[b]]) :=
  ⟨by simp; omega, fun p hp => by
    rcases List.mem_append.1 hp with hp | hp
    · exact h p hp
    · simp at hp; subst hp; exact ⟨by simp, fun c hc => by simp at hc; omega⟩⟩
theorem splice_last (l : List Value) (x y : Value) (k : Nat) (h : l.length = k) : splice (l ++ [x]) k [y] = l ++ [y] := by
  unfold splice; rw [← h, List.take_left, List.drop_eq_nil_of_le (by simp), List.append_nil]
theorem u8_one (b : Nat) : [Value.int .u8 (b : Nat)] = bs [b] := rfl
/-- What a half is, and that but the last place of the list of parts nothing is changed. -/
def Halved (v : Value) (q : Nat) (vs : List Value) (e : TypeId) (H : Heap) (n : Nat) : Post := fun r H' _ => r = .returned v ∧ (∃ y, H' q = some (.cells (vs ++ [y]) e (0, 0))) ∧ ∀ i, i < n → i ≠ q → H' i = H i
attribute [local irreducible] cmpr h0 SM fk bs zc74 s0 kc bel pre long halfN sha ofB enc
theorem h_half (t : ByteArray) (ps : List (List Nat)) (vs : List Value) (x : Value) (b n1 p4 p8 q : Nat) (e e4 e8 : TypeId) (H : Heap) (n : Nat) (ht : t.size ≤ 1000) (hps : Bounded (ps ++ [[b]])) (hb : b < 256) (hvs : PartsA n1 H vs ps) (hnq : n1 ≤ q) (hqn : q < n) (hp4 : p4 < n) (hp8 : p8 < n) (h4q : p4 ≠ q) (h8q : p8 ≠ q) (hH4 : H p4 = some (.cells [.string t] e4 (0, 0))) (hH8 : H p8 = some (.cells [.slice (some ⟨q, 0, none⟩) ps.length (ps.length + 1)] e8 (0, 0))) (hHq : H q = some (.cells (vs ++ [x]) e (0, 0))) : ACall Tryz.prog 105 [.int .u8 (b : Nat), .pointer (some ⟨p4, 0, none⟩), .pointer (some ⟨p8, 0, none⟩)] H n (Halved (N (halfN t ps b)) q vs e H n) := by
  refine acall_ofF mix Tryz.func105 ok105 (fun _ _ => Tryz.call105 _ _) rfl ?_
  have hvl := hvs.1
  simp (disch := first | assumption | omega) only [c105, hH4, hH8, ↓z32', W, sim, ↓reduceIte, Nat.reduceAdd, Nat.reduceSub, Nat.reduceMul, Nat.reduceLT, Nat.reduceLeDiff, Nat.reduceEqDiff, Nat.reduceBEq, Nat.reduceBNe, Nat.reduceMod, Nat.reduceDiv]
  generalize hG : upd (upd (upd (upd H _ _) _ _) _ _) _ _ = G
  have gq : G q = some (.cells (vs ++ [x]) e (0, 0)) := by rw [← hG, upd_ne _ _ (by omega), upd_ne _ _ (by omega), upd_ne _ _ (by omega), upd_ne _ _ (by omega)]; exact hHq
  have g5 : G (n + 5) = some (.cells [.slice (some ⟨n + 4, 0, none⟩) 1 1] 66 (0, 0)) := by rw [← hG, upd_ne _ _ (by omega), upd_same]
  have g4 : G (n + 4) = some (.cells [.int .u8 (b : Nat)] 5 (0, 0)) := by rw [← hG, upd_ne _ _ (by omega), upd_ne _ _ (by omega), upd_same]
  have g8 : G (n + 8) = some (.cells (fk .u8 32 fun _ => 0) 64 (0, 0)) := by rw [← hG, upd_same]
  have g0 : G n = some (.cells [.int .u64 ((0 : Nat) : Int), .int .u64 ((0 : Nat) : Int), .int .u64 ((0 : Nat) : Int), .int .u64 ((0 : Nat) : Int)] 24 (0, 0)) := by rw [← hG, upd_ne _ _ (by omega), upd_ne _ _ (by omega), upd_ne _ _ (by omega), upd_same]
  have gA : Agree n H G := fun i hi => by rw [← hG, upd_ne _ _ (by omega), upd_ne _ _ (by omega), upd_ne _ _ (by omega), upd_ne _ _ (by omega)]
  clear hG
  refine AGo_appRoom (m := 1) gq (src_mk g5 rfl rfl) rfl (by decide) (by omega) (by simp; omega) (fun _ => by simp [ev_i, lk_if, blkNe]; omega) ?_
  rw [splice_last _ _ _ _ (by simp; omega)]
  generalize hG' : upd G q _ = G'
  have gA' : ∀ i, i ≠ q → G' i = G i := fun i hi => by rw [← hG', upd_ne _ _ hi]
  have gq' : G' q = some (.cells (vs ++ [.slice (some ⟨n + 4, 0, none⟩) 1 1]) e (0, 0)) := by rw [← hG', upd_same]
  replace g4 := (gA' (n + 4) (by omega)).trans g4
  replace g8 := (gA' (n + 8) (by omega)).trans g8
  replace g0 := (gA' n (by omega)).trans g0
  have hfin : ∀ i, i < n → i ≠ q → G' i = H i := fun i hi hq => (gA' i hq).trans (gA i hi)
  have hpa : PartsA (n + 10) G' (vs ++ [.slice (some ⟨n + 4, 0, none⟩) 1 1]) (ps ++ [[b]]) := by
    refine PartsA.snoc (hvs.later (fun i hi => hfin i (by omega) (by omega)) (by omega)) (SrcA.of_block (by omega) g4 (by simp) ?_ (bs_all _)) ?_
    · rw [u8_one]; rw [List.drop_zero, List.take_of_length_le (by rw [bs_length]; simp)]
    · intro _ _ _ h; cases h; omega
  have hl1 : (ps ++ [[b]]).length = ps.length + 1 := by simp
  rw [← List.append_nil (vs ++ _)] at gq'
  have hof := h_Of t (ps ++ [[b]]) _ [] q (ps.length + 1) e (0, 0) G' _ ht hps hpa (by omega) gq'
  rw [hl1] at hof
  clear gA' hG' g5 gq
  refine wk0 ?_
  refine AGo_askV (hof) ?_
  refine wl7 rL @g8 @g0 @fk_length @fk_all @fk_take @fk_splice_all ?_
  refine AGo_askV (nums_GetLong (sha (enc t (ps ++ [[b]]))) _ (n + 8) _ _ _ _ (sha_lt _) (by omega) (upd_same _ _ _) (fk_at _ _ _)) ?_
  refine wk1 @g0 ?_
  rw [halfN_def]
  rw [List.append_nil] at gq'
  refine ⟨by rw [N_fold], ⟨.slice (some ⟨n + 4, 0, none⟩) 1 1, ?_⟩, fun i hi hq => ?_⟩
  · rw [upd_ne _ _ (by omega), upd_ne _ _ (by omega), upd_ne _ _ (by omega)]; exact gq'
  · rw [upd_ne _ _ (by omega), upd_ne _ _ (by omega), upd_ne _ _ (by omega)]; exact hfin i hi hq
/-- A hashed number. -/
def numH (m : Nat) (t : ByteArray) (ps : List (List Nat)) : Nat := if m = 0 then 0 else (halfN t ps 0 * BB + halfN t ps 1) % m
def numE (m : Nat) : Nat := if m = 0 then 1 else 0
theorem numH_lt {m : Nat} (hm : m < BB) (t : ByteArray) (ps : List (List Nat)) : numH m t ps < BB := by
  unfold numH; split
  · exact BB_pos
  · exact Nat.lt_trans (Nat.mod_lt _ (by omega)) hm
theorem numH_pos {m : Nat} (h : m ≠ 0) (t : ByteArray) (ps : List (List Nat)) : (halfN t ps 0 * BB + halfN t ps 1) % m = numH m t ps := by unfold numH; rw [if_neg h]
theorem numH_zero (t : ByteArray) (ps : List (List Nat)) : numH 0 t ps = 0 := rfl
theorem numE_pos {m : Nat} (h : m ≠ 0) : numE m = 0 := if_neg h
theorem numE_zero : numE 0 = 1 := rfl
theorem wide_all (lo hi m : Nat) (hl : lo < BB) (hh : hi < BB) (hm : m < BB) (hm0 : m ≠ 0) (H : Heap) (n : Nat) : ACall Tryz.prog 107 [N lo, N hi, N m] H n (Ret (.tuple #[N ((hi * BB + lo) % m), .int .i64 ((0 : Nat) : Int)]) H n) := by
  by_cases h : m < B
  · exact wide_one lo hi m hl hh hm0 h H n
  · exact wide_long lo hi m hl hh hm h H n
theorem r3_wide_all (lo hi m : Nat) (hl : lo < BB) (hh : hi < BB) (hm : m < BB) (hm0 : m ≠ 0) (H : Heap) (n : Nat) : ACall Tryz.prog 125 [N lo, N hi, N m] H n (Ret (.tuple #[N ((hi * BB + lo) % m), .int .i64 ((0 : Nat) : Int)]) H n) := by
  by_cases h : m < B
  · exact r3_wide_one lo hi m hl hh hm0 h H n
  · exact r3_wide_long lo hi m hl hh hm h H n
theorem wide_num (m : Nat) (t : ByteArray) (ps : List (List Nat)) (hm : m < BB) (H : Heap) (n : Nat) : ACall Tryz.prog 107 [N (halfN t ps 1), N (halfN t ps 0), N m] H n (Ret (.tuple #[N (numH m t ps), .int .i64 (numE m : Nat)]) H n) := by
  by_cases h : m = 0
  · subst h; exact wide_zero _ _ (halfN_lt _ _ _) (halfN_lt _ _ _) H n
  · rw [← numH_pos h, numE_pos h]; exact wide_all _ _ m (halfN_lt _ _ _) (halfN_lt _ _ _) hm h H n
theorem h_Number (m : Nat) (t : ByteArray) (ps : List (List Nat)) (vs rest : List Value) (bp cap : Nat) (e : TypeId) (fz : Nat × Nat) (H : Heap) (n : Nat) (hm : m < BB) (ht : t.size ≤ 1000) (hpl : ps.length < 200) (hps : ∀ p, p ∈ ps → p.length ≤ 100000 ∧ ∀ c, c ∈ p → c < 256) (hvs : PartsA n H vs ps) (hvo : vs.all Value.oneCell' = true) (hbp : bp < n) (hH : H bp = some (.cells (vs ++ rest) e fz)) : ACall Tryz.prog 64 [N m, .string t, .slice (some ⟨bp, 0, none⟩) ps.length cap] H n (Ret (.tuple #[N (numH m t ps), .int .i64 (numE m : Nat)]) H n) := by
  refine acall_retF mix lw Tryz.func64 ok64 (fun _ _ => Tryz.call64 _ _) rfl ?_
  have hvl := hvs.1
  refine wk2 @c64.eq_1 @vcells_N ?_
  generalize hG : upd (upd (upd H _ _) _ _) _ _ = G
  have g0 : G n = some (.cells [.int .u64 (w0 m : Nat), .int .u64 (w1 m : Nat), .int .u64 (w2 m : Nat), .int .u64 (w3 m : Nat)] 24 (0, 0)) := by rw [← hG, upd_ne _ _ (by omega), upd_ne _ _ (by omega), upd_same]
  have g1 : G (n + 1) = some (.cells [.string t] 9 (0, 0)) := by rw [← hG, upd_ne _ _ (by omega), upd_same]
  have g2 : G (n + 2) = some (.cells [.int .u64 ((0 : Nat) : Int), .int .u64 ((0 : Nat) : Int), .int .u64 ((0 : Nat) : Int), .int .u64 ((0 : Nat) : Int)] 24 (0, 0)) := by rw [← hG, upd_same]
  have gA : Agree n H G := fun i hi => by rw [← hG, upd_ne _ _ (by omega), upd_ne _ _ (by omega), upd_ne _ _ (by omega)]
  clear hG
  have q1 : (ps.length ≤ ps.length + 1 ∧ ((ps.length + 1 : Nat) : Int) < 2 ^ 62 ∧ ((24 : Nat) : Int) * ((ps.length + 1 : Nat) : Int) ≤ 2 ^ 48) = True := by
    apply propext; refine ⟨fun _ => trivial, fun _ => ⟨by omega, by omega, by omega⟩⟩
  have hs3 : srcCells (upd (upd G (n + 9) (.cells (List.replicate (ps.length + 1) [Value.slice none 0 0]).flatten 66 (0, 0))) (n + 10) (.cells [.slice (some ⟨n + 9, 0, none⟩) ps.length (ps.length + 1)] 86 (0, 0))) ps.length (.slice (some ⟨bp, 0, none⟩) ps.length cap) = some vs := by
    simp only [srcCells, upd_ne _ _ (show bp ≠ n + 10 by omega), upd_ne _ _ (show bp ≠ n + 9 by omega), gA bp hbp, hH]
    rw [if_pos (by rw [List.length_append]; omega), List.drop_zero, ← hvl, List.take_left]
  have hrl : (List.replicate (ps.length + 1) [Value.slice none 0 0]).flatten.length = ps.length + 1 := by simp
  have hrp := rep_put vs (.slice none 0 0)
  rw [hvl] at hrp
  refine wl10 rL @splice_one_zero @q1 @hs3 @hrl @hvl @hvo @hrp @g0 @N_fold ?_
  generalize hG2 : upd (upd (upd G _ _) _ _) _ _ = G2
  have k1 : G2 (n + 1) = some (.cells [.string t] 9 (0, 0)) := by rw [← hG2, upd_ne _ _ (by omega), upd_ne _ _ (by omega), upd_ne _ _ (by omega)]; exact g1
  have k2 : G2 (n + 2) = some (.cells [.int .u64 ((0 : Nat) : Int), .int .u64 ((0 : Nat) : Int), .int .u64 ((0 : Nat) : Int), .int .u64 ((0 : Nat) : Int)] 24 (0, 0)) := by rw [← hG2, upd_ne _ _ (by omega), upd_ne _ _ (by omega), upd_ne _ _ (by omega)]; exact g2
  have k9 : G2 (n + 9) = some (.cells (vs ++ [.slice none 0 0]) 66 (0, 0)) := by rw [← hG2, upd_same]
  have k10 : G2 (n + 10) = some (.cells [.slice (some ⟨n + 9, 0, none⟩) ps.length (ps.length + 1)] 86 (0, 0)) := by rw [← hG2, upd_ne _ _ (by omega), upd_same]
  have kA : Agree n H G2 := fun i hi => by rw [← hG2, upd_ne _ _ (by omega), upd_ne _ _ (by omega), upd_ne _ _ (by omega)]; exact gA i hi
  clear hG2 g0 g1 g2 gA hs3
  have hbo : ∀ b, b < 256 → Bounded (ps ++ [[b]]) := fun b hb => Bounded.snoc hps hpl hb
  refine AGo_callKV (fun v H' n' => v = N (halfN t ps 1) ∧ (∃ y, H' (n + 9) = some (.cells (vs ++ [y]) 66 (0, 0))) ∧ ∀ i, i < n + 27 → i ≠ n + 9 → H' i = G2 i) ((h_half t ps vs _ 1 n (n + 1) (n + 10) (n + 9) 66 9 86 G2 (n + 27) ht (hbo 1 (by omega)) (by omega) (hvs.later kA (by omega)) (by omega) (by omega) (by omega) (by omega) (by omega) (by omega) k1 k10 k9).mono ?_) ?_ ?_
  · rintro e H' n' ⟨h1, h2, h3⟩ _ _; exact ⟨_, h1, rfl, h2, h3⟩
  · rintro _ v H' n' ⟨_, _, h3⟩ hn
    refine ⟨fun i h1 h2 => h3 i h2 (by omega), fun x hx b off hev hb => h3 b hb ?_⟩
    simp only [List.mem_singleton] at hx; subst hx
    simp [ev_i, lk_if] at hev; omega
  rintro v3 H3 n3 ⟨rfl, ⟨y, j9⟩, h3⟩ hn3
  replace k1 := (h3 (n + 1) (by omega) (by omega)).trans k1
  replace k2 := (h3 (n + 2) (by omega) (by omega)).trans k2
  replace k10 := (h3 (n + 10) (by omega) (by omega)).trans k10
  replace kA : Agree n H H3 := fun i hi => (h3 i (by omega) (by omega)).trans (kA i hi)
  clear h3 k9
  refine wk0 ?_
  refine AGo_callKV (fun v H' n' => v = N (halfN t ps 0) ∧ (∃ y, H' (n + 9) = some (.cells (vs ++ [y]) 66 (0, 0))) ∧ ∀ i, i < n3 → i ≠ n + 9 → H' i = H3 i) ((h_half t ps vs _ 0 n (n + 1) (n + 10) (n + 9) 66 9 86 H3 n3 ht (hbo 0 (by omega)) (by omega) (hvs.later kA (by omega)) (by omega) (by omega) (by omega) (by omega) (by omega) (by omega) k1 k10 j9).mono ?_) ?_ ?_
  · rintro e H' n' ⟨h1, h2, h3⟩ _ _; exact ⟨_, h1, rfl, h2, h3⟩
  · rintro _ v H' n' ⟨_, _, h3⟩ hn
    refine ⟨fun i h1 h2 => h3 i h2 (by omega), fun x hx b off hev hb => h3 b hb ?_⟩
    simp only [List.mem_singleton] at hx; subst hx
    simp [ev_i, lk_if] at hev; omega
  rintro v4 H4 n4 ⟨rfl, -, h3⟩ hn4
  replace k2 := (h3 (n + 2) (by omega) (by omega)).trans k2
  replace kA : Agree n H H4 := fun i hi => (h3 i (by omega) (by omega)).trans (kA i hi)
  clear h3 j9 k1 k10
  refine wk0 ?_
  refine AGo_askV (wide_num m t ps hm _ _) ?_
  refine wk2 @k2 @N_fold ?_
  exact ⟨rfl, agr⟩
end Go.Proofs.YtcjchcommaahdaaGreat

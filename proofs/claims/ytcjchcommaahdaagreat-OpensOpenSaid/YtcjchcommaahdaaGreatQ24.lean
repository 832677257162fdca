/- Lists that grow, and where they are. Sums of bytes that come in parts: New, Write, Hash. No conditions. -/
import Derived.Test.YtcjchcommaahdaaGreatQ12
import Derived.Test.YtcjchcommaahdaaGreatQ23
set_option maxRecDepth 20000
set_option maxHeartbeats 4000000
set_option linter.all false
namespace Go.Ab
section app
variable {P : Program} {res : ALeave} {kk : List AItem} {tm : List Value} {H : Heap} {n n0 : Nat} {d : Bool} {R : Post} {dst : Option Nat} {ap : List Opd} {ops : List AOper}
/-- append to a list of the function's own: where it is then. -/
theorem AGo_appOwnS {i : Nat} {e : TypeId} {z : List Value} {bytes : Nat} {s x : Opd} {nb : Nat} {v w : Value} {l l2 : List Value} (hv : Own nb H v l e z.length) (hw : Src H w l2 z.length)
    (hnb : nb ≤ n0 + i) (hlen : l.length + l2.length ≤ 2 ^ 40) (hz : 0 < z.length) (hby : bytes ≤ 64) (hap : d = true → ∀ b k c, v = .slice (some ⟨b, 0, none⟩) k c → ap.all (fun x => blkNe b (x.ev tm)) = true)
    (h : ∀ v' H', Own nb H' v' (l ++ l2) e z.length → (∀ j, (∀ k c, v ≠ .slice (some ⟨j, 0, none⟩) k c) → j ≠ n0 + i → H' j = H j) → (∀ b k c, v' = .slice (some ⟨b, 0, none⟩) k c → (∃ k c, v = .slice (some ⟨b, 0, none⟩) k c) ∨ b = n0 + i) → AGo P res (.inReg n0 d ops :: kk) (put tm dst v') H' n R) :
    AppV P res n0 d dst i e z bytes s x ap ops kk tm H n R v w := by
  intro hs hx
  obtain ⟨b, k, cap, rest, rfl, hb, hH, hl, hr, hk, hc63⟩ := hv
  obtain ⟨sa, m, xc, rfl, hl2, hsrc, hone⟩ := hw
  have hkm : k + m ≤ 2 ^ 40 := by
    have h1 : k ≤ k * z.length := Nat.le_mul_of_pos_right _ hz
    have h2 : m ≤ m * z.length := Nat.le_mul_of_pos_right _ hz
    omega
  by_cases hroom : k + m ≤ cap
  · have hin : appIn H z.length (s.ev tm) (x.ev tm) = some (.slice (some ⟨b, 0, none⟩) (k + m) cap, some (b, .cells (splice (l ++ rest) (0 + k * z.length) l2) e (0, 0))) := by
      rw [hs, hx]
      simp only [appIn, hroom, if_true, hH, hsrc]
      rw [if_pos]
      refine ⟨?_, hone⟩
      rw [List.length_append, hl, hr, hl2]
      have : (k + m) * z.length ≤ cap * z.length := Nat.mul_le_mul_right _ hroom
      rw [Nat.add_mul] at this
      have e2 : k * z.length + (cap - k) * z.length = cap * z.length := by rw [← Nat.add_mul]; congr 1; omega
      omega
    refine .appIn rfl rfl hin (fun hd => hap hd _ _ _ rfl) (h _ _ ⟨b, k + m, cap, rest.drop l2.length, rfl, hb, ?_, ?_, ?_, hroom, hc63⟩ ?_ ?_)
    · simp only [Eff.app, upd_same, splice, Nat.zero_add]
      rw [← hl, List.take_left, List.append_assoc, List.append_assoc, List.drop_append]
      congr 4
      rw [List.drop_eq_nil_of_le (by omega), List.nil_append]; congr 1; omega
    · rw [List.length_append, hl, hl2, Nat.add_mul]
    · rw [List.length_drop, hr, hl2, ← Nat.sub_mul]; congr 1; omega
    · intro j hj _; simp only [Eff.app]; exact upd_ne _ _ (fun e => hj _ _ (by rw [e]))
    · rintro b' k' c' e'; cases e'; exact .inl ⟨_, _, rfl⟩
  · have hn1 : ∀ cap', appNew n0 i e z H (s.ev tm) (x.ev tm) cap' = some (.slice (some ⟨n0 + i, 0, none⟩) (k + m) cap', some (n0 + i, .cells (l ++ l2 ++ zeros z (cap' - (k + m))) e (0, 0))) := by
      intro cap'
      rw [hs, hx]
      have h1 : srcCells H (k * z.length) (.slice (some ⟨b, 0, none⟩) k cap) = some l := by
        simp only [srcCells, hH, List.length_append, hl]
        rw [if_pos (by omega), List.drop_zero, ← hl, List.take_left]
      simp only [appNew, h1, hsrc]
    refine .appNew rfl rfl ?_ ?_ ?_
    · rw [hs, hx]
      simp only [appFits]
      have h3 := nextcap_le (show cap < k + m by omega)
      have h4 : Builtin.nextslicecap (k + m) cap * bytes ≤ (2 * (k + m) + 192) * 64 := Nat.mul_le_mul h3 hby
      refine ⟨by omega, by omega, by omega⟩
    · intro cap' _ _; rw [hn1]; rfl
    · intro cap' v' eff hc1 hc2 hv'
      rw [hn1] at hv'; cases hv'
      have hcc : k + m ≤ cap' := by rw [hs, hx] at hc1; exact hc1
      refine h _ _ ⟨n0 + i, k + m, cap', zeros z (cap' - (k + m)), rfl, hnb, upd_same _ _ _, ?_, ?_, hcc, hc2⟩ ?_ ?_
      · rw [List.length_append, hl, hl2, Nat.add_mul]
      · simp [zeros, List.length_flatten, List.map_replicate, List.sum_replicate_nat]
      · intro j _ hj; simp only [Eff.app]; exact upd_ne _ _ hj
      · rintro b' k' c' e'; cases e'; exact .inr rfl
/-- append to none. -/
theorem AGo_appNilS {i : Nat} {e : TypeId} {z : List Value} {bytes : Nat} {s x : Opd} {nb : Nat} {w : Value} {l2 : List Value} (hw : Src H w l2 z.length) (h0 : l2 ≠ [])
    (hnb : nb ≤ n0 + i) (hlen : l2.length ≤ 2 ^ 40) (hz : 0 < z.length) (hby : bytes ≤ 64)
    (h : ∀ v' H', Own nb H' v' l2 e z.length → (∀ j, j ≠ n0 + i → H' j = H j) → (∀ b k c, v' = .slice (some ⟨b, 0, none⟩) k c → b = n0 + i) → AGo P res (.inReg n0 d ops :: kk) (put tm dst v') H' n R) :
    AppV P res n0 d dst i e z bytes s x ap ops kk tm H n R (.slice none 0 0) w := by
  intro hs hx
  obtain ⟨sa, m, xc, rfl, hl2, hsrc, hone⟩ := hw
  have hm0 : 0 < m := by
    rcases Nat.eq_zero_or_pos m with h | h
    · subst h; rw [Nat.zero_mul] at hl2; exact absurd (List.length_eq_zero_iff.1 hl2) h0
    · exact h
  have hkm : m ≤ 2 ^ 40 := by
    have h2 : m ≤ m * z.length := Nat.le_mul_of_pos_right _ hz
    omega
  have hn1 : ∀ cap', appNew n0 i e z H (s.ev tm) (x.ev tm) cap' = some (.slice (some ⟨n0 + i, 0, none⟩) (0 + m) cap', some (n0 + i, .cells ([] ++ l2 ++ zeros z (cap' - (0 + m))) e (0, 0))) := by
    intro cap'
    rw [hs, hx]
    simp only [appNew, srcCells]
    simp only [srcCells] at hsrc
    rw [hsrc]
  refine .appNew rfl rfl ?_ ?_ ?_
  · rw [hs, hx]
    simp only [appFits]
    have h3 := nextcap_le (show 0 < 0 + m by omega)
    have h4 : Builtin.nextslicecap (0 + m) 0 * bytes ≤ (2 * (0 + m) + 192) * 64 := Nat.mul_le_mul h3 hby
    refine ⟨by omega, by omega, by omega⟩
  · intro cap' _ _; rw [hn1]; rfl
  · intro cap' v' eff hc1 hc2 hv'
    rw [hn1] at hv'; cases hv'
    have hcc : m ≤ cap' := by rw [hs, hx] at hc1; simpa [sliceNeed] using hc1
    refine h _ _ ⟨n0 + i, m, cap', zeros z (cap' - m), by rw [Nat.zero_add], hnb, by rw [Eff.app, upd_same, List.nil_append, Nat.zero_add], hl2, ?_, hcc, hc2⟩ ?_ ?_
    · simp [zeros, List.length_flatten, List.map_replicate, List.sum_replicate_nat]
    · intro j hj; simp only [Eff.app]; exact upd_ne _ _ (by omega)
    · rintro b' k' c' e'; cases e'; rfl

/-- A list of the function's own, below 'n'. -/
def OwnB (nb n : Nat) (H : Heap) (v : Value) (l : List Value) (e : TypeId) (esz : Nat) : Prop := Own nb H v l e esz ∧ ∀ b k c, v = .slice (some ⟨b, 0, none⟩) k c → b < n
theorem OwnB.upd {nb n n' q : Nat} {H : Heap} {v : Value} {l : List Value} {e : TypeId} {esz : Nat} {o : AObj} (h : OwnB nb n H v l e esz) (hq : n ≤ q) (hn : n ≤ n') : OwnB nb n' (upd H q o) v l e esz :=
  ⟨h.1.agree (n := 0) fun b k c hv => upd_ne _ _ (by have := h.2 b k c hv; omega), fun b k c hv => by have := h.2 b k c hv; omega⟩
theorem OwnB.keep {nb n n' : Nat} {H H' : Heap} {v : Value} {l : List Value} {e : TypeId} {esz : Nat} (h : OwnB nb n H v l e esz) (hA : ∀ j, nb ≤ j → j < n → H' j = H j) (hn : n ≤ n') : OwnB nb n' H' v l e esz := by
  refine ⟨h.1.agree (n := 0) fun b k c hv => hA b ?_ (h.2 b k c hv), fun b k c hv => by have := h.2 b k c hv; omega⟩
  obtain ⟨b', _, _, _, e', hb, _⟩ := h.1
  rw [e'] at hv; cases hv; exact hb
theorem src_mk {H : Heap} {b m c : Nat} {l : List Value} {e : TypeId} {fz : Nat × Nat} {esz : Nat} (hH : H b = some (.cells l e fz)) (hl : l.length = m * esz) (ho : l.all Value.oneCell' = true) : Src H (.slice (some ⟨b, 0, none⟩) m c) l esz :=
  ⟨_, _, _, rfl, hl, by simp only [srcCells, hH]; rw [if_pos (by omega), List.drop_zero, List.take_of_length_le (by omega)], ho⟩
/-- append to a list of the function's own, below 'n'. -/
theorem AGo_pushD {i : Nat} {e : TypeId} {z : List Value} {bytes : Nat} {s x : Opd} {nb n1 : Nat} {v w : Value} {l l2 : List Value} (hv : OwnB nb n1 H v l e z.length) (hw : Src H w l2 z.length)
    (hn1 : n1 ≤ n0 + i + 1) (hnb : nb ≤ n0 + i) (hlen : l.length + l2.length ≤ 2 ^ 40) (hz : 0 < z.length) (hby : bytes ≤ 64) (hap : d = true → ∀ b k c, v = .slice (some ⟨b, 0, none⟩) k c → ap.all (fun x => blkNe b (x.ev tm)) = true)
    (h : ∀ v' H', OwnB nb (n0 + i + 1) H' v' (l ++ l2) e z.length → (∀ j, (∀ k c, v ≠ .slice (some ⟨j, 0, none⟩) k c) → j ≠ n0 + i → H' j = H j) →
      (∀ b k c, v' = .slice (some ⟨b, 0, none⟩) k c → (∃ k c, v = .slice (some ⟨b, 0, none⟩) k c) ∨ b = n0 + i) → AGo P res (.inReg n0 d ops :: kk) (put tm dst v') H' n R) :
    AppV P res n0 d dst i e z bytes s x ap ops kk tm H n R v w :=
  AGo_appOwnS hv.1 hw hnb hlen hz hby hap fun v' H' h1 h2 h3 => h v' H' ⟨h1, fun b k c hb => by
    rcases h3 b k c hb with ⟨k', c', e'⟩ | e'
    · have := hv.2 b k' c' e'; omega
    · omega⟩ h2 h3
theorem AGo_pushS {i : Nat} {e : TypeId} {z : List Value} {bytes : Nat} {s x : Opd} {nb n1 : Nat} {v w : Value} {l l2 : List Value} (hv : OwnB nb n1 H v l e z.length) (hw : Src H w l2 z.length)
    (hn1 : n1 ≤ n0 + i + 1) (hnb : nb ≤ n0 + i) (hlen : l.length + l2.length ≤ 2 ^ 40) (hz : 0 < z.length) (hby : bytes ≤ 64) (hap : ap = [])
    (h : ∀ v' H', OwnB nb (n0 + i + 1) H' v' (l ++ l2) e z.length → (∀ j, (∀ k c, v ≠ .slice (some ⟨j, 0, none⟩) k c) → j ≠ n0 + i → H' j = H j) →
      (∀ b k c, v' = .slice (some ⟨b, 0, none⟩) k c → (∃ k c, v = .slice (some ⟨b, 0, none⟩) k c) ∨ b = n0 + i) → AGo P res (.inReg n0 d ops :: kk) (put tm dst v') H' n R) :
    AppV P res n0 d dst i e z bytes s x ap ops kk tm H n R v w :=
  AGo_appOwnS hv.1 hw hnb hlen hz hby (fun _ _ _ _ _ => by rw [hap]; rfl) fun v' H' h1 h2 h3 => h v' H' ⟨h1, fun b k c hb => by
    rcases h3 b k c hb with ⟨k', c', e'⟩ | e'
    · have := hv.2 b k' c' e'; omega
    · omega⟩ h2 h3
theorem AGo_push {i : Nat} {e : TypeId} {z : List Value} {bytes : Nat} {s x : Opd} {nb n1 : Nat} {v w : Value} {l l2 : List Value} (hv : OwnB nb n1 H v l e z.length) (hw : Src H w l2 z.length)
    (hn1 : n1 ≤ n0 + i + 1) (hnb : nb ≤ n0 + i) (hlen : l.length + l2.length ≤ 2 ^ 40) (hz : 0 < z.length) (hby : bytes ≤ 64) (hap : ap = [])
    (h : ∀ v' H', OwnB nb (n0 + i + 1) H' v' (l ++ l2) e z.length → (∀ j, j < nb → H' j = H j) → AGo P res (.inReg n0 d ops :: kk) (put tm dst v') H' n R) :
    AppV P res n0 d dst i e z bytes s x ap ops kk tm H n R v w :=
  AGo_pushS hv hw hn1 hnb hlen hz hby hap fun v' H' h1 h2 _ => h v' H' h1 fun j hj => h2 j (fun k c e' => by
    obtain ⟨b, _, _, _, e2, hb, _⟩ := hv.1
    rw [e2] at e'; cases e'; omega) (by omega)
theorem AGo_pushNil {i : Nat} {e : TypeId} {z : List Value} {bytes : Nat} {s x : Opd} {nb : Nat} {w : Value} {l2 : List Value} (hw : Src H w l2 z.length) (h0 : l2 ≠ [])
    (hnb : nb ≤ n0 + i) (hlen : l2.length ≤ 2 ^ 40) (hz : 0 < z.length) (hby : bytes ≤ 64)
    (h : ∀ v' H', OwnB nb (n0 + i + 1) H' v' l2 e z.length → (∀ j, j < nb → H' j = H j) → AGo P res (.inReg n0 d ops :: kk) (put tm dst v') H' n R) :
    AppV P res n0 d dst i e z bytes s x ap ops kk tm H n R (.slice none 0 0) w :=
  AGo_appNilS hw h0 hnb hlen hz hby fun v' H' h1 h2 h3 => h v' H' ⟨h1, fun b k c hb => by have := h3 b k c hb; omega⟩ (fun j hj => h2 j (by omega))
end app
end Go.Ab
namespace Go.Proofs.YtcjchcommaahdaaGreat
open Go.Ab
def zc74 : List Value := .int .i64 ((0 : Nat) : Int) :: (fk .u32 8 (fun _ => 0) ++ (fk .u8 64 (fun _ => 0) ++ [.int .u64 ((0 : Nat) : Int)]))
theorem z74 : [Value.int .i64 ((0 : Nat) : Int), Value.int .u32 ((0 : Nat) : Int), Value.int .u32 ((0 : Nat) : Int), Value.int .u32 ((0 : Nat) : Int), Value.int .u32 ((0 : Nat) : Int), Value.int .u32 ((0 : Nat) : Int), Value.int .u32 ((0 : Nat) : Int), Value.int .u32 ((0 : Nat) : Int), Value.int .u32 ((0 : Nat) : Int), .int .u8 ((0 : Nat) : Int), .int .u8 ((0 : Nat) : Int), .int .u8 ((0 : Nat) : Int), .int .u8 ((0 : Nat) : Int), .int .u8 ((0 : Nat) : Int), .int .u8 ((0 : Nat) : Int), .int .u8 ((0 : Nat) : Int), .int .u8 ((0 : Nat) : Int), .int .u8 ((0 : Nat) : Int), .int .u8 ((0 : Nat) : Int), .int .u8 ((0 : Nat) : Int), .int .u8 ((0 : Nat) : Int), .int .u8 ((0 : Nat) : Int), .int .u8 ((0 : Nat) : Int), .int .u8 ((0 : Nat) : Int), .int .u8 ((0 : Nat) : Int), .int .u8 ((0 : Nat) : Int), .int .u8 ((0 : Nat) : Int), .int .u8 ((0 : Nat) : Int), .int .u8 ((0 : Nat) : Int), .int .u8 ((0 : Nat) : Int), .int .u8 ((0 : Nat) : Int), .int .u8 ((0 : Nat) : Int), .int .u8 ((0 : Nat) : Int), .int .u8 ((0 : Nat) : Int), .int .u8 ((0 : Nat) : Int), .int .u8 ((0 : Nat) : Int), .int .u8 ((0 : Nat) : Int), .int .u8 ((0 : Nat) : Int), .int .u8 ((0 : Nat) : Int), .int .u8 ((0 : Nat) : Int), .int .u8 ((0 : Nat) : Int), .int .u8 ((0 : Nat) : Int), .int .u8 ((0 : Nat) : Int), .int .u8 ((0 : Nat) : Int), .int .u8 ((0 : Nat) : Int), .int .u8 ((0 : Nat) : Int), .int .u8 ((0 : Nat) : Int), .int .u8 ((0 : Nat) : Int), .int .u8 ((0 : Nat) : Int), .int .u8 ((0 : Nat) : Int), .int .u8 ((0 : Nat) : Int), .int .u8 ((0 : Nat) : Int), .int .u8 ((0 : Nat) : Int), .int .u8 ((0 : Nat) : Int), .int .u8 ((0 : Nat) : Int), .int .u8 ((0 : Nat) : Int), .int .u8 ((0 : Nat) : Int), .int .u8 ((0 : Nat) : Int), .int .u8 ((0 : Nat) : Int), .int .u8 ((0 : Nat) : Int), .int .u8 ((0 : Nat) : Int), .int .u8 ((0 : Nat) : Int), .int .u8 ((0 : Nat) : Int), .int .u8 ((0 : Nat) : Int), .int .u8 ((0 : Nat) : Int), .int .u8 ((0 : Nat) : Int), .int .u8 ((0 : Nat) : Int), .int .u8 ((0 : Nat) : Int), .int .u8 ((0 : Nat) : Int), .int .u8 ((0 : Nat) : Int), .int .u8 ((0 : Nat) : Int), .int .u8 ((0 : Nat) : Int), .int .u8 ((0 : Nat) : Int), .int .u64 ((0 : Nat) : Int)] = zc74 := rfl
theorem zc74_len : zc74.length = 74 := rfl
theorem zc74_new : splice (splice zc74 0 [.int .i64 ((1 : Nat) : Int)]) 1 (fk .u32 8 h0) = SM s0 := by
  show splice (SM ⟨fun _ => 0, fun _ => 0, 0⟩) 1 (fk .u32 8 h0) = _
  rw [SM_put_now]; rfl
theorem splice_whole (c l : List Value) (h : l.length = c.length) : splice c 0 l = l := by
  unfold splice; rw [List.take_zero, List.nil_append, List.drop_eq_nil_of_le (by omega), List.append_nil]
theorem zc74_put (s : St) : splice zc74 0 (SM s) = SM s := splice_whole _ _ (by rw [SM_len, zc74_len])
theorem z32 : [Value.int .u8 ((0 : Nat) : Int), Value.int .u8 ((0 : Nat) : Int), Value.int .u8 ((0 : Nat) : Int), Value.int .u8 ((0 : Nat) : Int), Value.int .u8 ((0 : Nat) : Int), Value.int .u8 ((0 : Nat) : Int), Value.int .u8 ((0 : Nat) : Int), Value.int .u8 ((0 : Nat) : Int), Value.int .u8 ((0 : Nat) : Int), Value.int .u8 ((0 : Nat) : Int), Value.int .u8 ((0 : Nat) : Int), Value.int .u8 ((0 : Nat) : Int), Value.int .u8 ((0 : Nat) : Int), Value.int .u8 ((0 : Nat) : Int), Value.int .u8 ((0 : Nat) : Int), Value.int .u8 ((0 : Nat) : Int), Value.int .u8 ((0 : Nat) : Int), Value.int .u8 ((0 : Nat) : Int), Value.int .u8 ((0 : Nat) : Int), Value.int .u8 ((0 : Nat) : Int), Value.int .u8 ((0 : Nat) : Int), Value.int .u8 ((0 : Nat) : Int), Value.int .u8 ((0 : Nat) : Int), Value.int .u8 ((0 : Nat) : Int), Value.int .u8 ((0 : Nat) : Int), Value.int .u8 ((0 : Nat) : Int), Value.int .u8 ((0 : Nat) : Int), Value.int .u8 ((0 : Nat) : Int), Value.int .u8 ((0 : Nat) : Int), Value.int .u8 ((0 : Nat) : Int), Value.int .u8 ((0 : Nat) : Int), Value.int .u8 ((0 : Nat) : Int)] = fk .u8 32 (fun _ => 0) := rfl
theorem zc74_len1 (v : Value) : (splice zc74 0 [v]).length = 74 := rfl
theorem Bys.mono {H : Heap} {n n' p : Nat} {v : Value} {l : List Nat} (h : Bys H n p v l) (hn : n ≤ n') : Bys H n' p v l := by
  rcases h with h | ⟨b, off, cap, c, e, fz, h1, h2, h3, h4⟩
  · exact .inl h
  · exact .inr ⟨b, off, cap, c, e, fz, h1, h2, by omega, h4⟩
theorem flat64 : (List.replicate 64 [Value.int .u8 ((0 : Nat) : Int)]).flatten = fk .u8 64 (fun _ => 0) := by simp [fk, List.range, List.range.loop, List.replicate]
theorem bs_one (b : Nat) : [Value.int .u8 (b : Nat)] = bs [b] := rfl
theorem own_end (nb n b : Nat) (H : Heap) (hb : nb ≤ b) (hn : b < n) : OwnB nb n (upd H b (.cells (splice (fk .u8 64 (fun _ => 0)) 0 [Value.int .u8 ((128 : Nat) : Int)]) 5 (0, 0))) (.slice (some ⟨b, 0, none⟩) 1 64) (bs (128 :: List.replicate 0 0)) 5 1 := by
  refine ⟨⟨b, 1, 64, bs (List.replicate 63 0), rfl, hb, ?_, rfl, by simp [bs], by omega, by decide⟩, fun b' k c e => by cases e; exact hn⟩
  rw [upd_same]; rfl
theorem _root_.Go.Ab.OwnB.bys {nb n p : Nat} {H : Heap} {v : Value} {l : List Nat} {e : TypeId} (h : OwnB nb n H v (bs l) e 1) (hp : p < nb) : Bys H n p v l := by
  obtain ⟨⟨b, k, cap, rest, rfl, hb, hB, hl, hr, hkc, _⟩, hbn⟩ := h
  rw [bs_length, Nat.mul_one] at hl; subst hl
  refine .inr ⟨b, 0, cap, _, _, _, rfl, by omega, hbn _ _ _ rfl, hB, ?_, ?_, hkc⟩
  · rw [List.length_append, bs_length]; omega
  · rw [List.drop_zero, ← bs_length l, List.take_left]
theorem bits_i64 : (((64 : Nat) : Int) < 2 ^ 62 ∧ ((1 : Nat) : Int) * ((64 : Nat) : Int) ≤ 2 ^ 48) = True := by decide
theorem one_u8 : [Value.int .u8 ((0 : Nat) : Int)].length = 1 := rfl
theorem push0 (j : Nat) : bs (128 :: List.replicate j 0) ++ [Value.int .u8 ((0 : Nat) : Int)] = bs (128 :: List.replicate (j + 1) 0) := by
  rw [show [Value.int .u8 ((0 : Nat) : Int)] = bs [0] from rfl, ← bs_append, List.cons_append, ← List.replicate_succ']
theorem padB_take (m i : Nat) (h : i < 8) : (padB m).take (i + 1) = (padB m).take i ++ [8 * m % B / 2 ^ (56 - 8 * i) % 256] := by
  rw [List.take_add_one, List.getElem?_eq_getElem (by simp [padB]; exact h)]; simp [padB]
theorem pushB (l : List Nat) (x : Nat) : bs l ++ [Value.int .u8 (x : Nat)] = bs (l ++ [x]) := by
  rw [show [Value.int .u8 (x : Nat)] = bs [x] from rfl, ← bs_append]
attribute [local irreducible] cmpr h0 SM fk bs zc74 s0
theorem sha_New (H : Heap) (n : Nat) : ACall Tryz.prog 53 [] H n (fun r H' n' => ∃ p, r = .returned (.pointer (some ⟨p, 0, none⟩)) ∧ n ≤ p ∧ p < n' ∧ H' p = some (.cells (SM s0) SMty (0, 0)) ∧ Agree n H H') := by
  refine acall_ofF mix Tryz.func53 ok53 (fun _ _ => Tryz.call53 _ _) rfl ?_
  refine wk1 @c53.eq_1 ?_
  refine AGo_askV (sha_begin _ _) ?_
  simp (disch := first | assumption | omega) only [ite_lt, ite_le, bin_rem_u64, bin_quo_u64, fl_get, fl_splice, fl_splice_all, fl_length, fl_all, fl_take, cell_wK, ↓z74, fk_length, zc74_len, zc74_len1, zc74_new, fk_all, W1, sim, ↓reduceIte, Nat.reduceAdd, Nat.reduceSub, Nat.reduceMul, Nat.reduceLT, Nat.reduceLeDiff, Nat.reduceEqDiff, Nat.reduceBEq, Nat.reduceBNe, Nat.reduceMod, Nat.reduceDiv]
  refine ⟨_, rfl, by omega, by omega, ?_, agr⟩
  simp (disch := first | assumption | omega) only [upd_same, upd_neq, vcells_N, w_zero]
  rfl
theorem sha_Write (s : St) (l : List Nat) (p : Nat) (v : Value) (H : Heap) (n : Nat) (hp : p < n) (hs : H p = some (.cells (SM s) SMty (0, 0))) (hok : s.Ok) (hl : ∀ c, c ∈ l → c < 256) (hm : s.many + l.length < 2 ^ 60) (hv : Bys H n p v l) : ACall Tryz.prog 54 [.pointer (some ⟨p, 0, none⟩), v] H n (Wrote p (SM (s.feed l)) (.int .i64 ((0 : Nat) : Int)) n H) := by
  refine acall_ofF mix Tryz.func54 ok54 (fun _ _ => Tryz.call54 _ _) rfl ?_
  simp (disch := first | assumption | omega) only [c54, hs, SM_get0, Option.isNone_some, W, sim, ↓reduceIte, Nat.reduceAdd, Nat.reduceSub, Nat.reduceMul, Nat.reduceLT, Nat.reduceLeDiff, Nat.reduceEqDiff, Nat.reduceBEq, Nat.reduceBNe, Nat.reduceMod, Nat.reduceDiv]
  refine AGo_callQV (fun v H' _ => v = .tuple #[] ∧ H' p = some (.cells (SM (s.feed l)) SMty (0, 0)) ∧ ∀ i, i < n → i ≠ p → H' i = H i) ((sha_writes s l p v H _ (by omega) hs hok hl hm (hv.mono (by omega))).mono ?_) (fun h => by cases h) ?_
  · rintro e H' n' ⟨h1, h2, h3⟩ _ _
    exact ⟨_, h1, rfl, h2, fun i hi => h3 i (by omega)⟩
  rintro v1 H1 n1 ⟨rfl, h2, h3⟩ hn1
  refine wk0 ?_
  exact ⟨rfl, h2, h3⟩
theorem sha_Hash (s : St) (p : Nat) (H : Heap) (n : Nat) (hp : p < n) (hs : H p = some (.cells (SM s) SMty (0, 0))) (hok : s.Ok) (hm : s.many < 2 ^ 50) : ACall Tryz.prog 56 [.pointer (some ⟨p, 0, none⟩)] H n (Ret (.agg ⟨fk .u8 32 s.out⟩) H n) := by
  refine acall_retF mix lw Tryz.func56 ok56 (fun _ _ => Tryz.call56 _ _) rfl ?_
  have hz64 : padZ s.many < 64 := by unfold padZ; omega
  simp (disch := first | assumption | omega) only [c56, ite_lt, ite_le, bin_rem_u64, bin_quo_u64, fl_get, fl_splice, fl_splice_all, fl_length, fl_all, fl_take, cell_wK, ↓z74, ↓z32, zc74_len, zc74_put, hs, SM_get0, Option.isNone_some, SM_len, SM_all, SM_one, SM_many, flat64, fk_all, fk_length, bits_i64, W1, sim, ↓reduceIte, Nat.reduceAdd, Nat.reduceSub, Nat.reduceMul, Nat.reduceLT, Nat.reduceLeDiff, Nat.reduceEqDiff, Nat.reduceBEq, Nat.reduceBNe, Nat.reduceMod, Nat.reduceDiv]
  refine AGo_cycleD (α := (Nat × Value)) 6 75 (fun x => [(5, x.2)]) (fun x H' n' => x.1 ≤ padZ s.many ∧ n + 22 ≤ n' ∧ OwnB (n + 21) n' H' x.2 (bs (128 :: List.replicate x.1 0)) 5 1 ∧ H' n = some (.cells (fk .u8 32 fun _ => 0) 64 (0, 0)) ∧ H' (n + 13) = some (.cells (SM s) SMty (0, 0)) ∧ Agree n H H') (fun x H' n' => n + 22 ≤ n' ∧ OwnB (n + 21) n' H' x.2 (bs (128 :: List.replicate (padZ s.many) 0)) 5 1 ∧ H' n = some (.cells (fk .u8 32 fun _ => 0) 64 (0, 0)) ∧ H' (n + 13) = some (.cells (SM s) SMty (0, 0)) ∧ Agree n H H') (fun x => padZ s.many - x.1) ((0, .slice (some ⟨n + 21, 0, none⟩) 1 64)) ?_ (by simp only [subs_nil, subs_if, lk_if, lk_nil, dropR_nil, dropR_cons, Nat.reduceLT, List.cons_append, List.nil_append, List.elem_nil, List.elem_cons, Nat.reduceBEq, beq_self_eq_true, Bool.true_or, Bool.false_or, Bool.or_true, Bool.or_false, Bool.false_eq_true, ↓reduceIte, if_true, if_false, Nat.reduceEqDiff, and_self, and_true, true_and, eq_self]) ?_ ?_
  · refine ⟨Nat.zero_le _, by omega, ?_, ?_, ?_, agr⟩
    · exact own_end _ _ _ _ (by omega) (by omega)
    · exact up0
    · simp (disch := first | assumption | omega) only [upd_same, upd_neq, vcells_N, w_zero]
      rfl
  · rintro ⟨j, v⟩ H' n' kk ⟨hj, hn, ho, f0, f1, fA⟩ hK hS
    simp only at hj ho
    simp only [List.cons_append, List.nil_append, dropR_nil, dropR_cons, Nat.reduceLT, ↓reduceIte]
    have ho' := ho
    obtain ⟨⟨b, k, cap, rest, rfl, hb, hB, hl, hr, hkc, hc63⟩, hbn⟩ := ho
    rw [bs_length, List.length_cons, List.length_replicate, Nat.mul_one] at hl
    have hsp : H' p = some (.cells (SM s) SMty (0, 0)) := by rw [fA p hp]; exact hs
    have q1 : k % B = k := Nat.mod_eq_of_lt (by rw [B_eq]; omega)
    have q2 : (s.many + k) % B = s.many + k := Nat.mod_eq_of_lt (by rw [B_eq]; omega)
    by_cases hlt : j < padZ s.many
    · have h56 : ¬ (s.many + k) % 64 = 56 := by unfold padZ at hlt; omega
      refine AGo_turn ?_
      refine wl7 rL @splice_one_zero @hsp @SM_many @q1 @q2 @h56 ?_
      refine AGo_push (n1 := n' + 1) (nb := n + 21) (l := bs (128 :: List.replicate j 0)) (OwnB.upd ho' (by omega) (by omega)) (src_mk (upd_same _ _ _) rfl rfl) (by omega) (by omega) (by rw [bs_length]; simp; omega) (by decide) (by omega) rfl ?_
      intro v2 H2 o2 hA2
      rw [push0] at o2
      refine wk0 ?_
      refine AGo_le ?_ (hS (j + 1, v2) _ _ ⟨by simp only; omega, by omega, ?_, ?_, ?_, ?_⟩ (by simp only; omega))
      · simp only [subs_nil, subs_if, lk_if, lk_nil, dropR_nil, dropR_cons, Nat.reduceLT, List.cons_append, List.nil_append, List.elem_nil, List.elem_cons, Nat.reduceBEq, beq_self_eq_true, Bool.true_or, Bool.false_or, Bool.or_true, Bool.or_false, Bool.false_eq_true, ↓reduceIte, if_true, if_false, Nat.reduceEqDiff, and_self, and_true, true_and, eq_self]
      · exact o2.keep (fun _ _ _ => rfl) (by omega)
      · rw [hA2 _ (by omega), upd_ne _ _ (by omega)]; exact f0
      · rw [hA2 _ (by omega), upd_ne _ _ (by omega)]; exact f1
      · intro i hi; rw [hA2 _ (by omega), upd_ne _ _ (by omega)]; exact fA i hi
    · have hjz : j = padZ s.many := by omega
      have h56 : (s.many + k) % 64 = 56 := by unfold padZ at hjz; omega
      refine AGo_turn ?_
      refine wl6 rL @hsp @SM_many @q1 @q2 @h56 ?_
      rw [hjz] at ho'
      refine AGo_markL ?_ (hK (j, _) _ _ ⟨by omega, ho'.keep (fun _ _ _ => rfl) (by omega), f0, f1, fA⟩)
      · simp only [subs_nil, subs_if, lk_if, lk_nil, dropR_nil, dropR_cons, Nat.reduceLT, List.cons_append, List.nil_append, List.elem_nil, List.elem_cons, Nat.reduceBEq, beq_self_eq_true, Bool.true_or, Bool.false_or, Bool.or_true, Bool.or_false, Bool.false_eq_true, ↓reduceIte, if_true, if_false, Nat.reduceEqDiff, and_self, and_true, true_and, eq_self]
  rintro ⟨j, v⟩ H1 n1 ⟨hn1, ho, f0, f1, fA⟩
  simp only at ho
  simp only [List.cons_append, List.nil_append, dropR_nil, dropR_cons, Nat.reduceLT, ↓reduceIte]
  refine wk0 ?_
  refine AGo_cycleD (α := (Nat × Value)) 43 75 (fun x => [(42, .int .i64 (x.1 : Nat)), (5, x.2)]) (fun x H' n' => x.1 ≤ 8 ∧ n + 22 ≤ n' ∧ OwnB (n + 21) n' H' x.2 (bs (128 :: (List.replicate (padZ s.many) 0 ++ (padB s.many).take x.1))) 5 1 ∧ H' n = some (.cells (fk .u8 32 fun _ => 0) 64 (0, 0)) ∧ H' (n + 13) = some (.cells (SM s) SMty (0, 0)) ∧ Agree n H H') (fun x H' n' => n + 22 ≤ n' ∧ OwnB (n + 21) n' H' x.2 (bs (pad s.many)) 5 1 ∧ H' n = some (.cells (fk .u8 32 fun _ => 0) 64 (0, 0)) ∧ H' (n + 13) = some (.cells (SM s) SMty (0, 0)) ∧ Agree n H H') (fun x => 8 - x.1) ((0, v)) ?_ (by simp only [subs_nil, subs_if, lk_if, lk_nil, dropR_nil, dropR_cons, Nat.reduceLT, List.cons_append, List.nil_append, List.elem_nil, List.elem_cons, Nat.reduceBEq, beq_self_eq_true, Bool.true_or, Bool.false_or, Bool.or_true, Bool.or_false, Bool.false_eq_true, ↓reduceIte, if_true, if_false, Nat.reduceEqDiff, and_self, and_true, true_and, eq_self]) ?_ ?_
  · refine ⟨Nat.zero_le _, by omega, ?_, f0, f1, fA⟩
    rw [List.take_zero, List.append_nil]; exact ho.keep (fun _ _ _ => rfl) (by omega)
  · rintro ⟨i, v⟩ H' n' kk ⟨hi, hn, ho, f0, f1, fA⟩ hK hS
    simp only at hi ho
    simp only [List.cons_append, List.nil_append, dropR_nil, dropR_cons, Nat.reduceLT, ↓reduceIte]
    by_cases hlt : i < 8
    · have q1 : 8 * i ≤ 56 := by omega
      have q3 : 56 - 8 * i ≤ 64 := by omega
      refine AGo_turn ?_
      simp (disch := first | assumption | omega) only [ite_lt, ite_le, bin_rem_u64, bin_quo_u64, fl_get, fl_splice, fl_splice_all, fl_length, fl_all, fl_take, cell_wK, splice_one_zero, hlt, u8_wrap, q1, Nat.min_eq_left q3, W1, sim, ↓reduceIte, Nat.reduceAdd, Nat.reduceSub, Nat.reduceMul, Nat.reduceLT, Nat.reduceLeDiff, Nat.reduceEqDiff, Nat.reduceBEq, Nat.reduceBNe, Nat.reduceMod, Nat.reduceDiv]
      refine AGo_push (n1 := n' + 5) (nb := n + 21) (l := bs (128 :: (List.replicate (padZ s.many) 0 ++ (padB s.many).take i))) (OwnB.upd ho (by omega) (by omega)) (src_mk (upd_same _ _ _) rfl rfl) (by omega) (by omega) (by rw [bs_length]; simp only [List.length_cons, List.length_append, List.length_replicate, List.length_take, List.length_nil]; omega) (by decide) (by omega) rfl ?_
      intro v2 H2 o2 hA2
      rw [pushB, List.cons_append, List.append_assoc, ← padB_take _ _ hlt] at o2
      refine wk0 ?_
      refine AGo_le ?_ (hS (i + 1, v2) _ _ ⟨by simp only; omega, by omega, ?_, ?_, ?_, ?_⟩ (by simp only; omega))
      · simp only [subs_nil, subs_if, lk_if, lk_nil, dropR_nil, dropR_cons, Nat.reduceLT, List.cons_append, List.nil_append, List.elem_nil, List.elem_cons, Nat.reduceBEq, beq_self_eq_true, Bool.true_or, Bool.false_or, Bool.or_true, Bool.or_false, Bool.false_eq_true, ↓reduceIte, if_true, if_false, Nat.reduceEqDiff, and_self, and_true, true_and, eq_self]
      · exact o2.keep (fun _ _ _ => rfl) (by omega)
      · rw [hA2 _ (by omega), upd_ne _ _ (by omega)]; exact f0
      · rw [hA2 _ (by omega), upd_ne _ _ (by omega)]; exact f1
      · intro i hi; rw [hA2 _ (by omega), upd_ne _ _ (by omega)]; exact fA i hi
    · have hi8 : i = 8 := by omega
      subst hi8
      refine AGo_turn ?_
      refine wk1 @hlt ?_
      rw [List.take_of_length_le (by simp [padB])] at ho
      refine AGo_markL ?_ (hK (8, v) _ _ ⟨by omega, ho.keep (fun _ _ _ => rfl) (by omega), f0, f1, fA⟩)
      · simp only [subs_nil, subs_if, lk_if, lk_nil, dropR_nil, dropR_cons, Nat.reduceLT, List.cons_append, List.nil_append, List.elem_nil, List.elem_cons, Nat.reduceBEq, beq_self_eq_true, Bool.true_or, Bool.false_or, Bool.or_true, Bool.or_false, Bool.false_eq_true, ↓reduceIte, if_true, if_false, Nat.reduceEqDiff, and_self, and_true, true_and, eq_self]
  clear hz64 ho f0 f1 fA hn1
  rintro ⟨j, v⟩ H1 n1 ⟨hn1, ho, f0, f1, fA⟩
  simp only at ho
  simp only [List.cons_append, List.nil_append, dropR_nil, dropR_cons, Nat.reduceLT, ↓reduceIte]
  refine wk0 ?_
  refine AGo_callQV (fun v' H' _ => v' = .tuple #[] ∧ H' (n + 13) = some (.cells (SM (s.feed (pad s.many))) SMty (0, 0)) ∧ ∀ i, i < n1 → i ≠ n + 13 → H' i = H1 i) ((sha_writes s (pad s.many) (n + 13) v H1 _ (by omega) f1 hok (pad_lt _) (by rw [pad_length]; unfold padZ; omega) ((ho.bys (by omega)).mono (by omega))).mono ?_) (fun h => by cases h) ?_
  · rintro e H' n' ⟨h1, h2, h3⟩ _ _
    exact ⟨_, h1, rfl, h2, fun i hi hne => h3 i (by omega) hne⟩
  clear f1
  rintro v1 H2 n2 ⟨rfl, f1, h3⟩ hn2
  rw [← h3 n (by omega) (by omega)] at f0
  have fA2 : Agree n H H2 := fun i hi => (h3 i (by omega) (by omega)).trans (fA i hi)
  clear h3 ho fA
  generalize hfin : s.feed (pad s.many) = fin at f1
  refine wk0 ?_
  refine AGo_cycleD (α := Nat) 58 75 (fun i => [(57, .int .i64 (i : Nat))]) (fun i H' n' => i ≤ 32 ∧ n + 22 ≤ n' ∧ H' n = some (.cells (fk .u8 32 fun j => if j < i then outB fin.now j else 0) 64 (0, 0)) ∧ H' (n + 13) = some (.cells (SM fin) SMty (0, 0)) ∧ Agree n H H') (fun i H' n' => n + 22 ≤ n' ∧ H' n = some (.cells (fk .u8 32 (outB fin.now)) 64 (0, 0)) ∧ Agree n H H') (fun i => 32 - i) (0) ?_ (by simp only [subs_nil, subs_if, lk_if, lk_nil, dropR_nil, dropR_cons, Nat.reduceLT, List.cons_append, List.nil_append, List.elem_nil, List.elem_cons, Nat.reduceBEq, beq_self_eq_true, Bool.true_or, Bool.false_or, Bool.or_true, Bool.or_false, Bool.false_eq_true, ↓reduceIte, if_true, if_false, Nat.reduceEqDiff, and_self, and_true, true_and, eq_self]) ?_ ?_
  · refine ⟨Nat.zero_le _, by omega, ?_, f1, fA2⟩
    rw [f0, fk_upto0]
  · clear f0 f1 fA2
    rintro i H' n' kk ⟨hi, hn, f0, f1, fA⟩ hK hS
    simp only [List.cons_append, List.nil_append, dropR_nil, dropR_cons, Nat.reduceLT, ↓reduceIte]
    by_cases hlt : i < 32
    · have q1 : i % 4 * 8 ≤ 24 := by omega
      have q2 : i / 4 < 8 := by omega
      have q3 : 24 - i % 4 * 8 ≤ 32 := by omega
      refine AGo_turn ?_
      simp (disch := first | assumption | omega) only [ite_lt, ite_le, bin_rem_u64, bin_quo_u64, fl_get, fl_splice, fl_splice_all, fl_length, fl_all, fl_take, cell_wK, hlt, f0, f1, fk_all, fk_length, fk_splice, SM_nowk, u8_wrap, q1, Nat.min_eq_left q3, W1, sim, ↓reduceIte, Nat.reduceAdd, Nat.reduceSub, Nat.reduceMul, Nat.reduceLT, Nat.reduceLeDiff, Nat.reduceEqDiff, Nat.reduceBEq, Nat.reduceBNe, Nat.reduceMod, Nat.reduceDiv]
      refine AGo_le ?_ (hS (i + 1) _ _ ⟨by omega, by omega, ?_, ?_, ?_⟩ (by omega))
      · simp only [subs_nil, subs_if, lk_if, lk_nil, dropR_nil, dropR_cons, Nat.reduceLT, List.cons_append, List.nil_append, List.elem_nil, List.elem_cons, Nat.reduceBEq, beq_self_eq_true, Bool.true_or, Bool.false_or, Bool.or_true, Bool.or_false, Bool.false_eq_true, ↓reduceIte, if_true, if_false, Nat.reduceEqDiff, and_self, and_true, true_and, eq_self]
      · simp (disch := first | assumption | omega) only [upd_same, upd_neq, vcells_N, w_zero]
        exact congrArg (fun l => some (AObj.cells l _ _)) (fk_upto (k := .u8) (n := 32) (f := outB fin.now) (g := fun _ => 0) rfl)
      · exact up1 @f1
      · intro i hi; rw [upd_ne _ _ (by omega)]; exact fA i hi
    · have hi2 : i = 32 := by omega
      subst hi2
      refine AGo_turn ?_
      refine wk1 @hlt ?_
      refine AGo_markL ?_ (hK 32 _ _ ⟨by omega, ?_, fA⟩)
      · simp only [subs_nil, subs_if, lk_if, lk_nil, dropR_nil, dropR_cons, Nat.reduceLT, List.cons_append, List.nil_append, List.elem_nil, List.elem_cons, Nat.reduceBEq, beq_self_eq_true, Bool.true_or, Bool.false_or, Bool.or_true, Bool.or_false, Bool.false_eq_true, ↓reduceIte, if_true, if_false, Nat.reduceEqDiff, and_self, and_true, true_and, eq_self]
      rw [f0, fk_upto_all]
  clear f0 f1 fA2
  rintro i H3 n3 ⟨hn3, f0, fA⟩
  simp only [List.cons_append, List.nil_append, dropR_nil, dropR_cons, Nat.reduceLT, ↓reduceIte]
  subst hfin
  refine wl6 rL @f0 @fk_length @fk_all @fk_take @splice_whole ?_
  exact ⟨rfl, agr⟩
end Go.Proofs.YtcjchcommaahdaaGreat

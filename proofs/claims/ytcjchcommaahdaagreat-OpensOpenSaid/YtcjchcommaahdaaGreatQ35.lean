/- What any node opens of any dealing: the law returns true and leaves its arguments as they are. No conditions. -/
import Derived.ProofKit
import Derived.OpenShut
import Derived.Test.YtcjchcommaahdaaGreatRows
import Derived.Test.YtcjchcommaahdaaGreatQ12
import Derived.Test.YtcjchcommaahdaaGreatQ34
set_option maxRecDepth 20000
set_option maxHeartbeats 4000000
set_option linter.all false
namespace Go.Proofs.YtcjchcommaahdaaGreat
open Go.Ab Go.ChangeShapes Go.WideShapes Go.ChangeAt Go.RowKit
/-- Is block b a row of cells? -/
def rowAt (W : World) (b : Nat) : Bool := match W.heap[b]? with | some (.cells _ _ _) => true | _ => false
/-- A cell of the given world, as the abstract heap has it. -/
def pin (W : World) : Value → Value
  | .bool b => .bool b
  | .int k n => .int k n
  | .string s => .string s
  | .slice none n c => .slice none n c
  | .slice (some a) n c => if a.spot = none ∧ rowAt W a.block = true then .slice (some a) n c else .tuple #[.chan (some 0), .slice (some a) n c]
  | v => .tuple #[.chan (some 0), v]
def renOf (W : World) : Ren := fun i => if rowAt W i = true then some i else none
def heapOf (W : World) : Heap := fun i => match W.heap[i]? with | some (.cells c e fz) => some (.cells (c.toList.map (pin W)) e fz) | _ => none
theorem renOf_some {W : World} {i b : Nat} (h : renOf W i = some b) : b = i ∧ rowAt W i = true := by
  unfold renOf at h
  split at h
  · rename_i hr; cases h; exact ⟨rfl, hr⟩
  · cases h
theorem renOf_row {W : World} {i : Nat} (h : rowAt W i = true) : renOf W i = some i := by simp [renOf, h]
theorem rowAt_some {W : World} {b : Nat} (h : rowAt W b = true) : ∃ c e fz, W.heap[b]? = some (.cells c e fz) := by
  unfold rowAt at h
  split at h
  · rename_i c e fz hc; exact ⟨c, e, fz, hc⟩
  · cases h
theorem pin_rel (W : World) (v : Value) : VRel (renOf W) (pin W v) v := by
  cases v with
  | bool b => simp [pin, VRel]
  | int k n => simp [pin, VRel]
  | string s => simp [pin, VRel]
  | slice a n c =>
    cases a with
    | none => simp [pin, VRel]
    | some a =>
      by_cases h : a.spot = none ∧ rowAt W a.block = true
      · simp only [pin, if_pos h, VRel]
        refine ⟨a.block, ?_, h.1, renOf_row h.2⟩
        obtain ⟨b, off, sp⟩ := a
        cases h.1; rfl
      · simp only [pin, if_neg h, VRel]; exact .inr (.inl ⟨_, rfl, rfl⟩)
  | _ => simp only [pin, VRel]; exact .inr (.inl ⟨_, rfl, rfl⟩)
theorem pinned_eq {ρ : Ren} {x v' : Value} (h : VRel ρ (.tuple #[.chan (some 0), x]) v') : v' = x := by
  simp only [VRel] at h
  rcases h with h | ⟨y, h1, rfl⟩ | ⟨l', _, h2⟩
  · simp at h
  · simp at h1; exact h1.symm
  · simp only [ARel, LRel, VRel] at h2
    obtain ⟨_, _, _, hf, _⟩ := h2
    exact hf.elim
theorem pin_exact {W : World} {ρ : Ren} (hl : (renOf W).le ρ) {v v' : Value} (h : VRel ρ (pin W v) v') : v' = v := by
  cases v with
  | bool b => simpa [pin, VRel] using h
  | int k n => simpa [pin, VRel] using h
  | string s => simpa [pin, VRel] using h
  | slice a n c =>
    cases a with
    | none => simpa [pin, VRel] using h
    | some a =>
      by_cases hs : a.spot = none ∧ rowAt W a.block = true
      · simp only [pin, if_pos hs, VRel] at h
        obtain ⟨b, rfl, h1, h2⟩ := h
        have := hl _ _ (renOf_row hs.2)
        rw [h2] at this; cases this
        obtain ⟨b, off, sp⟩ := a
        cases hs.1; rfl
      · simp only [pin, if_neg hs] at h; exact pinned_eq h
  | _ => exact pinned_eq h
theorem pins_exact {W : World} {ρ : Ren} (hl : (renOf W).le ρ) : ∀ {l m : List Value}, LRel ρ (l.map (pin W)) m → m = l
  | [], m, h => by simpa [LRel] using h
  | v :: l, m, h => by
    simp only [List.map_cons, LRel] at h
    obtain ⟨u, k, rfl, h1, h2⟩ := h
    rw [pin_exact hl h1, pins_exact hl h2]
theorem heapOf_rel (W : World) : HRel (renOf W) (heapOf W) W where
  inj := fun i j b hi hj => by rw [← (renOf_some hi).1, ← (renOf_some hj).1]
  obj := fun i b hi => by
    obtain ⟨rfl, hr⟩ := renOf_some hi
    obtain ⟨c, e, fz, hc⟩ := rowAt_some hr
    refine ⟨.cells (c.toList.map (pin W)) e fz, .cells c e fz, by simp [heapOf, hc], hc, c, rfl, ?_⟩
    have h := LRel.map (ρ := renOf W) (f := pin W) (g := id) (l := c.toList) fun x _ => pin_rel W x
    simpa using h
theorem heapOf_fresh (W : World) : Fresh (renOf W) W.heap.size := fun i b hi => by
  obtain ⟨_, hr⟩ := renOf_some hi
  obtain ⟨c, e, fz, hc⟩ := rowAt_some hr
  exact (Array.getElem?_eq_some_iff.1 hc).1
theorem heapOf_clean (W : World) : Ab.Clean (heapOf W) W.heap.size := fun i hi => by
  have : W.heap[i]? = none := by simp [hi]
  simp [heapOf, this]
/-- What was there is as it was. -/
theorem below_of_ext {W w' : World} {ρ' : Ren} {n' : Nat} (hH : HRel ρ' (heapOf W) w') (hE : Ext n' (renOf W) W ρ' w') : Below W.heap.size W w' where
  os := hE.os
  tape := hE.tape
  output := hE.output
  size := hE.size
  block := fun k hk => by
    by_cases hr : rowAt W k = true
    · obtain ⟨c, e, fz, hc⟩ := rowAt_some hr
      obtain ⟨o, o', h1, h2, h3⟩ := hH.obj k k (hE.le _ _ (renOf_row hr))
      simp only [heapOf, hc, Option.some.injEq] at h1
      subst h1
      obtain ⟨c', rfl, hl⟩ := h3
      have : c' = c := Array.toList_inj.1 (pins_exact hE.le hl)
      rw [h2, hc, this]
    · refine hE.frame k hk fun i hi => ?_
      obtain ⟨rfl, h⟩ := renOf_some hi
      exact hr h
/-- A contract over abstract memory that answers v and leaves everything, over the world itself. -/
theorem calls_of_acall {P : Program} {f : FuncId} {W : World} {args : List Value} {args' : Array Value} {t : Bool} (h : ACall P f args (heapOf W) W.heap.size (Ret (.bool t) (heapOf W) W.heap.size)) (hr : LRel (renOf W) args args'.toList)
    (he : (callFunc f args').run P W = .ok (.enter f args') W) : Calls P f args' W fun e w' => e = .returned (.bool t) ∧ Below W.heap.size W w' := by
  have := h (heapOf_clean W) (renOf W) W args'.toList (heapOf_rel W) (heapOf_fresh W) hr
  simp only [Array.toArray_toList] at this
  rw [he] at this
  refine Calls.mono this fun e w' => ?_
  rintro ⟨e0, ρ', H', n', h1, ⟨rfl, rfl, rfl⟩, h2, -, -, -, h3⟩
  obtain ⟨v', rfl, h4⟩ := h1
  simp only [VRel] at h4
  subst h4
  exact ⟨rfl, below_of_ext h2 h3⟩
section reads
variable {H : Type} {enc : TypeId × Value → H} {W : World} {base : Nat} {spare : Nat → Bool} {held : Bool} {fuel : Nat} {cs : List Value} {x : DataW H × List MemPlace}
theorem wf_u64 {n : Int} (h : (Lit.int .u64 n).wf = true) : ∃ k : Nat, n = k ∧ k < B := by
  simp [Lit.wf, IntKind.min, IntKind.max, IntKind.signed, IntKind.bits] at h
  exact ⟨n.toNat, by omega, by unfold B; omega⟩
theorem wf_u8 {n : Int} (h : (Lit.int .u8 n).wf = true) : ∃ k : Nat, n = k ∧ k < 256 := by
  simp [Lit.wf, IntKind.min, IntKind.max, IntKind.signed, IntKind.bits] at h
  exact ⟨n.toNat, by omega, by omega⟩
theorem read_u64 (h : DataW.trod enc Tryz.prog W base spare held fuel 22 cs = some x) : ∃ k : Nat, cs = [.int .u64 k] ∧ k < B := by
  obtain ⟨n, rfl, -, hw⟩ := DataW.trod_int Tryz.underlying22 h
  obtain ⟨k, rfl, hk⟩ := wf_u64 hw
  exact ⟨k, rfl, hk⟩
theorem read_u8 (h : DataW.trod enc Tryz.prog W base spare held fuel 5 cs = some x) : ∃ k : Nat, cs = [.int .u8 k] ∧ k < 256 := by
  obtain ⟨n, rfl, -, hw⟩ := DataW.trod_int Tryz.underlying5 h
  obtain ⟨k, rfl, hk⟩ := wf_u8 hw
  exact ⟨k, rfl, hk⟩
theorem cells22 : Tryz.prog.cellsOf 22 = 1 := by kernel_rfl
theorem cells5 : Tryz.prog.cellsOf 5 = 1 := by kernel_rfl
theorem cells3 : Tryz.prog.cellsOf 3 = 1 := by kernel_rfl
theorem cells24 : Tryz.prog.cellsOf 24 = 4 := by kernel_rfl
theorem cells58 : Tryz.prog.cellsOf 58 = 8 := by kernel_rfl
theorem cells42 : Tryz.prog.cellsOf 42 = 8 := by kernel_rfl
theorem cells44 : Tryz.prog.cellsOf 44 = 15 := by kernel_rfl
theorem cells26 : Tryz.prog.cellsOf 26 = 16 := by kernel_rfl
theorem cells29 : Tryz.prog.cellsOf 29 = 19 := by kernel_rfl
theorem cells38 : Tryz.prog.cellsOf 38 = 20 := by kernel_rfl
theorem cells35 : Tryz.prog.cellsOf 35 = 13 := by kernel_rfl
theorem cells27 : Tryz.prog.cellsOf 27 = 1 := by kernel_rfl
theorem cells30 : Tryz.prog.cellsOf 30 = 1 := by kernel_rfl
theorem cells31 : Tryz.prog.cellsOf 31 = 1 := by kernel_rfl
theorem cells36 : Tryz.prog.cellsOf 36 = 1 := by kernel_rfl
theorem ofU {a b c d : Nat} (ha : a < B) (hb : b < B) (hc : c < B) (hd : d < B) : ∃ u : U, w0 u.val = a ∧ w1 u.val = b ∧ w2 u.val = c ∧ w3 u.val = d := by
  have hp : pack a b c d < BB := by
    simp only [pack, BB, B] at *; omega
  exact ⟨⟨_, hp⟩, pack_ws ha hb hc hd⟩
theorem read_num (h : DataW.trod enc Tryz.prog W base spare held fuel 24 cs = some x) : ∃ u : U, cs = vcells (N u.val) := by
  obtain ⟨ys, m, -, -, hl, hy, hf⟩ := DataW.trod_array Tryz.underlying24 h
  rw [cells24] at hl
  rw [cells22] at hf
  match cs, hl with
  | [a, b, c, d], _ =>
    match ys, hy with
    | [y0, y1, y2, y3], _ =>
      have h0 := hf 0 (by omega)
      have h1 := hf 1 (by omega)
      have h2 := hf 2 (by omega)
      have h3 := hf 3 (by omega)
      simp at h0 h1 h2 h3
      obtain ⟨k0, e0, l0⟩ := read_u64 h0
      obtain ⟨k1, e1, l1⟩ := read_u64 h1
      obtain ⟨k2, e2, l2⟩ := read_u64 h2
      obtain ⟨k3, e3, l3⟩ := read_u64 h3
      cases e0; cases e1; cases e2; cases e3
      obtain ⟨u, rfl, rfl, rfl, rfl⟩ := ofU l0 l1 l2 l3
      exact ⟨u, rfl⟩
theorem chop {cs x y : List Value} {o a : Nat} (hx : (cs.drop o).take a = x) (hy : cs.drop (o + a) = y) : cs.drop o = x ++ y := by
  rw [← hx, ← hy, ← List.drop_drop, List.take_append_drop]
theorem read_key (h : DataW.trod enc Tryz.prog W base spare held fuel 58 cs = some x) : ∃ u : U × U, cs = vcells (PV u.1 u.2) := by
  obtain ⟨ys, m, -, -, hl, hy, hf⟩ := DataW.trod_struct Tryz.underlying58 h
  rw [cells58] at hl
  match ys, hy with
  | [y0, y1], _ =>
    have h0 := hf 0 _ rfl
    have h1 := hf 1 _ rfl
    simp [cells24] at h0 h1
    obtain ⟨u, hu⟩ := read_num h0
    obtain ⟨v, hv⟩ := read_num h1
    exact ⟨(u, v), chop (o := 0) hu (chop hv (List.drop_eq_nil_of_le (by omega)))⟩
theorem read_proof (h : DataW.trod enc Tryz.prog W base spare held fuel 42 cs = some x) : ∃ u : U × U, cs = vcells (PV u.1 u.2) := by
  obtain ⟨ys, m, -, -, hl, hy, hf⟩ := DataW.trod_struct Tryz.underlying42 h
  rw [cells42] at hl
  match ys, hy with
  | [y0, y1], _ =>
    have h0 := hf 0 _ rfl
    have h1 := hf 1 _ rfl
    simp [cells24] at h0 h1
    obtain ⟨u, hu⟩ := read_num h0
    obtain ⟨v, hv⟩ := read_num h1
    exact ⟨(u, v), chop (o := 0) hu (chop hv (List.drop_eq_nil_of_le (by omega)))⟩
theorem read_opn (h : DataW.trod enc Tryz.prog W base spare held fuel 44 cs = some x) : ∃ o : Opn, cs = OVL o ∧ o.Ok := by
  obtain ⟨ys, m, -, -, hl, hy, hf⟩ := DataW.trod_struct Tryz.underlying44 h
  rw [cells44] at hl
  match ys, hy with
  | [y0, y1, y2, y3, y4], _ =>
    have h0 := hf 0 _ rfl
    have h1 := hf 1 _ rfl
    have h2 := hf 2 _ rfl
    have h3 := hf 3 _ rfl
    have h4 := hf 4 _ rfl
    simp [-List.drop_one, cells22, cells5, cells24, cells42] at h0 h1 h2 h3 h4
    obtain ⟨e, he, le⟩ := read_u64 h0
    obtain ⟨d, hd, ld⟩ := read_u8 h1
    obtain ⟨k, hk, lk⟩ := read_u8 h2
    obtain ⟨z, hz⟩ := read_num h3
    obtain ⟨⟨c, s⟩, hp⟩ := read_proof h4
    have t5 : cs.drop 15 = [] := List.drop_eq_nil_of_le (by omega)
    have t4 := chop (o := 7) hp t5
    have t3 := chop (o := 3) hz t4
    have t2 := chop (o := 2) hk t3
    have t1 := chop (o := 1) hd t2
    have t0 := chop (o := 0) he t1
    exact ⟨⟨e, d, k, z, c, s⟩, t0, le, ld, lk⟩
theorem read_group (h : DataW.trod enc Tryz.prog W base spare held fuel 26 cs = some x) : ∃ G : Grp, cs = vcells (GV G) := by
  obtain ⟨ys, m, -, -, hl, hy, hf⟩ := DataW.trod_struct Tryz.underlying26 h
  rw [cells26] at hl
  match ys, hy with
  | [y0, y1, y2, y3], _ =>
    have h0 := hf 0 _ rfl
    have h1 := hf 1 _ rfl
    have h2 := hf 2 _ rfl
    have h3 := hf 3 _ rfl
    simp [cells24] at h0 h1 h2 h3
    obtain ⟨p, hp⟩ := read_num h0
    obtain ⟨q, hq⟩ := read_num h1
    obtain ⟨g, hg⟩ := read_num h2
    obtain ⟨i, hi⟩ := read_num h3
    exact ⟨⟨p, q, g, i⟩, chop (o := 0) hp (chop hq (chop hg (chop hi (List.drop_eq_nil_of_le (by omega)))))⟩
/-- A slice's elements, read, stand in abstract memory. -/
theorem read_slice {t e : TypeId} {sz : Nat} {α : Type} [Inhabited α] (cc : α → List Value) (Ok : α → Prop) (ht : Tryz.prog.underlying t = some (.slice e)) (hsz : Tryz.prog.cellsOf e = sz) (hpos : 0 < sz)
    (hb : 0 < Tryz.prog.bytesOf e) (hw : ∀ y ∈ DataW.weights Tryz.prog t x.1, y ≤ reachBytes) (hel : ∀ fuel cs y, DataW.trod enc Tryz.prog W 0 spare held fuel e cs = some y → ∃ a, cs = cc a ∧ Ok a) (hpin : ∀ a, (cc a).map (pin W) = cc a) {v : Value}
    (h : DataW.trod enc Tryz.prog W 0 spare held fuel t [v] = some x) : ∃ (m : Nat) (f : Nat → α), (∀ i, i < m → Ok (f i)) ∧ ElemsA W.heap.size (heapOf W) v m sz fun i => cc (f i) := by
  rcases DataW.trod_slice ht h with ⟨hv, -⟩ | ⟨a, len, cap, elems, rest, k, -, hv, hxe, -, hlc, -, hlen, hget, -⟩
  · cases hv
    exact ⟨0, fun _ => default, fun i hi => absurd hi (by omega), none, 0, rfl, Nat.le_refl _, by decide, .inl rfl⟩
  cases hv
  rw [hsz] at hget
  have hex : ∀ i, ∃ b : α, i < len → Ok b ∧ W.cells? 0 (a.add (i * sz)) sz = some (cc b) := by
    intro i
    by_cases hi : i < len
    · have h1 := hget i hi
      obtain ⟨y, hy⟩ : ∃ y, elems[i]? = some y := ⟨elems[i], by simp [hlen, hi]⟩
      rw [hy, Option.bind_eq_some_iff] at h1
      obtain ⟨cs, h2, h3⟩ := h1
      obtain ⟨b, rfl, hb⟩ := hel _ _ _ h3
      exact ⟨b, fun _ => ⟨hb, h2⟩⟩
    · exact ⟨default, fun hc => absurd hc hi⟩
  have ⟨f, hf⟩ : ∃ f : Nat → α, ∀ i, i < len → Ok (f i) ∧ W.cells? 0 (a.add (i * sz)) sz = some (cc (f i)) := ⟨fun i => (hex i).choose, fun i => (hex i).choose_spec⟩
  have hm : len < 2 ^ 60 := by
    have h1 := hw ((elems.length + rest.length) * Tryz.prog.bytesOf e) (by rw [hxe]; simp [DataW.weights, ht])
    have h2 : len ≤ (elems.length + rest.length) * Tryz.prog.bytesOf e := by
      rw [← hlen]; exact Nat.le_trans (Nat.le_add_right _ _) (Nat.le_mul_of_pos_right _ hb)
    exact Nat.lt_of_le_of_lt (Nat.le_trans h2 h1) (by decide)
  refine ⟨len, f, fun i hi => (hf i hi).1, some a, cap, rfl, hlc, hm, ?_⟩
  by_cases h0 : len = 0
  · exact .inl h0
  refine .inr ?_
  obtain ⟨-, hl0, hc0⟩ := World.cells?_some (hf 0 (by omega)).2
  have h1 := hc0 0 hpos
  obtain ⟨b, off, sp⟩ := a
  obtain ⟨u, hu⟩ : ∃ u, (cc (f 0))[0]? = some u := ⟨(cc (f 0))[0]'(by omega), by simp⟩
  rw [hu] at h1
  simp only [Nat.zero_mul, Addr.add, if_true] at h1
  unfold World.cell? at h1
  split at h1
  · rename_i c ct fz hheap
    cases sp with
    | some s => simp at h1
    | none =>
      simp only at hheap
      refine ⟨b, off, c.toList.map (pin W), ct, fz, rfl, (Array.getElem?_eq_some_iff.1 hheap).1, by simp [heapOf, hheap], fun i hi => ?_⟩
      obtain ⟨-, hli, hci⟩ := World.cells?_some (hf i hi).2
      have key : ∀ j, j < sz → c[off + i * sz + j]? = (cc (f i))[j]? := by
        intro j hj
        rw [← hci j hj]
        have : ((⟨b, off, none⟩ : Addr).add (i * sz)).add j = ⟨b, off + i * sz + j, none⟩ := by
          unfold Addr.add
          by_cases hz : i * sz = 0 <;> by_cases hj0 : j = 0 <;> simp [hz, hj0]
        rw [this]
        simp [World.cell?, hheap]
      have hlast := key (sz - 1) (by omega)
      obtain ⟨z, hz⟩ : ∃ z, (cc (f i))[sz - 1]? = some z := ⟨(cc (f i))[sz - 1]'(by omega), by simp⟩
      rw [hz] at hlast
      have hlt := (Array.getElem?_eq_some_iff.1 hlast).1
      refine ⟨by simp; omega, List.ext_getElem? fun j => ?_⟩
      rw [List.getElem?_take]
      split
      · rename_i hj
        rw [List.getElem?_drop, List.getElem?_map, Array.getElem?_toList, key j hj, ← List.getElem?_map, hpin]
      · rename_i hj
        exact (List.getElem?_eq_none (by show (cc (f i)).length ≤ j; omega)).symm
  · cases h1
theorem slice_rel {t e : TypeId} {v : Value} {b : Nat} (ht : Tryz.prog.underlying t = some (.slice e)) (h : Cell.okWide Tryz.prog W .any b t v) : VRel (renOf W) v v := by
  cases v with
  | slice a n c =>
    cases a with
    | none => simp [VRel]
    | some a =>
      simp only [Cell.okWide, Cell.ok, ht] at h
      obtain ⟨-, -, -, hs, row, k, h1, -⟩ := h
      simp only [VRel]
      refine ⟨a.block, ?_, hs, renOf_row ?_⟩
      · obtain ⟨b, off, sp⟩ := a; cases hs; rfl
      · unfold World.shape? at h1
        unfold rowAt
        split at h1
        · rename_i hc; simp [hc]
        · cases h1
  | _ => simp [Cell.okWide, Cell.ok, ht] at h
end reads
end Go.Proofs.YtcjchcommaahdaaGreat
namespace Go.Proofs.YtcjchcommaahdaaGreat
open Go.Ab Go.ChangeShapes Go.WideShapes Go.ChangeAt Go.RowKit
section reads
variable {H : Type} {enc : TypeId × Value → H} {W : World} {spare : Nat → Bool} {held : Bool} {fuel : Nat} {cs : List Value} {x : DataW H × List MemPlace}
theorem one_of {l : List Value} {o n : Nat} (h : l.length = n) (ho : o < n) : ∃ v, (l.drop o).take 1 = [v] := by
  have hl : o < l.length := by omega
  exact ⟨l[o], by rw [List.drop_eq_getElem_cons hl]; rfl⟩
theorem u0 : 0 < BB := by unfold BB; decide
theorem read_keys {v : Value} (hw : ∀ y ∈ DataW.weights Tryz.prog 27 x.1, y ≤ reachBytes) (h : DataW.trod enc Tryz.prog W 0 spare held fuel 27 [v] = some x) : ∃ m ks, KeysA W.heap.size (heapOf W) v m ks := by
  have : Inhabited (U × U) := ⟨⟨0, u0⟩, ⟨0, u0⟩⟩
  obtain ⟨m, ks, -, h⟩ := read_slice (fun u : U × U => vcells (PV u.1 u.2)) (fun _ => True) Tryz.underlying27 cells58 (by decide) (of_decide_eq_true (by kernel_rfl)) hw (fun f c y h => let ⟨u, hu⟩ := read_key h; ⟨u, hu, trivial⟩) (fun a => rfl) h
  exact ⟨m, ks, h⟩
theorem read_proofs {v : Value} (hw : ∀ y ∈ DataW.weights Tryz.prog 31 x.1, y ≤ reachBytes) (h : DataW.trod enc Tryz.prog W 0 spare held fuel 31 [v] = some x) : ∃ m ks, KeysA W.heap.size (heapOf W) v m ks := by
  have : Inhabited (U × U) := ⟨⟨0, u0⟩, ⟨0, u0⟩⟩
  obtain ⟨m, ks, -, h⟩ := read_slice (fun u : U × U => vcells (PV u.1 u.2)) (fun _ => True) Tryz.underlying31 cells42 (by decide) (of_decide_eq_true (by kernel_rfl)) hw (fun f c y h => let ⟨u, hu⟩ := read_proof h; ⟨u, hu, trivial⟩) (fun a => rfl) h
  exact ⟨m, ks, h⟩
theorem read_nums {v : Value} (hw : ∀ y ∈ DataW.weights Tryz.prog 30 x.1, y ≤ reachBytes) (h : DataW.trod enc Tryz.prog W 0 spare held fuel 30 [v] = some x) : ∃ m ks, NumsA W.heap.size (heapOf W) v m ks := by
  have : Inhabited U := ⟨⟨0, u0⟩⟩
  obtain ⟨m, ks, -, h⟩ := read_slice (fun u : U => vcells (N u.val)) (fun _ => True) Tryz.underlying30 cells24 (by decide) (of_decide_eq_true (by kernel_rfl)) hw (fun f c y h => let ⟨u, hu⟩ := read_num h; ⟨u, hu, trivial⟩) (fun a => rfl) h
  exact ⟨m, ks, h⟩
theorem read_opns {v : Value} (hw : ∀ y ∈ DataW.weights Tryz.prog 36 x.1, y ≤ reachBytes) (h : DataW.trod enc Tryz.prog W 0 spare held fuel 36 [v] = some x) : ∃ m os, (∀ i, i < m → (os i).Ok) ∧ OpnsA W.heap.size (heapOf W) v m os := by
  have : Inhabited Opn := ⟨Opn.none⟩
  exact read_slice OVL Opn.Ok Tryz.underlying36 cells44 (by decide) (of_decide_eq_true (by kernel_rfl)) hw (fun f c y h => read_opn h) (fun a => rfl) h
theorem read_setting (hw : ∀ y ∈ DataW.weights Tryz.prog 29 x.1, y ≤ reachBytes) (h : DataW.trod enc Tryz.prog W 0 spare held fuel 29 cs = some x) : ∃ G F S nv m ks, cs = vcells (SV G F S nv) ∧ KeysA W.heap.size (heapOf W) nv m ks := by
  obtain ⟨ys, m, -, rfl, hl, hy, hf⟩ := DataW.trod_struct Tryz.underlying29 h
  rw [cells29] at hl
  match ys, hy with
  | [y0, y1, y2, y3], _ =>
    have h0 := hf 0 _ rfl
    have h1 := hf 1 _ rfl
    have h2 := hf 2 _ rfl
    have h3 := hf 3 _ rfl
    simp [-List.drop_one, cells26, cells3, cells27] at h0 h1 h2 h3
    simp [DataW.weights, DataW.weightsEach, Tryz.underlying29] at hw
    obtain ⟨G, hG⟩ := read_group h0
    obtain ⟨F, hF, -⟩ := DataW.trod_int Tryz.underlying3 h1
    obtain ⟨S, hS, -⟩ := DataW.trod_int Tryz.underlying3 h2
    obtain ⟨nv, hn⟩ := one_of hl (o := 18) (by omega)
    rw [hn] at h3
    obtain ⟨mm, ks, hk⟩ := read_keys (fun y hy => hw y (by simp [hy])) h3
    have t4 : cs.drop 19 = [] := List.drop_eq_nil_of_le (by omega)
    have t3 := chop (o := 18) hn t4
    have t2 := chop (o := 17) hS t3
    have t1 := chop (o := 16) hF t2
    have t0 := chop (o := 0) hG t1
    exact ⟨G, F, S, nv, mm, ks, t0, hk⟩
theorem read_sig (h : DataW.trod enc Tryz.prog W 0 spare held fuel 33 cs = some x) : ∃ u : U × U, cs = vcells (PV u.1 u.2) := by
  obtain ⟨ys, m, -, -, hl, hy, hf⟩ := DataW.trod_struct Tryz.underlying33 h
  have c33 : Tryz.prog.cellsOf 33 = 8 := by kernel_rfl
  rw [c33] at hl
  match ys, hy with
  | [y0, y1], _ =>
    have h0 := hf 0 _ rfl
    have h1 := hf 1 _ rfl
    simp [cells24] at h0 h1
    obtain ⟨u, hu⟩ := read_num h0
    obtain ⟨v, hv⟩ := read_num h1
    exact ⟨(u, v), chop (o := 0) hu (chop hv (List.drop_eq_nil_of_le (by omega)))⟩
theorem read_dealing (hw0 : ∀ y ∈ DataW.weights Tryz.prog 35 x.1, y ≤ reachBytes) (h0 : DataW.trod enc Tryz.prog W 0 spare held fuel 35 cs = some x) :
    ∃ e d vv yv pv C S mv my mp vs yz ps, cs = [.int .u64 (e : Nat)] ++ ([.int .u8 (d : Nat)] ++ ([vv] ++ ([yv] ++ ([pv] ++ (vcells (PV C S) ++ []))))) ∧ e < B ∧ d < 256 ∧ NumsA W.heap.size (heapOf W) vv mv vs ∧ NumsA W.heap.size (heapOf W) yv my yz ∧ KeysA W.heap.size (heapOf W) pv mp ps := by
  obtain ⟨zs, m', -, rfl, hl, hz', hf'⟩ := DataW.trod_struct Tryz.underlying35 h0
  rw [cells35] at hl
  match zs, hz' with
  | [z0, z1, z2, z3, z4, z5], _ =>
    have g0 := hf' 0 _ rfl
    have g1 := hf' 1 _ rfl
    have g2 := hf' 2 _ rfl
    have g3 := hf' 3 _ rfl
    have g4 := hf' 4 _ rfl
    have g5 := hf' 5 _ rfl
    have c33 : Tryz.prog.cellsOf 33 = 8 := by kernel_rfl
    simp [-List.drop_one, cells22, cells5, c33, cells31, cells30] at g0 g1 g2 g3 g4 g5
    simp [DataW.weights, DataW.weightsEach, Tryz.underlying35] at hw0
    obtain ⟨e, he, le⟩ := read_u64 g0
    obtain ⟨d, hd, ld⟩ := read_u8 g1
    obtain ⟨vv, hvv⟩ := one_of hl (o := 2) (by omega)
    obtain ⟨yv, hyv⟩ := one_of hl (o := 3) (by omega)
    obtain ⟨pv, hpv⟩ := one_of hl (o := 4) (by omega)
    rw [hvv] at g2
    rw [hyv] at g3
    rw [hpv] at g4
    obtain ⟨mv, vs, hV⟩ := read_nums (fun y hy => hw0 y (by simp [hy])) g2
    obtain ⟨my, yz, hY⟩ := read_nums (fun y hy => hw0 y (by simp [hy])) g3
    obtain ⟨mp, ps, hP⟩ := read_proofs (fun y hy => hw0 y (by simp [hy])) g4
    obtain ⟨⟨C, S⟩, hC⟩ := read_sig g5
    have s6 : cs.drop 13 = [] := List.drop_eq_nil_of_le (by omega)
    have s5 := chop (o := 5) hC s6
    have s4 := chop (o := 4) hpv s5
    have s3 := chop (o := 3) hyv s4
    have s2 := chop (o := 2) hvv s3
    have s1 := chop (o := 1) hd s2
    have s0 := chop (o := 0) he s1
    exact ⟨e, d, vv, yv, pv, C, S, mv, my, mp, vs, yz, ps, s0, le, ld, hV, hY, hP⟩
theorem read_given (hw : ∀ y ∈ DataW.weights Tryz.prog 38 x.1, y ≤ reachBytes) (h : DataW.trod enc Tryz.prog W 0 spare held fuel 38 cs = some x) :
    ∃ e d vv yv pv C S k z lv qv mv my mp ml mq vs yz ps os qs, cs = vcells (GVN e d vv yv pv C S k z lv qv) ∧ e < B ∧ d < 256 ∧ k < 256 ∧ (∀ i, i < ml → (os i).Ok) ∧ NumsA W.heap.size (heapOf W) vv mv vs ∧ NumsA W.heap.size (heapOf W) yv my yz ∧ KeysA W.heap.size (heapOf W) pv mp ps ∧ OpnsA W.heap.size (heapOf W) lv ml os ∧ NumsA W.heap.size (heapOf W) qv mq qs := by
  obtain ⟨ys, m, -, rfl, hl, hy, hf⟩ := DataW.trod_struct Tryz.underlying38 h
  rw [cells38] at hl
  match ys, hy with
  | [y0, y1, y2, y3, y4], _ =>
    have h0 := hf 0 _ rfl
    have h1 := hf 1 _ rfl
    have h2 := hf 2 _ rfl
    have h3 := hf 3 _ rfl
    have h4 := hf 4 _ rfl
    simp [-List.drop_one, cells35, cells5, cells24, cells36, cells30] at h0 h1 h2 h3 h4
    simp [DataW.weights, DataW.weightsEach, Tryz.underlying38] at hw
    obtain ⟨k, hk, lk⟩ := read_u8 h1
    obtain ⟨z, hz⟩ := read_num h2
    obtain ⟨lv, hlv⟩ := one_of hl (o := 18) (by omega)
    obtain ⟨qv, hqv⟩ := one_of hl (o := 19) (by omega)
    rw [hlv] at h3
    rw [hqv] at h4
    obtain ⟨ml, os, hos, hL⟩ := read_opns (fun y hy => hw y (by simp [hy])) h3
    obtain ⟨mq, qs, hQ⟩ := read_nums (fun y hy => hw y (by simp [hy])) h4
    have hw0 : ∀ y ∈ DataW.weights Tryz.prog 35 y0.1, y ≤ reachBytes := fun y hy => hw y (by simp [hy])
    clear hw h1 h2 h3 h4
    obtain ⟨e, d, vv, yv, pv, C, S, mv, my, mp, vs, yz, ps, s0, le, ld, hV, hY, hP⟩ := read_dealing hw0 h0
    have t5 : cs.drop 20 = [] := List.drop_eq_nil_of_le (by omega)
    have t4 := chop (o := 19) hqv t5
    have t3 := chop (o := 18) hlv t4
    have t2 := chop (o := 14) hz t3
    have t1 := chop (o := 13) hk t2
    have t0 := chop (o := 0) s0 t1
    exact ⟨e, d, vv, yv, pv, C, S, k, z, lv, qv, mv, my, mp, ml, mq, vs, yz, ps, os, qs, t0, le, ld, lk, hos, hV, hY, hP, hL, hQ⟩
end reads
end Go.Proofs.YtcjchcommaahdaaGreat
namespace Go.Proofs.YtcjchcommaahdaaGreat
open Go.Ab Go.ChangeShapes Go.WideShapes Go.ChangeAt Go.RowKit
theorem own : ownKnob Tryz.prog.godebug = none := by kernel_rfl
theorem laidOut : laidOutB Tryz.prog = true := by kernel_rfl
theorem types29 : Tryz.prog.cellTypes Tryz.prog.depth 29 = some [22, 22, 22, 22, 22, 22, 22, 22, 22, 22, 22, 22, 22, 22, 22, 22, 3, 3, 27] := by kernel_rfl
theorem types38 : Tryz.prog.cellTypes Tryz.prog.depth 38 = some [22, 5, 30, 30, 31, 22, 22, 22, 22, 22, 22, 22, 22, 5, 22, 22, 22, 22, 36, 30] := by kernel_rfl
def z64 : Value := .int .u64 0
def nils : Value := .slice none 0 0
set_option maxRecDepth 100000 in
theorem opens_lifted (os : Os) (started : os.Started) (H : Type) (enc : TypeId × Value → H) :
    ReturnsInHanded {} Tryz.checked os 3 .any (Rows.opensOpenSpec.pre6 enc Tryz.prog Tryz.f3 Rows.opensOpenRow.domain false) (Rows.opensOpenSpec.post enc Tryz.prog Tryz.f3 false true false false) := by
  have e : Rows.opensOpenSpec.pre6 enc Tryz.prog Tryz.f3 Rows.opensOpenRow.domain false = fun w args => (Rows.opensOpenSpec.pre enc Tryz.checked.prog Tryz.f3 Rows.opensOpenRow.domain false w args ∧ True) ∧ sizedMet enc Tryz.checked.prog Tryz.f3 (OpenSpec.ofChange Rows.opensOpenSpec) false w args := by
    funext w args
    rw [and_true]
    rfl
  rw [e]
  refine returnsInHanded_of_change_and (C := Tryz.checked) (X := fun _ _ => True) (fun _ _ _ _ _ => trivial) own started (by kernel_rfl) Tryz.func3 ?_ ?_
  · obtain ⟨w, t, i, a, b, c, d, p, q⟩ := ChangeSpec.witness6 (os := os) (f := 3) (fn := Tryz.f3) (s := Rows.opensOpenSpec) (conds := Rows.opensOpenRow.domain) (apart := false) (enc := enc) (C := Tryz.checked) false
      ⟨#[], #[.agg #[z64, z64, z64, z64, z64, z64, z64, z64, z64, z64, z64, z64, z64, z64, z64, z64, .int .i64 0, .int .i64 0, nils], .agg #[z64, .int .u8 0, nils, nils, nils, z64, z64, z64, z64, z64, z64, z64, z64, .int .u8 0, z64, z64, z64, z64, nils, nils]], []⟩ 8
      (by kernel_rfl) (by kernel_rfl) (by kernel_rfl) (by kernel_rfl)
    exact ⟨w, t, i, a, b, c, d, ⟨⟨p.1, trivial⟩, p.2⟩, q⟩
  intro W base args ds gs before hval0 hW hcnd hwt _ _
  have hval : ∀ (j : Nat) t v, Tryz.f3.params[j]? = some t → args[j]? = some v → Value.okWide Tryz.prog W .any base t v := hval0
  have hW' := hW
  obtain ⟨p, q, hA0, hV, rfl, hfz, hnd⟩ := hW
  have hA : DataW.TrodAll enc Tryz.prog W 0 (fun _ => true) true Tryz.f3.params.toList args.toList ds p := hA0
  have hwt1 : (DataW.weightsEach Tryz.prog (Tryz.f3.params.toList ++ Rows.opensOpenSpec.plain.varTypes Tryz.prog) (ds ++ gs)).all (· ≤ reachBytes) = true := hwt
  rw [Tryz.params3] at hA hval hwt1
  obtain ⟨v0, v1, d0, d1, p0, p1, rfl, rfl, rfl, h0, h1⟩ := trodAll_two hA
  obtain ⟨rfl, rfl⟩ := trodVars_none hV
  clear hA0 hval0 hwt
  simp only [List.append_nil] at hW'
  have hs0 := hval 0 29 v0 rfl rfl
  have hs1 := hval 1 38 v1 rfl rfl
  simp only [Value.okWide, Tryz.underlying29] at hs0
  simp only [Value.okWide, Tryz.underlying38] at hs1
  obtain ⟨c0, rfl, -, ts0, ht0, -, hc0⟩ := hs0
  obtain ⟨c1, rfl, -, ts1, ht1, -, hc1⟩ := hs1
  rw [types29] at ht0
  rw [types38] at ht1
  cases ht0
  cases ht1
  simp [DataW.weightsEach] at hwt1
  obtain ⟨f0, k0⟩ := h0
  obtain ⟨f1, k1⟩ := h1
  obtain ⟨G, F, S, nv, m, ks, e0, hnv⟩ := read_setting (fun y hy => hwt1.1 y hy) k0
  obtain ⟨e, d, vv, yv, pv, C, Sg, k, z, lv, qv, mv, my, mp, ml, mq, vs, yz, ps, os', qs, e1, le, ld, lk, hos, hvv, hyv, hpv, hlv, hqv⟩ := read_given (fun y hy => hwt1.2 y hy) k1
  have a0 : Value.agg c0 = SV G F S nv := congrArg Value.agg (Array.toList_inj.1 e0 : c0 = ⟨vcells (SV G F S nv)⟩)
  have a1 : Value.agg c1 = GVN e d vv yv pv C Sg k z lv qv := congrArg Value.agg (Array.toList_inj.1 e1 : c1 = ⟨vcells (GVN e d vv yv pv C Sg k z lv qv)⟩)
  have b0 : c0 = ⟨vcells (SV G F S nv)⟩ := Array.toList_inj.1 e0
  have b1 : c1 = ⟨vcells (GVN e d vv yv pv C Sg k z lv qv)⟩ := Array.toList_inj.1 e1
  have rel0 : VRel (renOf W) nv nv := by
    obtain ⟨u, hu, ho⟩ := hc0 18 nv (by rw [b0]; rfl)
    cases hu
    exact slice_rel Tryz.underlying27 ho
  have rel1 : VRel (renOf W) vv vv := by
    obtain ⟨u, hu, ho⟩ := hc1 2 vv (by rw [b1]; rfl)
    cases hu
    exact slice_rel Tryz.underlying30 ho
  have rel2 : VRel (renOf W) yv yv := by
    obtain ⟨u, hu, ho⟩ := hc1 3 yv (by rw [b1]; rfl)
    cases hu
    exact slice_rel Tryz.underlying30 ho
  have rel3 : VRel (renOf W) pv pv := by
    obtain ⟨u, hu, ho⟩ := hc1 4 pv (by rw [b1]; rfl)
    cases hu
    exact slice_rel Tryz.underlying31 ho
  have rel4 : VRel (renOf W) lv lv := by
    obtain ⟨u, hu, ho⟩ := hc1 18 lv (by rw [b1]; rfl)
    cases hu
    exact slice_rel Tryz.underlying36 ho
  have rel5 : VRel (renOf W) qv qv := by
    obtain ⟨u, hu, ho⟩ := hc1 19 qv (by rw [b1]; rfl)
    cases hu
    exact slice_rel Tryz.underlying30 ho
  have hr : LRel (renOf W) [SV G F S nv, GVN e d vv yv pv C Sg k z lv qv] (#[Value.agg c0, Value.agg c1] : Array Value).toList := by
    rw [a0, a1]
    simp only [LRel, SV, GVN, VRel, ARel]
    exact ⟨_, _, rfl, ⟨_, rfl, _, _, rfl, rfl, _, _, rfl, rfl, _, _, rfl, rfl, _, _, rfl, rfl, _, _, rfl, rfl, _, _, rfl, rfl, _, _, rfl, rfl, _, _, rfl, rfl, _, _, rfl, rfl, _, _, rfl, rfl, _, _, rfl, rfl, _, _, rfl, rfl, _, _, rfl, rfl, _, _, rfl, rfl, _, _, rfl, rfl, _, _, rfl, rfl, _, _, rfl, rfl, _, _, rfl, rfl, _, _, rfl, rel0, rfl⟩,
      _, _, rfl, ⟨_, rfl, _, _, rfl, rfl, _, _, rfl, rfl, _, _, rfl, rel1, _, _, rfl, rel2, _, _, rfl, rel3, _, _, rfl, rfl, _, _, rfl, rfl, _, _, rfl, rfl, _, _, rfl, rfl, _, _, rfl, rfl, _, _, rfl, rfl, _, _, rfl, rfl, _, _, rfl, rfl, _, _, rfl, rfl, _, _, rfl, rfl, _, _, rfl, rfl, _, _, rfl, rfl, _, _, rfl, rfl, _, _, rfl, rel4, _, _, rfl, rel5, rfl⟩, rfl⟩
  have hlt : ∀ y ∈ p0 ++ p1, y.block < W.heap.size := fun y hy => hW'.lt y hy
  refine (calls_of_acall (law_OpensOpen G F S m mv my mp ml mq e d k ks vs yz ps os' qs nv vv yv pv lv qv z C Sg _ _ le ld lk hos hnv hvv hyv hpv hlv hqv) hr (Tryz.call3 _ _)).mono fun en W' ⟨he, hb⟩ => ?_
  subst he
  refine ⟨_, rfl, [d0, d1], [], p0 ++ p1, [], p0 ++ p1, [], hW', ?_, ?_, rfl, hb.frame _, fun h => by cases h⟩
  · exact trodAll_mk1 (shut_bool Tryz.underlying4 true)
  · exact trodAll_mk2 (Below.trod laidOut (by kernel_rfl) (of_decide_eq_true (by kernel_rfl)) ⟨_, k0⟩ hb fun y hy => hlt y (by simp [hy])) (Below.trod laidOut (by kernel_rfl) (of_decide_eq_true (by kernel_rfl)) ⟨_, k1⟩ hb fun y hy => hlt y (by simp [hy]))
theorem opens_holds : Rows.OpensOpenSaid :=
  OpenClaim.holds_of_wide 3 Tryz.f3 rfl rfl rfl rfl rfl rfl rfl ⟨rfl, rfl, rfl, rfl, rfl⟩ rfl rfl rfl rfl rfl (by kernel_rfl) Tryz.func3 (by kernel_rfl)
    (of_decide_eq_true (by kernel_rfl)) (by unfold Func.isWrapper; rw [if_neg (by decide +kernel)]; exact ⟨rfl, rfl⟩)
    (fun os started H enc _ => opens_lifted os started H enc)
#print axioms opens_holds
end Go.Proofs.YtcjchcommaahdaaGreat

/- The words of an abstract machine: values up to the names of blocks, heaps, and how they grow. The operations of the abstract machine, resolved (no table of types is asked), and what each comes to. From the model's operations to the resolved ones. No conditions. -/
import Derived.Calls
import Derived.Laws.Sem
import Derived.Laws.World
import Derived.Laws.Rows
set_option maxRecDepth 20000
set_option maxHeartbeats 4000000
set_option linter.all false
namespace Go.Ab

mutual
def VRel (ρ : Nat → Option Nat) : Value → Value → Prop
  | .agg l, v' => ∃ l', v' = .agg l' ∧ ARel ρ l l'
  | .tuple l, v' => l.size = 0 ∨ (∃ x, l = #[.chan (some 0), x] ∧ v' = x) ∨ ∃ l', v' = .tuple l' ∧ ARel ρ l l'
  | .func fn f c, v' => ∃ fn' f' c', v' = .func fn' f' c' ∧ (match fn with | .yield l => ∃ b, fn' = .yield b ∧ ρ l = some b | _ => fn' = fn) ∧ ARel ρ f f' ∧ ARel ρ c c'
  | .iface t v, v' => ∃ u, v' = .iface t u ∧ VRel ρ v u
  | .pointer (some a), v' => ∃ b, v' = .pointer (some ⟨b, a.off, none⟩) ∧ a.spot = none ∧ ρ a.block = some b
  | .slice (some a) n c, v' => ∃ b, v' = .slice (some ⟨b, a.off, none⟩) n c ∧ a.spot = none ∧ ρ a.block = some b
  | .map (some r), v' => ∃ b, v' = .map (some b) ∧ ρ r = some b
  | .chan (some _), _ => False
  | .bool b, v' => v' = .bool b
  | .int k n, v' => v' = .int k n
  | .float k n, v' => v' = .float k n
  | .complex k a b, v' => v' = .complex k a b
  | .string s, v' => v' = .string s
  | .pointer none, v' => v' = .pointer none
  | .slice none n c, v' => v' = .slice none n c
  | .map none, v' => v' = .map none
  | .chan none, v' => v' = .chan none
  | .nilFunc, v' => v' = .nilFunc
  | .nilIface, v' => v' = .nilIface
def ARel (ρ : Nat → Option Nat) : Array Value → Array Value → Prop
  | ⟨l⟩, m => LRel ρ l m.toList
def LRel (ρ : Nat → Option Nat) : List Value → List Value → Prop
  | [], m => m = []
  | v :: l, m => ∃ u k, m = u :: k ∧ VRel ρ v u ∧ LRel ρ l k
end

abbrev Ren := Nat → Option Nat
def Ren.le (ρ ρ' : Ren) : Prop := ∀ i b, ρ i = some b → ρ' i = some b

mutual
theorem VRel.mono {ρ ρ' : Ren} (h : ρ.le ρ') : ∀ (v v' : Value), VRel ρ v v' → VRel ρ' v v'
  | .agg l, v', H => by
    simp only [VRel] at H ⊢; obtain ⟨l', h1, h2⟩ := H; exact ⟨l', h1, ARel.mono h l l' h2⟩
  | .tuple l, v', H => by
    simp only [VRel] at H ⊢; rcases H with H | H | ⟨l', h1, h2⟩
    · exact .inl H
    · exact .inr (.inl H)
    · exact .inr (.inr ⟨l', h1, ARel.mono h l l' h2⟩)
  | .func fn f c, v', H => by
    simp only [VRel] at H ⊢; obtain ⟨fn', f', c', h1, h2, h3, h4⟩ := H
    refine ⟨fn', f', c', h1, ?_, ARel.mono h f f' h3, ARel.mono h c c' h4⟩
    cases fn <;> first | exact h2 | (obtain ⟨b, h5, h6⟩ := h2; exact ⟨b, h5, h _ _ h6⟩)
  | .iface t v, v', H => by
    simp only [VRel] at H ⊢; obtain ⟨u, h1, h2⟩ := H; exact ⟨u, h1, VRel.mono h v u h2⟩
  | .pointer (some a), v', H => by
    simp only [VRel] at H ⊢; obtain ⟨b, h1, h2, h3⟩ := H; exact ⟨b, h1, h2, h _ _ h3⟩
  | .slice (some a) n c, v', H => by
    simp only [VRel] at H ⊢; obtain ⟨b, h1, h2, h3⟩ := H; exact ⟨b, h1, h2, h _ _ h3⟩
  | .map (some r), v', H => by
    simp only [VRel] at H ⊢; obtain ⟨b, h1, h3⟩ := H; exact ⟨b, h1, h _ _ h3⟩
  | .chan (some _), _, H => by simp only [VRel] at H
  | .bool b, v', H | .int k n, v', H | .float k n, v', H | .complex k a b, v', H | .string s, v', H | .pointer none, v', H | .slice none n c, v', H
  | .map none, v', H | .chan none, v', H | .nilFunc, v', H | .nilIface, v', H => by simpa only [VRel] using H
theorem ARel.mono {ρ ρ' : Ren} (h : ρ.le ρ') : ∀ (v v' : Array Value), ARel ρ v v' → ARel ρ' v v'
  | ⟨l⟩, m, H => by simp only [ARel] at H ⊢; exact LRel.mono h l _ H
theorem LRel.mono {ρ ρ' : Ren} (h : ρ.le ρ') : ∀ (v v' : List Value), LRel ρ v v' → LRel ρ' v v'
  | [], m, H => by simpa only [LRel] using H
  | v :: l, m, H => by
    simp only [LRel] at H ⊢; obtain ⟨u, k, h1, h2, h3⟩ := H
    exact ⟨u, k, h1, VRel.mono h v u h2, LRel.mono h l k h3⟩
end

/- Both hold: what is bound to names of the one is bound to names of the other. -/
mutual
theorem VRel.restrict {ρ ρ' : Ren} (hl : ρ.le ρ') : ∀ (v v0 v' : Value), VRel ρ v v0 → VRel ρ' v v' → VRel ρ v v'
  | .agg l, v0, v', H0, H => by
    simp only [VRel] at H0 H ⊢; obtain ⟨l', h1, h2⟩ := H; obtain ⟨l0, h3, h4⟩ := H0; exact ⟨l', h1, ARel.restrict hl l l0 l' h4 h2⟩
  | .tuple l, v0, v', H0, H => by
    simp only [VRel] at H0 H ⊢; rcases H with H | H | ⟨l', h1, h2⟩
    · exact .inl H
    · exact .inr (.inl H)
    · rcases H0 with H0 | ⟨x, rfl, _⟩ | ⟨l0, h3, h4⟩
      · exact .inl H0
      · simp only [ARel, LRel, VRel] at h2; obtain ⟨_, _, _, hf, _⟩ := h2; exact hf.elim
      · exact .inr (.inr ⟨l', h1, ARel.restrict hl l l0 l' h4 h2⟩)
  | .func fn f c, v0, v', H0, H => by
    simp only [VRel] at H0 H ⊢; obtain ⟨fn', f', c', h1, h2, h3, h4⟩ := H; obtain ⟨fn0, f0, c0, g1, g2, g3, g4⟩ := H0
    refine ⟨fn', f', c', h1, ?_, ARel.restrict hl f f0 f' g3 h3, ARel.restrict hl c c0 c' g4 h4⟩
    cases fn <;> first | exact h2 | (obtain ⟨b, h5, h6⟩ := h2; obtain ⟨b0, g5, g6⟩ := g2; have := hl _ _ g6; rw [h6] at this; cases this; exact ⟨b, h5, g6⟩)
  | .iface t v, v0, v', H0, H => by
    simp only [VRel] at H0 H ⊢; obtain ⟨u, h1, h2⟩ := H; obtain ⟨u0, g1, g2⟩ := H0; exact ⟨u, h1, VRel.restrict hl v u0 u g2 h2⟩
  | .pointer (some a), v0, v', H0, H => by
    simp only [VRel] at H0 H ⊢; obtain ⟨b, h1, h2, h3⟩ := H; obtain ⟨b0, _, _, g3⟩ := H0; have := hl _ _ g3; rw [h3] at this; cases this; exact ⟨b, h1, h2, g3⟩
  | .slice (some a) n c, v0, v', H0, H => by
    simp only [VRel] at H0 H ⊢; obtain ⟨b, h1, h2, h3⟩ := H; obtain ⟨b0, _, _, g3⟩ := H0; have := hl _ _ g3; rw [h3] at this; cases this; exact ⟨b, h1, h2, g3⟩
  | .map (some r), v0, v', H0, H => by
    simp only [VRel] at H0 H ⊢; obtain ⟨b, h1, h3⟩ := H; obtain ⟨b0, _, g3⟩ := H0; have := hl _ _ g3; rw [h3] at this; cases this; exact ⟨b, h1, g3⟩
  | .chan (some _), _, _, H, _ => by simp only [VRel] at H
  | .bool b, _, v', _, H | .int k n, _, v', _, H | .float k n, _, v', _, H | .complex k a b, _, v', _, H | .string s, _, v', _, H | .pointer none, _, v', _, H | .slice none n c, _, v', _, H
  | .map none, _, v', _, H | .chan none, _, v', _, H | .nilFunc, _, v', _, H | .nilIface, _, v', _, H => by simpa only [VRel] using H
theorem ARel.restrict {ρ ρ' : Ren} (hl : ρ.le ρ') : ∀ (v v0 v' : Array Value), ARel ρ v v0 → ARel ρ' v v' → ARel ρ v v'
  | ⟨l⟩, m0, m, H0, H => by simp only [ARel] at H H0 ⊢; exact LRel.restrict hl l _ _ H0 H
theorem LRel.restrict {ρ ρ' : Ren} (hl : ρ.le ρ') : ∀ (v v0 v' : List Value), LRel ρ v v0 → LRel ρ' v v' → LRel ρ v v'
  | [], _, m, _, H => by simpa only [LRel] using H
  | v :: l, m0, m, H0, H => by
    simp only [LRel] at H H0 ⊢; obtain ⟨u, k, h1, h2, h3⟩ := H; obtain ⟨u0, k0, g1, g2, g3⟩ := H0
    exact ⟨u, k, h1, VRel.restrict hl v u0 u g2 h2, LRel.restrict hl l k0 k g3 h3⟩
end

section lists
variable {ρ : Ren}
theorem LRel.length : ∀ {l m : List Value}, LRel ρ l m → m.length = l.length
  | [], m, h => by simp only [LRel] at h; simp [h]
  | v :: l, m, h => by simp only [LRel] at h; obtain ⟨u, k, rfl, _, h3⟩ := h; simp [LRel.length h3]
theorem LRel.get : ∀ {l m : List Value} {i : Nat} {v : Value}, LRel ρ l m → l[i]? = some v → ∃ u, m[i]? = some u ∧ VRel ρ v u
  | [], m, i, v, _, hi => by simp at hi
  | x :: l, m, i, v, h, hi => by
    simp only [LRel] at h; obtain ⟨u, k, rfl, h2, h3⟩ := h
    cases i with
    | zero => simp at hi; subst hi; exact ⟨u, by simp, h2⟩
    | succ i => simp at hi; obtain ⟨y, hy, hr⟩ := LRel.get h3 hi; exact ⟨y, by simpa using hy, hr⟩
theorem LRel.append : ∀ {l m l2 m2 : List Value}, LRel ρ l m → LRel ρ l2 m2 → LRel ρ (l ++ l2) (m ++ m2)
  | [], m, l2, m2, h, h2 => by simp only [LRel] at h; subst h; simpa using h2
  | x :: l, m, l2, m2, h, h2 => by
    simp only [LRel] at h; obtain ⟨u, k, rfl, h3, h4⟩ := h
    simp only [List.cons_append, LRel]; exact ⟨u, k ++ m2, rfl, h3, LRel.append h4 h2⟩
theorem LRel.drop : ∀ {l m : List Value} (n : Nat), LRel ρ l m → LRel ρ (l.drop n) (m.drop n)
  | l, m, 0, h => by simpa using h
  | [], m, n + 1, h => by simp only [LRel] at h; subst h; simp [LRel]
  | x :: l, m, n + 1, h => by simp only [LRel] at h; obtain ⟨u, k, rfl, _, h4⟩ := h; simpa using LRel.drop n h4
theorem LRel.take : ∀ {l m : List Value} (n : Nat), LRel ρ l m → LRel ρ (l.take n) (m.take n)
  | l, m, 0, _ => by simp [LRel]
  | [], m, n + 1, h => by simp only [LRel] at h; subst h; simp [LRel]
  | x :: l, m, n + 1, h => by
    simp only [LRel] at h; obtain ⟨u, k, rfl, h3, h4⟩ := h; simp only [List.take_succ_cons, LRel]; exact ⟨u, _, rfl, h3, LRel.take n h4⟩
theorem LRel.set : ∀ {l m : List Value} {v u : Value} (n : Nat), LRel ρ l m → VRel ρ v u → LRel ρ (l.set n v) (m.set n u)
  | [], m, v, u, n, h, _ => by simp only [LRel] at h; subst h; simp [LRel]
  | x :: l, m, v, u, 0, h, hv => by
    simp only [LRel] at h; obtain ⟨y, k, rfl, _, h4⟩ := h; simp only [List.set_cons_zero, LRel]; exact ⟨u, k, rfl, hv, h4⟩
  | x :: l, m, v, u, n + 1, h, hv => by
    simp only [LRel] at h; obtain ⟨y, k, rfl, h3, h4⟩ := h; simp only [List.set_cons_succ, LRel]; exact ⟨y, _, rfl, h3, LRel.set n h4 hv⟩
theorem LRel.replicate {v u : Value} (h : VRel ρ v u) : ∀ n, LRel ρ (List.replicate n v) (List.replicate n u)
  | 0 => by simp [LRel]
  | n + 1 => by simp only [List.replicate_succ, LRel]; exact ⟨_, _, rfl, h, LRel.replicate h n⟩
theorem LRel.map {α : Type} {f g : α → Value} : ∀ {l : List α}, (∀ x, x ∈ l → VRel ρ (f x) (g x)) → LRel ρ (l.map f) (l.map g)
  | [], _ => by simp [LRel]
  | x :: l, h => by simp only [List.map_cons, LRel]; exact ⟨_, _, rfl, h x (by simp), LRel.map fun y hy => h y (by simp [hy])⟩
theorem ARel_iff {a b : Array Value} : ARel ρ a b ↔ LRel ρ a.toList b.toList := by cases a; simp [ARel]
end lists

/-- A block as the abstract machine has it. -/
inductive AObj where
  | cells (c : List Value) (e : TypeId) (fz : Nat × Nat)
  | map (es : List (Value × Value))
  | loop (r : Loop) (tm : List Value)

abbrev Heap := Nat → Option AObj

def ERel (ρ : Ren) : List (Value × Value) → List MapEntry → Prop
  | [], m => m = []
  | (k, v) :: l, m => ∃ x r, m = x :: r ∧ VRel ρ k x.key ∧ VRel ρ v x.val ∧ ERel ρ l r

def ORel (ρ : Ren) : AObj → Obj → Prop
  | .cells c e fz, o => ∃ c', o = .cells c' e fz ∧ LRel ρ c c'.toList
  | .map es, o => ∃ es' clock, o = .map es' clock ∧ ERel ρ es es'.toList
  | .loop r tm, o => ∃ ts, o = .loop { r with tmps := ts } ∧ LRel ρ tm ts.toList

theorem ERel.mono {ρ ρ' : Ren} (h : ρ.le ρ') : ∀ {l m}, ERel ρ l m → ERel ρ' l m
  | [], m, H => by simpa only [ERel] using H
  | (k, v) :: l, m, H => by
    simp only [ERel] at H ⊢; obtain ⟨x, r, h1, h2, h3, h4⟩ := H; exact ⟨x, r, h1, h2.mono h, h3.mono h, ERel.mono h h4⟩
theorem ERel.restrict {ρ ρ' : Ren} (h : ρ.le ρ') : ∀ {l m m0}, ERel ρ l m0 → ERel ρ' l m → ERel ρ l m
  | [], m, _, _, H => by simpa only [ERel] using H
  | (k, v) :: l, m, m0, H0, H => by
    simp only [ERel] at H0 H ⊢; obtain ⟨x, r, h1, h2, h3, h4⟩ := H; obtain ⟨x0, r0, g1, g2, g3, g4⟩ := H0
    exact ⟨x, r, h1, VRel.restrict h _ _ _ g2 h2, VRel.restrict h _ _ _ g3 h3, ERel.restrict h g4 h4⟩
theorem ORel.mono {ρ ρ' : Ren} (h : ρ.le ρ') : ∀ {a o}, ORel ρ a o → ORel ρ' a o
  | .cells c e fz, o, H => by obtain ⟨c', h1, h2⟩ := H; exact ⟨c', h1, LRel.mono h _ _ h2⟩
  | .map es, o, H => by obtain ⟨c', k, h1, h2⟩ := H; exact ⟨c', k, h1, ERel.mono h h2⟩
  | .loop r tm, o, H => by obtain ⟨ts, h1, h2⟩ := H; exact ⟨ts, h1, LRel.mono h _ _ h2⟩
theorem ORel.restrict {ρ ρ' : Ren} (h : ρ.le ρ') : ∀ {a o o0}, ORel ρ a o0 → ORel ρ' a o → ORel ρ a o
  | .cells c e fz, o, o0, H0, H => by obtain ⟨c', h1, h2⟩ := H; obtain ⟨c0, g1, g2⟩ := H0; exact ⟨c', h1, LRel.restrict h _ _ _ g2 h2⟩
  | .map es, o, o0, H0, H => by obtain ⟨c', k, h1, h2⟩ := H; obtain ⟨c0, k0, g1, g2⟩ := H0; exact ⟨c', k, h1, ERel.restrict h g2 h2⟩
  | .loop r tm, o, o0, H0, H => by obtain ⟨ts, h1, h2⟩ := H; obtain ⟨t0, g1, g2⟩ := H0; exact ⟨ts, h1, LRel.restrict h _ _ _ g2 h2⟩

structure HRel (ρ : Ren) (H : Heap) (w : World) : Prop where
  inj : ∀ i j b, ρ i = some b → ρ j = some b → i = j
  obj : ∀ i b, ρ i = some b → ∃ o o', H i = some o ∧ w.heap[b]? = some o' ∧ ORel ρ o o'

def Fresh (ρ : Ren) (n : Nat) : Prop := ∀ i b, ρ i = some b → i < n

structure Ext (n : Nat) (ρ : Ren) (w : World) (ρ' : Ren) (w' : World) : Prop where
  le : ρ.le ρ'
  new : ∀ i b, ρ' i = some b → ρ i = some b ∨ (n ≤ i ∧ w.heap.size ≤ b)
  size : w.heap.size ≤ w'.heap.size
  frame : ∀ b, b < w.heap.size → (∀ i, ρ i ≠ some b) → w'.heap[b]? = w.heap[b]?
  tape : w'.tape = w.tape
  os : w'.os = w.os
  output : w'.output = w.output

theorem Ren.le_refl (ρ : Ren) : ρ.le ρ := fun _ _ h => h
theorem Ren.le_trans {ρ σ τ : Ren} (h : ρ.le σ) (h' : σ.le τ) : ρ.le τ := fun _ _ x => h' _ _ (h _ _ x)
theorem HRel.lt {ρ : Ren} {H : Heap} {w : World} (h : HRel ρ H w) {i b : Nat} (hi : ρ i = some b) : b < w.heap.size := by
  obtain ⟨o, o', _, h2, _⟩ := h.obj i b hi
  exact (Array.getElem?_eq_some_iff.1 h2).1
theorem Ext.refl (n : Nat) (ρ : Ren) (w : World) : Ext n ρ w ρ w :=
  ⟨Ren.le_refl ρ, fun _ _ h => .inl h, Nat.le_refl _, fun _ _ _ => rfl, rfl, rfl, rfl⟩
theorem Ext.trans {n n1 : Nat} {ρ ρ1 ρ2 : Ren} {w w1 w2 : World} (h : Ext n ρ w ρ1 w1) (h' : Ext n1 ρ1 w1 ρ2 w2) (hn : n ≤ n1) :
    Ext n ρ w ρ2 w2 where
  le := Ren.le_trans h.le h'.le
  new i b hb := by
    rcases h'.new i b hb with h1 | ⟨h1, h2⟩
    · exact h.new i b h1
    · exact .inr ⟨Nat.le_trans hn h1, Nat.le_trans h.size h2⟩
  size := Nat.le_trans h.size h'.size
  frame b hb hi := by
    rw [h'.frame b (Nat.lt_of_lt_of_le hb h.size) ?_, h.frame b hb hi]
    intro i hi'
    rcases h.new i b hi' with h1 | ⟨_, h2⟩
    · exact hi i h1
    · omega
  tape := h'.tape.trans h.tape
  os := h'.os.trans h.os
  output := h'.output.trans h.output

def upd (H : Heap) (b : Nat) (o : AObj) : Heap := fun i => if i = b then some o else H i
theorem upd_same (H : Heap) (b : Nat) (o : AObj) : upd H b o b = some o := by simp [upd]
theorem upd_ne (H : Heap) {b i : Nat} (o : AObj) (h : i ≠ b) : upd H b o i = H i := by simp [upd, h]

def Ren.put (ρ : Ren) (i b : Nat) : Ren := fun j => if j = i then some b else ρ j
theorem Ren.le_put {ρ : Ren} {i b : Nat} (h : ρ i = none) : ρ.le (ρ.put i b) := by
  intro j c hj
  unfold Ren.put
  split
  · rename_i e; subst e; rw [h] at hj; cases hj
  · exact hj

/-- A new block: at the abstract name 'i' (that no block has) and the next place of the world. -/
theorem HRel.alloc {ρ : Ren} {H : Heap} {w : World} (h : HRel ρ H w) {i : Nat} (hi : ρ i = none) {a : AObj} {o : Obj} (ho : ORel ρ a o) :
    HRel (ρ.put i w.heap.size) (upd H i a) { w with heap := w.heap.push o } where
  inj j k b hj hk := by
    unfold Ren.put at hj hk
    split at hj <;> split at hk
    · rename_i e1 e2; rw [e1, e2]
    · cases hj; have := h.lt hk; omega
    · cases hk; have := h.lt hj; omega
    · exact h.inj j k b hj hk
  obj j b hj := by
    have hj' := hj
    unfold Ren.put at hj'
    split at hj'
    · rename_i e; cases hj'; subst e
      exact ⟨a, o, upd_same _ _ _, by simp, ho.mono (Ren.le_put hi)⟩
    · rename_i e
      obtain ⟨x, x', h1, h2, h3⟩ := h.obj j b hj'
      refine ⟨x, x', by rw [upd_ne _ _ e]; exact h1, ?_, h3.mono (Ren.le_put hi)⟩
      have := (Array.getElem?_eq_some_iff.1 h2).1
      simp only [Array.getElem?_push, h2]; rw [if_neg (by omega)]

theorem Ext.alloc {ρ : Ren} {w : World} {i n : Nat} (hi : ρ i = none) (hn : n ≤ i) (o : Obj) :
    Ext n ρ w (ρ.put i w.heap.size) { w with heap := w.heap.push o } where
  le := Ren.le_put hi
  new j b hj := by
    unfold Ren.put at hj
    split at hj
    · rename_i e; cases hj; subst e; exact .inr ⟨hn, Nat.le_refl _⟩
    · exact .inl hj
  size := by simp
  frame b hb _ := by simp only [Array.getElem?_push]; rw [if_neg (by omega)]
  tape := rfl
  os := rfl
  output := rfl

/-- A block that is written. -/
theorem HRel.write {ρ : Ren} {H : Heap} {w : World} (h : HRel ρ H w) {i b : Nat} (hi : ρ i = some b) {a : AObj} {o : Obj} (ho : ORel ρ a o) :
    HRel ρ (upd H i a) { w with heap := w.heap.setIfInBounds b o } where
  inj := h.inj
  obj j c hj := by
    by_cases e : j = i
    · subst e; rw [hi] at hj; cases hj
      exact ⟨a, o, upd_same _ _ _, by simp [h.lt hi], ho⟩
    · obtain ⟨x, x', h1, h2, h3⟩ := h.obj j c hj
      refine ⟨x, x', by rw [upd_ne _ _ e]; exact h1, ?_, h3⟩
      have : b ≠ c := fun hbc => e (h.inj j i c hj (hbc ▸ hi))
      simp [this, h2]
theorem Ext.write {ρ : Ren} {w : World} {n i b : Nat} (hi : ρ i = some b) (o : Obj) :
    Ext n ρ w ρ { w with heap := w.heap.setIfInBounds b o } where
  le := Ren.le_refl _
  new _ _ h := .inl h
  size := by simp
  frame c _ hc := by
    have : b ≠ c := fun e => hc i (e ▸ hi)
    simp [this]
  tape := rfl
  os := rfl
  output := rfl
theorem Ext.weaken {n m : Nat} {ρ ρ' : Ren} {w w' : World} (h : Ext n ρ w ρ' w') (hm : m ≤ n) : Ext m ρ w ρ' w' :=
  { h with new := fun i b hb => (h.new i b hb).imp id fun ⟨h1, h2⟩ => ⟨Nat.le_trans hm h1, h2⟩ }
/-- Draws alone. -/
theorem HRel.drawn {ρ : Ren} {H : Heap} {w : World} (h : HRel ρ H w) (d : Nat) : HRel ρ H { w with drawn := d } := ⟨h.inj, h.obj⟩
theorem Ext.drawn (n : Nat) (ρ : Ren) (w : World) (d : Nat) : Ext n ρ w ρ { w with drawn := d } :=
  ⟨Ren.le_refl ρ, fun _ _ h => .inl h, Nat.le_refl _, fun _ _ _ => rfl, rfl, rfl, rfl⟩
end Go.Ab
namespace Go.Ab

def junk : Value := .tuple #[]

inductive Opd where
  | t (i : Nat)
  | v (x : Value)
  deriving Inhabited

def Opd.ev (tm : List Value) : Opd → Value
  | .t i => tm.getD i junk
  | .v x => x

inductive AOp where
  | mv (x : Opd)
  | pick (c a b : Opd)
  | alloc (k : Nat) (e : TypeId) (z : List Value)
  | box (k : Nat) (e : TypeId) (x : Opd)
  | build (z : List Value) (parts : List (Nat × Nat × Opd))
  | mkSlice (k : Nat) (e : TypeId) (z : List Value) (len : Nat) (parts : List (Nat × Nat × Opd))
  | load (agg : Bool) (n : Nat) (a : Opd)
  | store (n : Nat) (a x : Opd)
  | bin (op : BinOp) (x y : Opd)
  | eqv (neg : Bool) (sh : List Nat) (x y : Opd)
  | eqS (neg : Bool) (s : Nat) (x y : Opd)
  | eqNil (neg : Bool) (kd : Nat) (x : Opd)
  | un (op : UnOp) (x : Opd)
  | conv (k : IntKind) (x : Opd)
  | mkIface (t : TypeId) (x : Opd)
  | mkFunc (fn : Fn) (first cap : List Opd)
  | fieldAddr (off : Nat) (x : Opd)
  | field (agg : Bool) (n off : Nat) (x : Opd)
  | indexAddr (arr : Option Nat) (esz : Nat) (x i : Opd)
  | index (len esz : Nat) (agg : Bool) (x i : Opd)
  | extract (x : Opd) (i : Nat)
  | len (str : Bool) (x : Opd)
  | cap (x : Opd)
  | slice (arr : Option Nat) (esz : Nat) (x : Opd) (lo hi mx : Option Opd)
  | makeSlice (k : Nat) (e : TypeId) (z : List Value) (bytes : Nat) (l c : Opd)
  | copy (esz : Nat) (d s : Opd)
  | minmax (isMax : Bool) (xs : List Opd)
  | nilCheck (x : Opd)
  | toArr (n : Nat) (x : Opd)
  | indexS (x i : Opd)
  | call (f : Opd) (args : List Opd)
  | append (k : Nat) (e : TypeId) (z : List Value) (bytes : Nat) (s x : Opd)
  | strBytes (k : Nat) (e : TypeId) (x : Opd)
  | panic (x : Opd)
  | recover
  | defer (f : Opd) (args : List Opd)
  | makeMap (k : Nat)
  | lookup (kt : TypeId) (z : Value) (ok : Bool) (m k : Opd)
  | mapUpdate (kt : TypeId) (m k v : Opd)
  | tassert (t : TypeId) (z : Option Value) (x : Opd)
  | bad
  deriving Inhabited

structure AOper where
  dst : Option Nat
  op : AOp
  guard : Option (Nat × Bool)
  ap : List Opd := []
  deriving Inhabited

def isTup : Value → Bool
  | .tuple _ => true
  | _ => false

def hdChan : List Value → Bool
  | .chan _ :: _ => true
  | _ => false
def vcells : Value → List Value
  | .agg l => l.toList
  | v => [v]

/-- No cell of it is a struct, an array, or unknown. -/
def good (v : Value) : Bool := !isTup v && (vcells v).all Value.oneCell'

def splice (c : List Value) (off : Nat) (l : List Value) : List Value := c.take off ++ l ++ c.drop (off + l.length)

def fillA (tm : List Value) : List Value → List (Nat × Nat × Opd) → Option (List Value)
  | c, [] => some c
  | c, (off, size, x) :: r =>
    let v := x.ev tm
    if isTup v = false ∧ (vcells v).length = size ∧ off + size ≤ c.length then fillA tm (splice c off (vcells v)) r else none

def binInt (op : BinOp) (k : IntKind) (a : Int) (k' : IntKind) (b : Int) : Option Value :=
  match op with
  | .shl => if 0 ≤ b then some (.int k (k.wrap (a * 2 ^ (min b.toNat k.bits)))) else none
  | .shr => if 0 ≤ b then some (.int k (a.fdiv (2 ^ (min b.toNat k.bits)))) else none
  | .add => if k = k' then some (.int k (k.wrap (a + b))) else none
  | .sub => if k = k' then some (.int k (k.wrap (a - b))) else none
  | .mul => if k = k' then some (.int k (k.wrap (a * b))) else none
  | .quo => if k = k' then if b = 0 then none else some (.int k (k.wrap (a.tdiv b))) else none
  | .rem => if k = k' then if b = 0 then none else some (.int k (a.tmod b)) else none
  | .and => if k = k' then some (.int k (k.wrap (BitVec.ofInt k.bits a &&& BitVec.ofInt k.bits b).toNat)) else none
  | .or => if k = k' then some (.int k (k.wrap (BitVec.ofInt k.bits a ||| BitVec.ofInt k.bits b).toNat)) else none
  | .xor => if k = k' then some (.int k (k.wrap (BitVec.ofInt k.bits a ^^^ BitVec.ofInt k.bits b).toNat)) else none
  | .andNot => if k = k' then some (.int k (k.wrap (BitVec.ofInt k.bits a &&& ~~~(BitVec.ofInt k.bits b)).toNat)) else none
  | .eql => if k = k' then some (.bool (a == b)) else none
  | .neq => if k = k' then some (.bool (a != b)) else none
  | .lss => if k = k' then some (.bool (decide (a < b))) else none
  | .leq => if k = k' then some (.bool (decide (a ≤ b))) else none
  | .gtr => if k = k' then some (.bool (decide (a > b))) else none
  | .geq => if k = k' then some (.bool (decide (a ≥ b))) else none

/-- Two cells: 0 integers, 1 bools, 2 strings. -/
def cellEq : Nat → Value → Value → Option Bool
  | 0, .int k a, .int k' b => if k = k' then some (a == b) else none
  | 1, .bool a, .bool b => some (a == b)
  | 2, .string a, .string b => some (a == b)
  | _, _, _ => none

def cellsEq : List Nat → List Value → List Value → Option Bool
  | [], [], [] => some true
  | s :: ss, a :: l, b :: m => match cellEq s a b, cellsEq ss l m with
    | some x, some y => some (x && y)
    | _, _ => none
  | _, _, _ => none

def bound (v : Value) (y : Nat) : Option Nat :=
  match v with
  | .int _ i => if 0 ≤ i ∧ i ≤ y then some i.toNat else none
  | _ => none

/-- The bounds of a slice expression: low, high, max. -/
def bounds (tm : List Value) (len cap : Nat) (lo hi mx : Option Opd) : Option (Nat × Nat × Nat) :=
  match (match mx with | some x => bound (x.ev tm) cap | none => some cap) with
  | none => none
  | some m => match (match hi, mx with | some x, some _ => bound (x.ev tm) m | some x, none => bound (x.ev tm) m | none, none => some len | none, some _ => none) with
    | none => none
    | some h => match (match lo with | some x => bound (x.ev tm) h | none => some 0) with
      | none => none
      | some l => some (l, h, m)

abbrev Eff := Option (Nat × AObj)
def Eff.app (H : Heap) : Eff → Heap
  | none => H
  | some (b, o) => upd H b o

def srcCells (H : Heap) (n : Nat) : Value → Option (List Value)
  | .slice (some ⟨b, off, none⟩) _ _ => match H b with
    | some (.cells c _ _) => if off + n ≤ c.length then some ((c.drop off).take n) else none
    | _ => none
  | .slice none _ _ => some []
  | _ => none

def minInt (isMax : Bool) (k : IntKind) (x : Int) : List Value → Option Value
  | [] => some (.int k x)
  | .int k' y :: r => if k = k' then minInt isMax k (if isMax then (if y > x then y else x) else (if y < x then y else x)) r else none
  | _ => none

/-- What an operation that calls nothing and asks nothing comes to: its value, and the block that it writes. 'n0': where the names of the region's own new blocks begin. -/
def sim (n0 : Nat) (tm : List Value) (H : Heap) : AOp → Option (Value × Eff)
  | .mv x => some (x.ev tm, none)
  | .pick c a b => match c.ev tm with
    | .bool t => some (if t then a.ev tm else b.ev tm, none)
    | _ => none
  | .alloc k e z => some (.pointer (some ⟨n0 + k, 0, none⟩), some (n0 + k, .cells z e (0, 0)))
  | .box k e x => if isTup (x.ev tm) = false then some (.pointer (some ⟨n0 + k, 0, none⟩), some (n0 + k, .cells (vcells (x.ev tm)) e (0, 0))) else none
  | .build z parts => match fillA tm z parts with
    | some c => some (.agg c.toArray, none)
    | none => none
  | .mkSlice k e z len parts => match fillA tm z parts with
    | some c => some (.slice (some ⟨n0 + k, 0, none⟩) len len, some (n0 + k, .cells c e (0, 0)))
    | none => none
  | .load agg n a => match a.ev tm with
    | .pointer (some ⟨b, off, none⟩) => match H b with
      | some (.cells c _ _) =>
        if agg then (if off + n ≤ c.length then some (.agg ((c.drop off).take n).toArray, none) else none)
        else match c[off]? with
          | some v => some (v, none)
          | none => none
      | _ => none
    | _ => none
  | .store n a x => match a.ev tm with
    | .pointer (some ⟨b, off, none⟩) => match H b with
      | some (.cells c e (0, 0)) =>
        if good (x.ev tm) = true ∧ (vcells (x.ev tm)).length = n ∧ off + n ≤ c.length then some (junk, some (b, .cells (splice c off (vcells (x.ev tm))) e (0, 0))) else none
      | _ => none
    | _ => none
  | .bin op x y => match x.ev tm, y.ev tm with
    | .int k a, .int k' b => (binInt op k a k' b).map fun v => (v, none)
    | _, _ => none
  | .eqv neg sh x y => match x.ev tm, y.ev tm with
    | .agg a, .agg b => match cellsEq sh a.toList b.toList with
      | some r => some (.bool (bif neg then !r else r), none)
      | none => none
    | _, _ => none
  | .eqS neg s x y => match cellEq s (x.ev tm) (y.ev tm) with
    | some r => some (.bool (bif neg then !r else r), none)
    | none => none
  | .eqNil neg kd x => match kd, x.ev tm with
    | 0, .pointer a => some (.bool (bif neg then a.isSome else a.isNone), none)
    | 1, .slice a _ _ => some (.bool (bif neg then a.isSome else a.isNone), none)
    | 2, .map a => some (.bool (bif neg then a.isSome else a.isNone), none)
    | 3, .nilFunc => some (.bool (!neg), none)
    | 3, .func .. => some (.bool neg, none)
    | 4, .nilIface => some (.bool (!neg), none)
    | 4, .iface .. => some (.bool neg, none)
    | _, _ => none
  | .un op x => match op, x.ev tm with
    | .neg, .int k n => some (.int k (k.wrap (0 - n)), none)
    | .xor, .int k n => some (.int k (k.wrap (BitVec.ofInt k.bits (if k.signed then -1 else k.max) ^^^ BitVec.ofInt k.bits n).toNat), none)
    | .not, .bool b => some (.bool (!b), none)
    | _, _ => none
  | .conv k x => match x.ev tm with
    | .int _ n => some (.int k (k.wrap n), none)
    | _ => none
  | .mkIface t x => some (.iface t (x.ev tm), none)
  | .mkFunc fn first cap => some (.func fn (first.map (Opd.ev tm)).toArray (cap.map (Opd.ev tm)).toArray, none)
  | .fieldAddr off x => match x.ev tm with
    | .pointer (some ⟨b, o, none⟩) => some (.pointer (some ⟨b, o + off, none⟩), none)
    | _ => none
  | .field agg n off x => match x.ev tm with
    | .agg cs => if agg then some (.agg ((cs.toList.drop off).take n).toArray, none) else match cs.toList[off]? with
      | some v => some (v, none)
      | none => none
    | _ => none
  | .indexAddr arr esz x i => match i.ev tm with
    | .int _ j => match arr, x.ev tm with
      | some n, .pointer (some ⟨b, o, none⟩) => if 0 ≤ j ∧ j < n then some (.pointer (some ⟨b, o + j.toNat * esz, none⟩), none) else none
      | none, .slice (some ⟨b, o, none⟩) n _ => if 0 ≤ j ∧ j < n then some (.pointer (some ⟨b, o + j.toNat * esz, none⟩), none) else none
      | _, _ => none
    | _ => none
  | .index len esz agg x i => match x.ev tm, i.ev tm with
    | .agg cs, .int _ j => if 0 ≤ j ∧ j < len then (if agg then some (.agg ((cs.toList.drop (j.toNat * esz)).take esz).toArray, none) else match cs.toList[j.toNat * esz]? with
      | some v => some (v, none)
      | none => none) else none
    | _, _ => none
  | .extract x i => match x.ev tm with
    | .tuple vs => if hdChan vs.toList = true then none else match vs.toList[i]? with
      | some v => some (v, none)
      | none => none
    | _ => none
  | .len str x => match str, x.ev tm with
    | false, .slice _ n _ => some (.int .i64 n, none)
    | true, .string s => some (.int .i64 s.size, none)
    | _, _ => none
  | .cap x => match x.ev tm with
    | .slice _ _ n => some (.int .i64 n, none)
    | _ => none
  | .slice arr esz x lo hi mx => match arr, x.ev tm with
    | some n, .pointer (some ⟨b, o, none⟩) => match bounds tm n n lo hi mx with
      | some (l, h, m) => some (.slice (some (if m = l then ⟨b, o, none⟩ else ⟨b, o + l * esz, none⟩)) (h - l) (m - l), none)
      | none => none
    | none, .slice (some ⟨b, o, none⟩) n c => match bounds tm n c lo hi mx with
      | some (l, h, m) => some (.slice (some (if m = l then ⟨b, o, none⟩ else ⟨b, o + l * esz, none⟩)) (h - l) (m - l), none)
      | none => none
    | none, .slice none n c => match bounds tm n c lo hi mx with
      | some (l, h, m) => some (.slice none (h - l) (m - l), none)
      | none => none
    | _, _ => none
  | .makeSlice k e z bytes l c => match l.ev tm, c.ev tm with
    | .int _ a, .int _ b => if 0 ≤ a ∧ a ≤ b ∧ b < 2 ^ 62 ∧ bytes * b ≤ 2 ^ 48 then
        some (.slice (some ⟨n0 + k, 0, none⟩) a.toNat b.toNat, some (n0 + k, .cells (List.replicate b.toNat z).flatten e (0, 0))) else none
    | _, _ => none
  | .copy esz d s => match d.ev tm, s.ev tm with
    | .slice (some ⟨b, o, none⟩) n _, .slice sa m sc => match H b with
      | some (.cells c e (0, 0)) => match srcCells H (Nat.min m n * esz) (.slice sa m sc) with
        | some l => if o + l.length ≤ c.length ∧ l.all Value.oneCell' = true then some (.int .i64 (Nat.min m n), some (b, .cells (splice c o l) e (0, 0))) else none
        | none => none
      | _ => none
    | .slice none n _, .slice sa m sc => match srcCells H (Nat.min m n * esz) (.slice sa m sc) with
        | some _ => some (.int .i64 (Nat.min m n), none)
        | none => none
    | _, _ => none
  | .minmax isMax xs => match xs.map (Opd.ev tm) with
    | .int k x :: r => (minInt isMax k x r).map fun v => (v, none)
    | _ => none
  | .nilCheck x => match x.ev tm with
    | .pointer (some a) => some (.pointer (some a), none)
    | .func (.func f) a b => some (.func (.func f) a b, none)
    | _ => none
  | .toArr n x => match x.ev tm with
    | .slice (some ⟨b, o, none⟩) m _ => if n ≤ m then some (.pointer (some ⟨b, o, none⟩), none) else none
    | _ => none
  | .indexS x i => match x.ev tm, i.ev tm with
    | .string s, .int _ j => if 0 ≤ j then match s[j.toNat]? with
        | some b => some (.int .u8 b.toNat, none)
        | none => none
      else none
    | _, _ => none
  | .tassert t z x => match x.ev tm with
    | .iface u v => if u = t then some (match z with | some _ => .tuple #[v, .bool true] | none => v, none) else match z with
      | some z => some (.tuple #[z, .bool false], none)
      | none => none
    | .nilIface => match z with
      | some z => some (.tuple #[z, .bool false], none)
      | none => none
    | _ => none
  | _ => none
end Go.Ab
namespace Go.Ab

def flatC : Value → Bool
  | .bool _ | .int _ _ | .float _ _ | .string _ | .nilFunc | .nilIface | .pointer none | .slice none _ _ | .map none => true
  | _ => false

def flatV (v : Value) : Bool := !isTup v && (vcells v).all flatC

def cOpd : Operand → Option Opd
  | .tmp i => some (.t i)
  | .const v => if flatV v then some (.v v) else none
  | .func f => some (.v (.func (.func f) #[] #[]))
  | .global _ => none

def cOpds : List Operand → Option (List Opd)
  | [] => some []
  | x :: l => match cOpd x, cOpds l with
    | some y, some m => some (y :: m)
    | _, _ => none

def cOpt : Option Operand → Option (Option Opd)
  | none => some none
  | some x => (cOpd x).map some

def szOf (P : Program) (t : TypeId) : Option Nat := (P.info? t).map (·.size)
def aggB (P : Program) (t : TypeId) : Option Bool :=
  match P.underlying t with
  | some (.struct _) | some (.array _ _) => some true
  | some _ => some false
  | none => none
def zeroL (P : Program) (t : TypeId) : Option (List Value) :=
  match P.info? t with
  | some i => match i.zero with
    | some v => if flatV v then some (vcells v) else none
    | none => none
  | none => none

def shapeFs (P : Program) (f : TypeId → Option (List Nat)) : List Field → List Nat → Option (List Nat)
  | [], acc => some acc
  | fd :: r, acc => if fd.name ≠ "_" ∧ fd.offset = acc.length then match f fd.type with
      | some s => shapeFs P f r (acc ++ s)
      | none => none
    else none

/-- A type all of whose cells are compared one by one: 0 integers, 1 bools, 2 strings. -/
def shapeT (P : Program) : Nat → TypeId → Option (List Nat)
  | 0, _ => none
  | d + 1, t => match (match P.underlying t with
      | some (.int _) => some [0]
      | some .bool => some [1]
      | some .string => some [2]
      | some (.array n e) => (shapeT P d e).map fun s => (List.replicate n s).flatten
      | some (.struct fs) => if P.stoodInHeld t then none else shapeFs P (shapeT P d) fs.toList []
      | _ => none) with
    | some s => if szOf P t = some s.length then some s else none
    | none => none

def cParts (f : Nat → Option (Nat × Nat)) : List (Nat × Operand) → Option (List (Nat × Nat × Opd))
  | [] => some []
  | (i, x) :: r => match f i, cOpd x, cParts f r with
    | some (off, size), some y, some m => some ((off, size, y) :: m)
    | _, _, _ => none

/-- The kind of a comparison with nil. -/
def nilKind : TypeDesc → Value → Option Nat
  | .pointer _, .pointer none => some 0
  | .slice _, .slice none _ _ => some 1
  | .map _ _, .map none => some 2
  | .func .., .nilFunc => some 3
  | .interface _, .nilIface => some 4
  | _, _ => none

def cop (P : Program) (i : Nat) : Op → Option AOp
  | .move x | .assign x => (cOpd x).map .mv
  | .pick c a b => match cOpd c, cOpd a, cOpd b with
    | some c, some a, some b => some (.pick c a b)
    | _, _, _ => none
  | .alloc e => (zeroL P e).map (.alloc i e)
  | .box e x => (cOpd x).map (.box i e)
  | .build t parts => match zeroL P t, P.underlying t with
    | some z, some (.struct fs) => match cParts (fun j => match fs[j]? with | some f => (szOf P f.type).map fun s => (f.offset, s) | none => none) parts.toList with
      | some ps => if fs.toList.all (fun f => (szOf P f.type).isSome) then some (.build z ps) else none
      | none => none
    | some z, some (.array _ e) => match szOf P e with
      | some s => (cParts (fun j => some (j * s, s)) parts.toList).map (.build z)
      | none => none
    | _, _ => none
  | .buildSlice t len parts => match P.underlying t with
    | some (.slice e) => match szOf P e, zeroL P e with
      | some s, some z => if 0 < s ∧ z.length = s ∧ len * s ≤ 2 ^ 24 then (cParts (fun j => some (j * s, s)) parts.toList).map (.mkSlice i e (List.replicate len z).flatten len) else none
      | _, _ => none
    | _ => none
  | .load t a => match aggB P t, szOf P t, cOpd a with
    | some g, some n, some a => some (.load g n a)
    | _, _, _ => none
  | .store t a x => match szOf P t, cOpd a, cOpd x with
    | some n, some a, some x => some (.store n a x)
    | _, _, _ => none
  | .binOp op t x y _ => match P.underlying t, cOpd x, cOpd y with
    | some (.int _), some x, some y => some (.bin op x y)
    | some .bool, some x, some y => match op with
      | .eql => some (.eqS false 1 x y)
      | .neq => some (.eqS true 1 x y)
      | _ => none
    | some .string, some x, some y => match op with
      | .eql => some (.eqS false 2 x y)
      | .neq => some (.eqS true 2 x y)
      | _ => none
    | some (.struct _), some x, some y | some (.array _ _), some x, some y => match shapeT P 30 t with
      | some sh => if P.eqGuardType P.depth t = false then match op with
          | .eql => some (.eqv false sh x y)
          | .neq => some (.eqv true sh x y)
          | _ => none
        else none
      | none => none
    | some d, some x, some (.v u) => match nilKind d u, op with
      | some k, .eql => some (.eqNil false k x)
      | some k, .neq => some (.eqNil true k x)
      | _, _ => none
    | _, _, _ => none
  | .unOp op _ x => (cOpd x).map (.un op)
  | .convert s d x => match P.underlying s, P.underlying d, cOpd x with
    | some (.int _), some (.int k), some x => some (.conv k x)
    | some .string, some (.slice e), some x => match P.underlying e with
      | some (.int .u8) => some (.strBytes i e x)
      | _ => none
    | _, _, _ => none
  | .makeInterface t x => match P.underlying t with
    | some (.interface _) => none
    | some _ => (cOpd x).map (.mkIface t)
    | none => none
  | .makeFunc fn first cap => match fn, cOpds first.toList, cOpds cap.toList with
    | .func f, some a, some b => some (.mkFunc (.func f) a b)
    | _, _, _ => none
  | .fieldAddr t x j => match P.underlying t, cOpd x with
    | some (.struct fs), some x => match fs[j]? with
      | some f => match szOf P f.type with
        | some s => if s ≠ 0 then some (.fieldAddr f.offset x) else none
        | none => none
      | none => none
    | _, _ => none
  | .field t x j => match P.underlying t, cOpd x with
    | some (.struct fs), some x => match fs[j]? with
      | some f => match szOf P f.type, aggB P f.type with
        | some s, some g => some (.field g s f.offset x)
        | _, _ => none
      | none => none
    | _, _ => none
  | .indexAddr t x j => match P.underlying t, cOpd x, cOpd j with
    | some (.array n e), some x, some j => (szOf P e).map fun s => .indexAddr (some n) s x j
    | some (.slice e), some x, some j => (szOf P e).map fun s => .indexAddr none s x j
    | _, _, _ => none
  | .index t x j => match P.underlying t, cOpd x, cOpd j with
    | some (.array n e), some x, some j => match szOf P e, aggB P e with
      | some s, some g => some (.index n s g x j)
      | _, _ => none
    | some .string, some x, some j => some (.indexS x j)
    | _, _, _ => none
  | .extract x j => (cOpd x).map (.extract · j)
  | .slice t x lo hi mx => match P.underlying t, cOpd x, cOpt lo, cOpt hi, cOpt mx with
    | some (.array n e), some x, some lo, some hi, some mx => match szOf P e with
      | some s => if s ≠ 0 then some (.slice (some n) s x lo hi mx) else none
      | none => none
    | some (.slice e), some x, some lo, some hi, some mx => match szOf P e with
      | some s => if s ≠ 0 then some (.slice none s x lo hi mx) else none
      | none => none
    | _, _, _, _, _ => none
  | .makeSlice t l c => match P.underlying t, cOpd l, cOpd c with
    | some (.slice e), some l, some c => match P.info? e, zeroL P e with
      | some i', some z => if 0 < i'.size ∧ z.length = i'.size then some (.makeSlice i e z i'.bytes l c) else none
      | _, _ => none
    | _, _, _ => none
  | .nilCheck x => (cOpd x).map .nilCheck
  | .sliceToArrayPointer t x => match P.underlying t, cOpd x with
    | some (.array n _), some x => some (.toArr n x)
    | _, _ => none
  | .panic x => (cOpd x).map .panic
  | .typeAssert x _ a ok => match P.underlying a, cOpd x with
    | some (.interface _), _ => none
    | some _, some x => if ok then match P.info? a with
        | some i' => match i'.zero with
          | some z => if flatC z then some (.tassert a (some z) x) else none
          | none => none
        | none => none
      else some (.tassert a none x)
    | _, _ => none
  | .call { callee := .value f, args, .. } => match cOpd f, cOpds args.toList with
    | some f, some args => some (.call f args)
    | _, _ => none
  | .call { callee := .builtin b, args, argTypes } => match b, cOpds args.toList, argTypes.toList with
    | .len, some [x], [t] => match P.underlying t with
      | some (.slice _) => some (.len false x)
      | some .string => some (.len true x)
      | some (.array n _) => some (.mv (.v (.int .i64 n)))
      | _ => none
    | .cap, some [x], [t] => match P.underlying t with
      | some (.slice _) => some (.cap x)
      | _ => none
    | .copy, some [d, s], t :: _ => match P.underlying t with
      | some (.slice e) => (szOf P e).map fun s' => .copy s' d s
      | _ => none
    | .min, some xs, _ => some (.minmax false xs)
    | .max, some xs, _ => some (.minmax true xs)
    | .append, some [s, x], [t, u] => match P.underlying t, P.underlying u with
      | some (.slice _), some (.int _) => none
      | some (.slice e), some _ => match P.info? e, zeroL P e with
        | some i', some z => if 0 < i'.size ∧ z.length = i'.size ∧ 0 < i'.bytes then some (.append i e z i'.bytes s x) else none
        | _, _ => none
      | _, _ => none
    | .panic, some [x], _ => some (.panic x)
    | .recover, some [], _ => some .recover
    | _, _, _ => none
  | .defer { callee := .value f, args, .. } => match cOpd f, cOpds args.toList with
    | some f, some args => some (.defer f args)
    | _, _ => none
  | _ => none
end Go.Ab

/- A frame's temporaries as what has been put, the newest first. Rounds and iterators, as walks take them. Lists that a function makes and grows. No conditions. -/
import Derived.Test.YtcjchcommaahdaaGreatQ09
set_option maxRecDepth 20000
set_option maxHeartbeats 4000000
set_option linter.all false
namespace Go.Ab

def lk : List (Nat × Value) → Nat → Value
  | [], _ => junk
  | (j, v) :: l, i => bif j == i then v else lk l i
def FR (nt : Nat) (al : List (Nat × Value)) : List Value := (List.range nt).map (lk al)
theorem lk_nil (i : Nat) : lk [] i = junk := rfl
theorem lk_cons (j : Nat) (v : Value) (l : List (Nat × Value)) (i : Nat) : lk ((j, v) :: l) i = bif j == i then v else lk l i := rfl
theorem lk_if (j : Nat) (v : Value) (l : List (Nat × Value)) (i : Nat) : lk ((j, v) :: l) i = if j = i then v else lk l i := by
  rw [lk_cons]
  by_cases h : j = i
  · rw [if_pos h, h, beq_self_eq_true, cond_true]
  · rw [if_neg h, show (j == i) = false by simpa using h, cond_false]
theorem FR_length (nt : Nat) (al : List (Nat × Value)) : (FR nt al).length = nt := by simp [FR]
theorem FR_getD (nt : Nat) (al : List (Nat × Value)) (i : Nat) : (FR nt al).getD i junk = bif Nat.blt i nt then lk al i else junk := by
  unfold FR
  rw [List.getD_eq_getElem?_getD, List.getElem?_map]
  by_cases h : i < nt
  · rw [List.getElem?_range h, show Nat.blt i nt = true by simpa [Nat.blt_eq] using h]; rfl
  · rw [List.getElem?_eq_none (by simpa using h), show Nat.blt i nt = false by rw [← Bool.not_eq_true, Nat.blt_eq]; exact h]; rfl
theorem ev_t (nt : Nat) (al : List (Nat × Value)) (i : Nat) : (Opd.t i).ev (FR nt al) = bif Nat.blt i nt then lk al i else junk := FR_getD nt al i
theorem FR_getI (nt : Nat) (al : List (Nat × Value)) (i : Nat) : (FR nt al).getD i junk = if i < nt then lk al i else junk := by
  rw [FR_getD]
  by_cases h : i < nt
  · rw [if_pos h, show Nat.blt i nt = true by simpa [Nat.blt_eq] using h]; rfl
  · rw [if_neg h, show Nat.blt i nt = false by rw [← Bool.not_eq_true, Nat.blt_eq]; exact h]; rfl
theorem ev_i (nt : Nat) (al : List (Nat × Value)) (i : Nat) : (Opd.t i).ev (FR nt al) = if i < nt then lk al i else junk := FR_getI nt al i
theorem beq_tf : ((true == false) = false) ∧ ((false == true) = false) ∧ ((true == true) = true) ∧ ((false == false) = true) := by decide
theorem beq_bt (b : Bool) : (b == true) = b := by cases b <;> rfl
theorem beq_bf (b : Bool) : (b == false) = !b := by cases b <;> rfl
theorem upd_neq {H : Heap} {b i : Nat} {o : AObj} (h : i ≠ b) : upd H b o i = H i := upd_ne _ _ h
theorem blk_eq (b : Nat) : (b == b) = true := beq_self_eq_true b
theorem blk_ne {a b : Nat} (h : a ≠ b) : (a == b) = false := by simpa using h
theorem isTup_c : (∀ k n, isTup (.int k n) = false) ∧ (∀ b, isTup (.bool b) = false) ∧ (∀ s, isTup (.string s) = false) ∧ (∀ l, isTup (.agg l) = false) ∧ (∀ p, isTup (.pointer p) = false) ∧ (∀ a n c, isTup (.slice a n c) = false) ∧
    (∀ f a c, isTup (.func f a c) = false) ∧ isTup .nilFunc = false ∧ isTup .nilIface = false ∧ (∀ t v, isTup (.iface t v) = false) ∧ (∀ m, isTup (.map m) = false) ∧ (∀ l, isTup (.tuple l) = true) :=
  ⟨fun _ _ => rfl, fun _ => rfl, fun _ => rfl, fun _ => rfl, fun _ => rfl, fun _ _ _ => rfl, fun _ _ _ => rfl, rfl, rfl, fun _ _ => rfl, fun _ => rfl, fun _ => rfl⟩
theorem hdChan_c : (∀ k n l, hdChan (.int k n :: l) = false) ∧ (∀ b l, hdChan (.bool b :: l) = false) ∧ (∀ s l, hdChan (.string s :: l) = false) ∧ (∀ a l, hdChan (.agg a :: l) = false) ∧ (∀ p l, hdChan (.pointer p :: l) = false) ∧ (∀ a n c l, hdChan (.slice a n c :: l) = false) ∧
    (∀ f a c l, hdChan (.func f a c :: l) = false) ∧ (∀ l, hdChan (.nilFunc :: l) = false) ∧ (∀ l, hdChan (.nilIface :: l) = false) ∧ (∀ t v l, hdChan (.iface t v :: l) = false) :=
  ⟨fun _ _ _ => rfl, fun _ _ => rfl, fun _ _ => rfl, fun _ _ => rfl, fun _ _ => rfl, fun _ _ _ _ => rfl, fun _ _ _ _ => rfl, fun _ => rfl, fun _ => rfl, fun _ _ _ => rfl⟩
theorem vcells_c : (∀ k n, vcells (.int k n) = [.int k n]) ∧ (∀ b, vcells (.bool b) = [.bool b]) ∧ (∀ s, vcells (.string s) = [.string s]) ∧ (∀ l, vcells (.agg ⟨l⟩) = l) ∧ (∀ p, vcells (.pointer p) = [.pointer p]) ∧ (∀ a n c, vcells (.slice a n c) = [.slice a n c]) ∧
    (∀ f a c, vcells (.func f a c) = [.func f a c]) ∧ vcells .nilFunc = [.nilFunc] ∧ vcells .nilIface = [.nilIface] ∧ (∀ t v, vcells (.iface t v) = [.iface t v]) ∧ (∀ m, vcells (.map m) = [.map m]) :=
  ⟨fun _ _ => rfl, fun _ => rfl, fun _ => rfl, fun _ => rfl, fun _ => rfl, fun _ _ _ => rfl, fun _ _ _ => rfl, rfl, rfl, fun _ _ => rfl, fun _ => rfl⟩
theorem ev_v (tm : List Value) (u : Value) : (Opd.v u).ev tm = u := rfl
theorem put_FR (nt : Nat) (al : List (Nat × Value)) (d : Nat) (v : Value) : put (FR nt al) (some d) v = FR nt ((d, v) :: al) := by
  simp only [put]
  apply List.ext_getElem?
  intro i
  rw [List.getElem?_set]
  unfold FR
  simp only [List.length_map, List.length_range, List.getElem?_map]
  by_cases h : i < nt
  · rw [List.getElem?_range h]
    split
    · rename_i e; subst e; simp [h, lk]
    · rename_i e; simp [lk_cons, show (d == i) = false by simpa using e]
  · rw [List.getElem?_eq_none (by simpa using h)]
    split
    · rename_i e; subst e; simp [h]
    · rfl
theorem put_no (tm : List Value) (v : Value) : put tm none v = tm := rfl

def enumA : Nat → List Value → List (Nat × Value)
  | _, [] => []
  | i, v :: l => (i, v) :: enumA (i + 1) l
theorem enumA_nil (i : Nat) : enumA i [] = [] := rfl
theorem enumA_cons (i : Nat) (v : Value) (l : List Value) : enumA i (v :: l) = (i, v) :: enumA (i + 1) l := rfl
theorem lk_enumA : ∀ (l : List Value) (k i : Nat), k ≤ i → lk (enumA k l) i = (l[i - k]?).getD junk
  | [], k, i, h => by simp [enumA, lk]
  | v :: l, k, i, h => by
    rw [enumA_cons, lk_cons]
    by_cases e : k = i
    · subst e; simp
    · rw [show (k == i) = false by simpa using e, cond_false, lk_enumA l (k + 1) i (by omega), show i - k = (i - (k + 1)) + 1 by omega, List.getElem?_cons_succ]
theorem FR_init {args : List Value} {nt : Nat} (h : args.length ≤ nt) : args ++ List.replicate (nt - args.length) junk = FR nt (enumA 0 args) := by
  apply List.ext_getElem?
  intro i
  unfold FR
  rw [List.getElem?_map, List.getElem?_append]
  by_cases hi : i < nt
  · rw [List.getElem?_range hi]
    simp only [Option.map_some, lk_enumA args 0 i (Nat.zero_le _), Nat.sub_zero]
    split
    · rename_i h2; rw [List.getElem?_eq_getElem h2]; rfl
    · rename_i h2; rw [List.getElem?_replicate, if_pos (by omega), List.getElem?_eq_none (by omega)]; rfl
  · rw [List.getElem?_eq_none (l := List.range nt) (by simpa using hi)]
    split
    · omega
    · rw [List.getElem?_replicate, if_neg (by omega)]; rfl

/-- What 'al' says is so of 'now'. -/
def subs : List Nat → List (Nat × Value) → List (Nat × Value) → Prop
  | _, [], _ => True
  | seen, (i, v) :: r, now => bif seen.elem i then subs seen r now else (lk now i = v ∧ subs (i :: seen) r now)
theorem subs_nil (s : List Nat) (now : List (Nat × Value)) : subs s [] now = True := rfl
theorem subs_cons (s : List Nat) (i : Nat) (v : Value) (r now : List (Nat × Value)) : subs s ((i, v) :: r) now = bif s.elem i then subs s r now else (lk now i = v ∧ subs (i :: s) r now) := rfl
theorem subs_if (s : List Nat) (i : Nat) (v : Value) (r now : List (Nat × Value)) : subs s ((i, v) :: r) now = if s.elem i = true then subs s r now else (lk now i = v ∧ subs (i :: s) r now) := by
  rw [subs_cons]; cases s.elem i <;> rfl
theorem subs_lk : ∀ {r now : List (Nat × Value)} {s : List Nat} {i : Nat}, subs s r now → i ∉ s → lk r i = junk ∨ lk r i = lk now i
  | [], now, s, i, _, _ => .inl rfl
  | (j, v) :: r, now, s, i, h, hi => by
    rw [subs_cons] at h
    rw [lk_cons]
    by_cases hs : s.elem j = true
    · rw [hs, cond_true] at h
      have : j ≠ i := fun e => hi (e ▸ List.elem_iff.1 hs)
      rw [show (j == i) = false by simpa using this, cond_false]
      exact subs_lk h hi
    · rw [show s.elem j = false by simpa using hs, cond_false] at h
      by_cases e : j = i
      · subst e; rw [beq_self_eq_true, cond_true]; exact .inr h.1.symm
      · rw [show (j == i) = false by simpa using e, cond_false]
        exact subs_lk h.2 (by simp only [List.mem_cons, not_or]; exact ⟨fun e' => e e'.symm, hi⟩)
theorem LeT.of_getD : ∀ {a b : List Value}, a.length = b.length → (∀ i, i < a.length → a.getD i junk = junk ∨ a.getD i junk = b.getD i junk) → LeT a b
  | [], [], _, _ => trivial
  | [], _ :: _, h, _ => by simp at h
  | _ :: _, [], h, _ => by simp at h
  | x :: a, y :: b, h, hi => ⟨by simpa using hi 0 (by simp), LeT.of_getD (by simpa using h) fun i hlt => by simpa using hi (i + 1) (by simpa using hlt)⟩
theorem LeT.of_subs {nt : Nat} {al now : List (Nat × Value)} (h : subs [] al now) : LeT (FR nt al) (FR nt now) := by
  refine LeT.of_getD (by simp [FR]) fun i _ => ?_
  rw [FR_getD, FR_getD]
  cases Nat.blt i nt
  · exact .inl rfl
  · exact subs_lk h (by simp)

section loops
variable {P : Program} {res : ALeave} {k : List AItem} {nt : Nat} {al now : List (Nat × Value)} {H : Heap} {n : Nat} {R : Post}
theorem AGo_turnF {b : ACode} {al' : List (Nat × Value)} (hs : subs [] al' al) (h : AGo P res (.code b :: .inLoop b :: k) (FR nt al') H n R) : AGo P res (.inLoop b :: k) (FR nt al) H n R := .inLoop (LeT.of_subs hs) (.refl _) h
theorem AGo_le {b : ACode} (hs : subs [] al now) (h : AGo P res (.inLoop b :: k) (FR nt al) H n R) : AGo P res (.inLoop b :: k) (FR nt now) H n R := by
  cases h with
  | inLoop h1 h2 h3 => exact .inLoop (LeT.trans h1 (LeT.of_subs hs)) h2 h3
/-- What is dead is forgotten: the temporaries from 'lo' on, below 'hi'. -/
def dropR (lo hi : Nat) : List (Nat × Value) → List (Nat × Value)
  | [] => []
  | (i, v) :: l => bif Nat.ble lo i && Nat.blt i hi then dropR lo hi l else (i, v) :: dropR lo hi l
theorem dropR_nil (lo hi : Nat) : dropR lo hi [] = [] := rfl
theorem dropR_cons (lo hi i : Nat) (v : Value) (l : List (Nat × Value)) : dropR lo hi ((i, v) :: l) = if i < lo then (i, v) :: dropR lo hi l else if i < hi then dropR lo hi l else (i, v) :: dropR lo hi l := by
  rw [dropR]
  by_cases h1 : i < lo
  · rw [if_pos h1, show Nat.ble lo i = false by rw [← Bool.not_eq_true, Nat.ble_eq]; omega, Bool.false_and, cond_false]
  · rw [if_neg h1, show Nat.ble lo i = true by rw [Nat.ble_eq]; omega, Bool.true_and]
    by_cases h2 : i < hi
    · rw [if_pos h2, show Nat.blt i hi = true by rw [Nat.blt_eq]; exact h2, cond_true]
    · rw [if_neg h2, show Nat.blt i hi = false by rw [← Bool.not_eq_true, Nat.blt_eq]; exact h2, cond_false]
theorem lk_dropR (lo hi : Nat) : ∀ (l : List (Nat × Value)) (i : Nat), lk (dropR lo hi l) i = junk ∨ lk (dropR lo hi l) i = lk l i
  | [], i => .inl rfl
  | (j, v) :: l, i => by
    rw [dropR_cons, lk_cons]
    by_cases e : j = i
    · subst e
      have hj : ∀ l : List (Nat × Value), lo ≤ j → j < hi → lk (dropR lo hi l) j = junk := by
        intro l h1 h2
        induction l with
        | nil => rfl
        | cons x l ih =>
          obtain ⟨q, u⟩ := x
          rw [dropR_cons]
          split
          · rw [lk_cons, show (q == j) = false by simp; omega, cond_false]; exact ih
          · split
            · exact ih
            · rw [lk_cons, show (q == j) = false by simp; omega, cond_false]; exact ih
      split
      · right; rw [lk_cons, beq_self_eq_true, cond_true, cond_true]
      · split
        · left; exact hj l (by omega) (by omega)
        · right; rw [lk_cons, beq_self_eq_true, cond_true, cond_true]
    · have ne : (j == i) = false := by simpa using e
      rw [ne, cond_false]
      split
      · rw [lk_cons, ne, cond_false]; exact lk_dropR lo hi l i
      · split
        · exact lk_dropR lo hi l i
        · rw [lk_cons, ne, cond_false]; exact lk_dropR lo hi l i
theorem LeT.drop (nt lo hi : Nat) (al : List (Nat × Value)) : LeT (FR nt (dropR lo hi al)) (FR nt al) := by
  refine LeT.of_getD (by simp [FR]) fun i _ => ?_
  rw [FR_getD, FR_getD]
  cases Nat.blt i nt
  · exact .inl rfl
  · exact lk_dropR lo hi al i
theorem AGo_turnD {b : ACode} (lo hi : Nat) (h : AGo P res (.code b :: .inLoop b :: k) (FR nt (dropR lo hi al)) H n R) : AGo P res (.inLoop b :: k) (FR nt al) H n R := .inLoop (LeT.drop _ _ _ _) (.refl _) h
theorem AGo_dropD {b : ACode} (lo hi : Nat) (h : AGo P res (.inLoop b :: k) (FR nt (dropR lo hi al)) H n R) : AGo P res (.inLoop b :: k) (FR nt al) H n R := by
  cases h with
  | inLoop h1 h2 h3 => exact .inLoop (LeT.trans h1 (LeT.drop _ _ _ _)) h2 h3
theorem AGo_markL (hs : subs [] al now) (h : AGo P res k (FR nt al) H n R) : AGo P res (.mark :: k) (FR nt now) H n R := .mark (LeT.of_subs hs) h
/-- A loop: 'vs' are its variables, 'I' is so at its head, 'J' behind it, 'm' goes down. -/
theorem AGo_cycle {α : Type} {b : ACode} {id : Nat} (vs : α → List (Nat × Value)) (I J : α → Heap → Nat → Prop) (m : α → Nat) (x0 : α) (rest : List (Nat × Value)) (hI : I x0 H n) (h0 : subs [] (vs x0 ++ rest) al)
    (step : ∀ (x : α) (H : Heap) (n : Nat) (kk : List AItem), I x H n → (∀ x' H' n', J x' H' n' → AGo P res kk (FR nt (vs x' ++ rest)) H' n' R) →
      (∀ x' H' n', I x' H' n' → m x' < m x → AGo P res (.inLoop b :: .inBlock id :: .mark :: kk) (FR nt (vs x' ++ rest)) H' n' R) →
      AGo P res (.inLoop b :: .inBlock id :: .mark :: kk) (FR nt (vs x ++ rest)) H n R)
    (K : ∀ x' H' n', J x' H' n' → AGo P res k (FR nt (vs x' ++ rest)) H' n' R) :
    AGo P res (.inLoop b :: .inBlock id :: k) (FR nt al) H n R := by
  refine AGo_le h0 ?_
  have hm : AGo P res (.inLoop b :: .inBlock id :: .mark :: k) (FR nt (vs x0 ++ rest)) H n R := by
    have : ∀ (d : Nat) (x : α) (H : Heap) (n : Nat), m x < d → I x H n → AGo P res (.inLoop b :: .inBlock id :: .mark :: k) (FR nt (vs x ++ rest)) H n R := by
      intro d
      induction d with
      | zero => intro x H n h; omega
      | succ d ih => intro x H n h hI; exact step x H n k hI K (fun x' H' n' hI' hm => ih x' H' n' (by omega) hI')
    exact this _ x0 H n (Nat.lt_succ_self _) hI
  exact AGo_marks (.cons _ (.mark (.refl _))) hm
theorem lk_append_in : ∀ {a b : List (Nat × Value)} {i : Nat}, i ∈ a.map Prod.fst → lk (a ++ b) i = lk a i
  | [], _, _, h => by simp at h
  | (j, v) :: a, b, i, h => by
    rw [List.cons_append, lk_if, lk_if]
    split
    · rfl
    · rename_i hne; exact lk_append_in (by simp only [List.map_cons, List.mem_cons] at h; exact h.resolve_left (fun e => hne e.symm))
theorem lk_append_out : ∀ {a b : List (Nat × Value)} {i : Nat}, i ∉ a.map Prod.fst → lk (a ++ b) i = lk b i
  | [], _, _, _ => rfl
  | (j, v) :: a, b, i, h => by
    simp only [List.map_cons, List.mem_cons, not_or] at h
    rw [List.cons_append, lk_if, if_neg (fun e => h.1 e.symm)]; exact lk_append_out h.2
theorem LeT.of_head {lo hi : Nat} {a : List (Nat × Value)} (h : subs [] a al) : LeT (FR nt (a ++ dropR lo hi al)) (FR nt al) := by
  refine LeT.of_getD (by simp [FR]) fun i _ => ?_
  rw [FR_getD, FR_getD]
  cases Nat.blt i nt
  · exact .inl rfl
  · by_cases hi' : i ∈ a.map Prod.fst
    · rw [lk_append_in hi']; exact subs_lk h (by simp)
    · rw [lk_append_out hi']; exact lk_dropR lo hi al i
/-- A loop, as above; the temporaries from 'lo' on, below 'hi', are dead at its head. -/
theorem AGo_cycleD {α : Type} {b : ACode} {id : Nat} (lo hi : Nat) (vs : α → List (Nat × Value)) (I J : α → Heap → Nat → Prop) (m : α → Nat) (x0 : α) (hI : I x0 H n) (h0 : subs [] (vs x0) al)
    (step : ∀ (x : α) (H : Heap) (n : Nat) (kk : List AItem), I x H n → (∀ x' H' n', J x' H' n' → AGo P res kk (FR nt (vs x' ++ dropR lo hi al)) H' n' R) →
      (∀ x' H' n', I x' H' n' → m x' < m x → AGo P res (.inLoop b :: .inBlock id :: .mark :: kk) (FR nt (vs x' ++ dropR lo hi al)) H' n' R) →
      AGo P res (.inLoop b :: .inBlock id :: .mark :: kk) (FR nt (vs x ++ dropR lo hi al)) H n R)
    (K : ∀ x' H' n', J x' H' n' → AGo P res k (FR nt (vs x' ++ dropR lo hi al)) H' n' R) :
    AGo P res (.inLoop b :: .inBlock id :: k) (FR nt al) H n R := by
  have hm : AGo P res (.inLoop b :: .inBlock id :: .mark :: k) (FR nt (vs x0 ++ dropR lo hi al)) H n R := by
    have : ∀ (d : Nat) (x : α) (H : Heap) (n : Nat), m x < d → I x H n → AGo P res (.inLoop b :: .inBlock id :: .mark :: k) (FR nt (vs x ++ dropR lo hi al)) H n R := by
      intro d
      induction d with
      | zero => intro x H n h; omega
      | succ d ih => intro x H n h hI; exact step x H n k hI K (fun x' H' n' hI' hm => ih x' H' n' (by omega) hI')
    exact this _ x0 H n (Nat.lt_succ_self _) hI
  have hm2 := AGo_marks (.cons _ (.mark (.refl _))) hm
  cases hm2 with
  | inLoop h1 h2 h3 => exact .inLoop (LeT.trans h1 (LeT.of_head h0)) h2 h3
end loops

theorem acall_ofF {P : Program} (hmix : P.follows .mixedOrders = true) {f : FuncId} {fn : Func} {c : AFun} {args : List Value} {H : Heap} {n : Nat} {Q : Post} (hf : P.funcs[f]? = some fn) (hc : cFun P fn = some c)
    (he : ∀ (args : Array Value) (w : World), (callFunc f args).run P w = .ok (.enter f args) w) (hn : Nat.ble args.length c.nt = true)
    (h : AGo P (.fn c.res) [.code c.body] (FR c.nt (enumA 0 args)) H n Q) : ACall P f args H n Q :=
  acall_of hmix hf hc he (by rw [FR_init (Nat.le_of_ble_eq_true hn)]; exact h)
theorem acall_retF {P : Program} (hmix : P.follows .mixedOrders = true) {f : FuncId} {fn : Func} {c : AFun} {args : List Value} {H : Heap} {n : Nat} {v : Value} (hv : Low n v) (hf : P.funcs[f]? = some fn) (hc : cFun P fn = some c)
    (he : ∀ (args : Array Value) (w : World), (callFunc f args).run P w = .ok (.enter f args) w) (hn : Nat.ble args.length c.nt = true)
    (h : AGo P (.fn c.res) [.code c.body] (FR c.nt (enumA 0 args)) H n (Gives v H n)) : ACall P f args H n (Ret v H n) :=
  (acall_ofF hmix hf hc he hn h).drop hv
end Go.Ab
namespace Go.Ab
theorem AGo.mono {P : Program} {res : ALeave} {k : List AItem} {tm : List Value} {H : Heap} {n : Nat} {R R' : Post} (hr : ∀ e H n, R e H n → R' e H n) (h : AGo P res k tm H n R) : AGo P res k tm H n R' := by
  induction h with
  | skip _ ih => exact .skip (ih hr)
  | seq _ ih => exact .seq (ih hr)
  | cond b h1 _ ih => exact .cond b h1 (ih hr)
  | block _ ih => exact .block (ih hr)
  | inBlock _ ih => exact .inBlock (ih hr)
  | loop h1 h2 _ ih => exact .loop h1 h2 (ih hr)
  | inLoop h1 h2 _ ih => exact .inLoop h1 h2 (ih hr)
  | mark h1 _ ih => exact .mark h1 (ih hr)
  | scope _ ih => exact .scope (ih hr)
  | inScope _ ih => exact .inScope (ih hr)
  | exit h1 _ ih => exact .exit h1 (ih hr)
  | ret h1 h2 => exact .ret h1 (hr _ _ _ h2)
  | nil h1 h2 => exact .nil h1 (hr _ _ _ h2)
  | exitOut h1 h2 h3 => exact .exitOut h1 h2 (hr _ _ _ h3)
  | begin h1 h2 _ ih => exact .begin h1 h2 (ih hr)
  | rangeFunc vals J JX h1 h2 h3 h4 h5 h6 h7 h8 h9 h10 _ _ _ ihd ihj => exact .rangeFunc vals J JX h1 h2 h3 h4 h5 h6 h7 h8 h9 h10 (fun r o H' n' a b => ihd r o H' n' a b hr) (fun r j o H' n' a b => ihj r j o H' n' a b hr)
  | region _ ih => exact .region (ih hr)
  | regNil _ ih => exact .regNil (ih hr)
  | opSkip h1 _ ih => exact .opSkip h1 (ih hr)
  | op h1 h2 h3 _ ih => exact .op h1 h2 h3 (ih hr)
  | call Q h1 h2 h3 h4 h5 _ h7 ih => exact .call Q h1 h2 h3 h4 h5 (fun v H' n' a b => ih v H' n' a b hr) (fun c H' n' a b => ⟨(h7 c H' n' a b).1, hr _ _ _ (h7 c H' n' a b).2⟩)
  | yield Q h1 h2 h3 h4 h5 _ ih => exact .yield Q h1 h2 h3 h4 h5 (fun v H' n' a b => ih v H' n' a b hr)
  | appIn h1 h2 h3 h4 _ ih => exact .appIn h1 h2 h3 h4 (ih hr)
  | appNew h1 h2 h3 h4 _ ih => exact .appNew h1 h2 h3 h4 (fun cap v eff a b c => ih cap v eff a b c hr)
  | strBytes h1 h2 h3 h4 _ ih => exact .strBytes h1 h2 h3 h4 (fun cap a b => ih cap a b hr)
  | panic h1 h2 h3 h4 => exact .panic h1 h2 h3 (hr _ _ _ h4)
section rounds
variable {P : Program} {res : ALeave} {k : List AItem} {tm : List Value} {H : Heap} {n n0 : Nat} {d : Bool} {R : Post} {dst : Option Nat} {f : Opd} {args ap : List Opd} {ops : List AOper} {as : List Value} {g : FuncId} {first cap : Array Value}

/-- A call of yield. -/
theorem AGo_yieldV {l : Nat} (Q : Post) (hc : AYield P l (first.toList ++ as) H n Q) (hd : d = true → ∀ v H' n', Q (.returned v) H' n' → n ≤ n' → CallKeeps n0 n tm ap H H')
    (h : ∀ v H' n', Q (.returned v) H' n' → n ≤ n' → AGo P res (.inReg n0 d ops :: k) (put tm dst v) H' n' R) : CallV P res n0 d dst f args ap ops k tm H n R (.func (.yield l) first cap) as := by
  rintro hf rfl
  exact .yield Q rfl rfl hf hc (fun v H' n' hq hn hdt => hd hdt v H' n' hq hn) h

def RangeV (P : Program) (res : ALeave) (f : Opd) (ps : List Nat) (as bd : ACode) (k : List AItem) (tm : List Value) (H : Heap) (n : Nat) (R : Post) (v : Value) : Prop :=
  f.ev tm = v → AGo P res (.code (.rangeFunc f ps as bd) :: k) tm H n R
theorem AGo_rangeV {ps as bd} : AGo P res (.code (.rangeFunc f ps as bd) :: k) tm H n R = RangeV P res f ps as bd k tm H n R (f.ev tm) := propext ⟨fun h _ => h, fun h => h rfl⟩

/-- At a round's end, for the caller. -/
def RoundEnd (l : Nat) (r : Loop) (tm : List Value) (J : Heap → Nat → Prop) (JX : AJump → Heap → Nat → Prop) : Post := fun e H n =>
  ∃ j : AJump, e = .returned j.val ∧ H l = some (.loop { r with state := .busy } tm) ∧ l < n ∧ match j with
    | .off => J H n
    | j => JX j H n

theorem AGo_range {rs : List ARes} {ps as bd} (vals : Nat → List Value) (N : Nat) (J : Nat → Heap → Nat → Prop) (JX : AJump → Heap → Nat → Prop)
    (eg : ∀ args w, (callFunc g args).run P w = .ok (.enter g args) w) (hps : ∀ i, (vals i).length = ps.length)
    (hs : ∀ i H n H' n', J i H n → AgreeB n H H' → n ≤ n' → J i H' n') (hsX : ∀ j H n H' n', JX j H n → AgreeB n H H' → n ≤ n' → JX j H' n')
    (hu : ∀ i H' n' x, J i H' n' → J i (upd H' n x) n') (huX : ∀ j H' n' x, JX j H' n' → JX j (upd H' n x) n')
    (hit : ∀ r (J' : Nat → Heap → Nat → Prop) (JX' : AJump → Heap → Nat → Prop), (∀ i H' n', J' i H' n' → J i H' n') → AIter P g first.toList cap.toList n vals N J' JX' (upd H n (.loop r tm)) (n + 1))
    (h0 : J 0 H (n + 1))
    (hbody : ∀ i r H' n', i < N → LoopOK r → n < n' → H' n = some (.loop r tm) → J i H' n' → AGo P (.round n) [.code as, .begin, .code bd] (setPs tm ps (vals i)) H' n' (RoundEnd n r tm (J (i + 1)) JX))
    (hdone : ∀ H' n', J N H' n' → AGo P (.fn rs) k tm H' n' R)
    (hjump : ∀ j H' n', JX j H' n' → AGo P (.fn rs) (.code j.acode :: k) tm H' n' R) :
    RangeV P (.fn rs) f ps as bd k tm H n R (.func (.func g) first cap) := by
  intro hf
  refine .rangeFunc (N := N) vals (fun r i H' n' => H' n = some (.loop r tm) ∧ n < n' ∧ J i H' n') (fun r j H' n' => H' n = some (.loop { r with state := .done, pending := j.code } tm) ∧ n < n' ∧ j ≠ .off ∧ JX j H' n')
    hf eg hps (fun r i H' n' h => ⟨h.1, h.2.1⟩) (fun r j H' n' h => ⟨h.1, h.2.1, h.2.2.1⟩) ?_ ?_ (fun r hr => hit r _ _ (fun i H' n' h => h.2.2)) (fun r hr => ⟨upd_same _ _ _, Nat.lt_succ_self _, hu _ _ _ _ h0⟩) ?_ (fun r o H' n' hr h => hdone _ _ (hu _ _ _ _ h.2.2)) (fun r j o H' n' hr h => hjump _ _ _ (huX _ _ _ _ h.2.2.2))
  · rintro r i H1 n1 H2 n2 ⟨h1, h2, h3⟩ ha hn
    exact ⟨by rw [ha _ h2]; exact h1, by omega, hs _ _ _ _ _ h3 ha hn⟩
  · rintro r i H1 n1 H2 n2 ⟨h1, h2, h3, h4⟩ ha hn
    exact ⟨by rw [ha _ h2]; exact h1, by omega, h3, hsX _ _ _ _ _ h4 ha hn⟩
  · rintro r i H' n' hr hi ⟨h1, h2, h3⟩
    have key : ∀ e H n', RoundEnd n r tm (J (i + 1)) JX e H n' → RoundPost n r tm (fun H' n' => H' n = some (.loop r tm) ∧ n < n' ∧ J (i + 1) H' n') (fun j H' n' => H' n = some (.loop { r with state := .done, pending := j.code } tm) ∧ n < n' ∧ j ≠ .off ∧ JX j H' n') e H n' := by
      rintro e H n' ⟨j, rfl, g1, g2, g3⟩
      refine ⟨j, rfl, g1, ?_⟩
      cases j with
      | off => exact ⟨upd_same _ _ _, g2, hu _ _ _ _ g3⟩
      | ret => exact ⟨upd_same _ _ _, g2, by simp, huX _ _ _ _ g3⟩
      | out id => exact ⟨upd_same _ _ _, g2, by simp, huX _ _ _ _ g3⟩
    have hb := hbody i r H' n' hi hr h2 h1 h3
    have e : (RoundEnd n r tm (J (i + 1)) JX) = (RoundEnd n r tm (J (i + 1)) JX) := rfl
    exact AGo.mono (fun e H n' h => key e H n' h) hb
theorem setPs_FR {nt : Nat} {al : List (Nat × Value)} (p : Nat) (ps : List Nat) (v : Value) (vs : List Value) : setPs (FR nt al) (p :: ps) (v :: vs) = setPs (FR nt ((p, v) :: al)) ps vs := by
  rw [setPs, ← put_FR]; rfl
theorem setPs_nil (tm : List Value) (vs : List Value) : setPs tm [] vs = tm := by cases vs <;> rfl
end rounds
end Go.Ab
namespace Go.Ab
open Go
theorem growBy_le (L : Nat) : ∀ (r c : Nat), c ≤ L + L / 4 + 192 → Builtin.growBy L r c ≤ L + L / 4 + 192
  | 0, c, h => by simpa [Builtin.growBy] using h
  | r + 1, c, h => by
    unfold Builtin.growBy
    split
    · exact h
    · exact growBy_le L r _ (by omega)
theorem nextcap_le {L c : Nat} (h : c < L) : Builtin.nextslicecap L c ≤ 2 * L + 192 := by
  unfold Builtin.nextslicecap
  split
  · omega
  · split
    · omega
    · have := growBy_le L 4 c (by omega); omega

/-- A list of the function's own: in a block from 'nb' on. -/
def Own (nb : Nat) (H : Heap) (v : Value) (l : List Value) (e : TypeId) (esz : Nat) : Prop :=
  ∃ b k cap rest, v = .slice (some ⟨b, 0, none⟩) k cap ∧ nb ≤ b ∧ H b = some (.cells (l ++ rest) e (0, 0)) ∧ l.length = k * esz ∧ rest.length = (cap - k) * esz ∧ k ≤ cap ∧ cap < 2 ^ 63
/-- A slice that reads as a list of cells. -/
def Src (H : Heap) (v : Value) (l : List Value) (esz : Nat) : Prop := ∃ sa m xc, v = .slice sa m xc ∧ l.length = m * esz ∧ srcCells H (m * esz) v = some l ∧ l.all Value.oneCell' = true

theorem Own.src {nb : Nat} {H : Heap} {v : Value} {l : List Value} {e : TypeId} {esz : Nat} (h : Own nb H v l e esz) (ho : l.all Value.oneCell' = true) : Src H v l esz := by
  obtain ⟨b, k, cap, rest, rfl, hb, hH, hl, hr, hk, _⟩ := h
  refine ⟨_, _, _, rfl, hl, ?_, ho⟩
  simp only [srcCells, hH, List.length_append, hl]
  rw [if_pos (by omega), List.drop_zero, ← hl, List.take_left]
theorem Own.agree {nb n : Nat} {H H' : Heap} {v : Value} {l : List Value} {e : TypeId} {esz : Nat} (h : Own nb H v l e esz) (hlt : ∀ b k c, v = .slice (some ⟨b, 0, none⟩) k c → H' b = H b) : Own nb H' v l e esz := by
  obtain ⟨b, k, cap, rest, rfl, hb, hH, rest'⟩ := h
  exact ⟨b, k, cap, rest, rfl, hb, by rw [hlt _ _ _ rfl]; exact hH, rest'⟩
theorem Own.weaken {nb nb' : Nat} {H : Heap} {v : Value} {l : List Value} {e : TypeId} {esz : Nat} (h : Own nb H v l e esz) (hn : nb' ≤ nb) : Own nb' H v l e esz := by
  obtain ⟨b, k, cap, rest, rfl, hb, r⟩ := h; exact ⟨b, k, cap, rest, rfl, by omega, r⟩

section app
variable {P : Program} {res : ALeave} {kk : List AItem} {tm : List Value} {H : Heap} {n n0 : Nat} {d : Bool} {R : Post} {dst : Option Nat} {ap : List Opd} {ops : List AOper}
def AppV (P : Program) (res : ALeave) (n0 : Nat) (d : Bool) (dst : Option Nat) (i : Nat) (e : TypeId) (z : List Value) (bytes : Nat) (s x : Opd) (ap : List Opd) (ops : List AOper) (k : List AItem) (tm : List Value) (H : Heap) (n : Nat) (R : Post) (v w : Value) : Prop :=
  s.ev tm = v → x.ev tm = w → AGo P res (.inReg n0 d (⟨dst, .append i e z bytes s x, none, ap⟩ :: ops) :: k) tm H n R
theorem op_append (i : Nat) (e : TypeId) (z : List Value) (bytes : Nat) (s x : Opd) : AGo P res (.inReg n0 d (⟨dst, .append i e z bytes s x, none, ap⟩ :: ops) :: kk) tm H n R = AppV P res n0 d dst i e z bytes s x ap ops kk tm H n R (s.ev tm) (x.ev tm) :=
  propext ⟨fun h _ _ => h, fun h => h rfl rfl⟩

/-- append to a list of the function's own. -/
theorem AGo_appOwn {i : Nat} {e : TypeId} {z : List Value} {bytes : Nat} {s x : Opd} {nb : Nat} {v w : Value} {l l2 : List Value} (hv : Own nb H v l e z.length) (hw : Src H w l2 z.length)
    (hnb : nb ≤ n0 + i) (hlen : l.length + l2.length ≤ 2 ^ 40) (hz : 0 < z.length) (hby : bytes ≤ 32) (hap : ap = [])
    (h : ∀ v' H', Own nb H' v' (l ++ l2) e z.length → (∀ j, j < nb → H' j = H j) → AGo P res (.inReg n0 d ops :: kk) (put tm dst v') H' n R) :
    AppV P res n0 d dst i e z bytes s x ap ops kk tm H n R v w := by
  intro hs hx
  subst hap
  obtain ⟨b, k, cap, rest, rfl, hb, hH, hl, hr, hk, hc63⟩ := hv
  obtain ⟨sa, m, xc, rfl, hl2, hsrc, hone⟩ := hw
  have hkm : k + m ≤ 2 ^ 40 := by
    have h1 : k ≤ k * z.length := Nat.le_mul_of_pos_right _ hz
    have h2 : m ≤ m * z.length := Nat.le_mul_of_pos_right _ hz
    omega
  by_cases hroom : k + m ≤ cap
  · have hin : appIn H z.length (s.ev tm) (x.ev tm) = some (.slice (some ⟨b, 0, none⟩) (k + m) cap, some (b, .cells (splice (l ++ rest) (0 + k * z.length) l2) e (0, 0))) := by
      rw [hs, hx]
      simp only [appIn, hroom, if_true, hH, hsrc]
      rw [if_pos]
      refine ⟨?_, hone⟩
      rw [List.length_append, hl, hr, hl2]
      have : (k + m) * z.length ≤ cap * z.length := Nat.mul_le_mul_right _ hroom
      rw [Nat.add_mul] at this
      have e2 : k * z.length + (cap - k) * z.length = cap * z.length := by rw [← Nat.add_mul]; congr 1; omega
      omega
    refine .appIn rfl rfl hin (fun _ => rfl) (h _ _ ⟨b, k + m, cap, rest.drop l2.length, rfl, hb, ?_, ?_, ?_, hroom, hc63⟩ ?_)
    · simp only [Eff.app, upd_same, splice, Nat.zero_add]
      rw [← hl, List.take_left, List.append_assoc, List.append_assoc, List.drop_append]
      congr 4
      rw [List.drop_eq_nil_of_le (by omega), List.nil_append]; congr 1; omega
    · rw [List.length_append, hl, hl2, Nat.add_mul]
    · rw [List.length_drop, hr, hl2, ← Nat.sub_mul]; congr 1; omega
    · intro j hj; simp only [Eff.app]; exact upd_ne _ _ (by omega)
  · have hn1 : ∀ cap', appNew n0 i e z H (s.ev tm) (x.ev tm) cap' = some (.slice (some ⟨n0 + i, 0, none⟩) (k + m) cap', some (n0 + i, .cells (l ++ l2 ++ zeros z (cap' - (k + m))) e (0, 0))) := by
      intro cap'
      rw [hs, hx]
      have h1 : srcCells H (k * z.length) (.slice (some ⟨b, 0, none⟩) k cap) = some l := by
        simp only [srcCells, hH, List.length_append, hl]
        rw [if_pos (by omega), List.drop_zero, ← hl, List.take_left]
      simp only [appNew, h1, hsrc]
    refine .appNew rfl rfl ?_ ?_ ?_
    · rw [hs, hx]
      simp only [appFits]
      have h3 := nextcap_le (show cap < k + m by omega)
      have h4 : Builtin.nextslicecap (k + m) cap * bytes ≤ (2 * (k + m) + 192) * 32 := Nat.mul_le_mul h3 hby
      refine ⟨by omega, by omega, by omega⟩
    · intro cap' _ _; rw [hn1]; rfl
    · intro cap' v' eff hc1 hc2 hv'
      rw [hn1] at hv'; cases hv'
      have hcc : k + m ≤ cap' := by rw [hs, hx] at hc1; exact hc1
      refine h _ _ ⟨n0 + i, k + m, cap', zeros z (cap' - (k + m)), rfl, hnb, upd_same _ _ _, ?_, ?_, hcc, hc2⟩ ?_
      · rw [List.length_append, hl, hl2, Nat.add_mul]
      · simp [zeros, List.length_flatten, List.map_replicate, List.sum_replicate_nat]
      · intro j hj; simp only [Eff.app]; exact upd_ne _ _ (by omega)

/-- append to none. -/
theorem AGo_appNil {i : Nat} {e : TypeId} {z : List Value} {bytes : Nat} {s x : Opd} {nb : Nat} {w : Value} {l2 : List Value} (hw : Src H w l2 z.length) (h0 : l2 ≠ [])
    (hnb : nb ≤ n0 + i) (hlen : l2.length ≤ 2 ^ 40) (hz : 0 < z.length) (hby : bytes ≤ 32)
    (h : ∀ v' H', Own nb H' v' l2 e z.length → (∀ j, j < nb → H' j = H j) → AGo P res (.inReg n0 d ops :: kk) (put tm dst v') H' n R) :
    AppV P res n0 d dst i e z bytes s x ap ops kk tm H n R (.slice none 0 0) w := by
  intro hs hx
  obtain ⟨sa, m, xc, rfl, hl2, hsrc, hone⟩ := hw
  have hm0 : 0 < m := by
    rcases Nat.eq_zero_or_pos m with h | h
    · subst h; rw [Nat.zero_mul] at hl2; exact absurd (List.length_eq_zero_iff.1 hl2) h0
    · exact h
  have hkm : m ≤ 2 ^ 40 := by
    have h2 : m ≤ m * z.length := Nat.le_mul_of_pos_right _ hz
    omega
  have hn1 : ∀ cap', appNew n0 i e z H (s.ev tm) (x.ev tm) cap' = some (.slice (some ⟨n0 + i, 0, none⟩) (0 + m) cap', some (n0 + i, .cells ([] ++ l2 ++ zeros z (cap' - (0 + m))) e (0, 0))) := by
    intro cap'
    rw [hs, hx]
    simp only [appNew, srcCells]
    simp only [srcCells] at hsrc
    rw [hsrc]
  refine .appNew rfl rfl ?_ ?_ ?_
  · rw [hs, hx]
    simp only [appFits]
    have h3 := nextcap_le (show 0 < 0 + m by omega)
    have h4 : Builtin.nextslicecap (0 + m) 0 * bytes ≤ (2 * (0 + m) + 192) * 32 := Nat.mul_le_mul h3 hby
    refine ⟨by omega, by omega, by omega⟩
  · intro cap' _ _; rw [hn1]; rfl
  · intro cap' v' eff hc1 hc2 hv'
    rw [hn1] at hv'; cases hv'
    have hcc : m ≤ cap' := by rw [hs, hx] at hc1; simpa [sliceNeed] using hc1
    refine h _ _ ⟨n0 + i, m, cap', zeros z (cap' - m), by rw [Nat.zero_add], hnb, by rw [Eff.app, upd_same, List.nil_append, Nat.zero_add], hl2, ?_, hcc, hc2⟩ ?_
    · simp [zeros, List.length_flatten, List.map_replicate, List.sum_replicate_nat]
    · intro j hj; simp only [Eff.app]; exact upd_ne _ _ (by omega)
end app
end Go.Ab
namespace Go.Ab
/-- It reads so in all later heaps. -/
def SrcA (n : Nat) (H : Heap) (v : Value) (l : List Value) (esz : Nat) : Prop := ∀ H', (∀ i, i < n → H' i = H i) → Src H' v l esz
theorem SrcA.of_block {n b off m xc esz : Nat} {H : Heap} {c l : List Value} {e : TypeId} {fz : Nat × Nat} (hb : b < n) (hH : H b = some (.cells c e fz)) (hle : off + m * esz ≤ c.length) (ht : (c.drop off).take (m * esz) = l) (ho : l.all Value.oneCell' = true) :
    SrcA n H (.slice (some ⟨b, off, none⟩) m xc) l esz := by
  intro H' hA
  refine ⟨_, _, _, rfl, ?_, ?_, ho⟩
  · rw [← ht, List.length_take, List.length_drop]; omega
  · simp only [srcCells, hA b hb, hH, ht]
    rw [if_pos hle]
theorem SrcA.nil (n : Nat) (H : Heap) (esz : Nat) : SrcA n H (.slice none 0 0) [] esz := fun H' _ => ⟨_, _, _, rfl, by simp, rfl, rfl⟩
theorem SrcA.here {n : Nat} {H : Heap} {v : Value} {l : List Value} {esz : Nat} (h : SrcA n H v l esz) : Src H v l esz := h H fun _ _ => rfl
theorem SrcA.later {n n' : Nat} {H H' : Heap} {v : Value} {l : List Value} {esz : Nat} (h : SrcA n H v l esz) (ha : ∀ i, i < n → H' i = H i) (hn : n ≤ n') : SrcA n' H' v l esz :=
  fun H2 h2 => h H2 fun i hi => (h2 i (by omega)).trans (ha i hi)
/-- A list that a callee made is read so as long as nobody writes it. -/
theorem Own.srcA {nb n : Nat} {H : Heap} {v : Value} {l : List Value} {e : TypeId} {esz : Nat} (h : Own nb H v l e esz) (ho : l.all Value.oneCell' = true) (hC : ∀ i, n ≤ i → H i = none) : SrcA n H v l esz := by
  have hs := h.src ho
  obtain ⟨b, k, cap, rest, rfl, hb, hH, hl, hr, hk, _⟩ := h
  refine SrcA.of_block (c := l ++ rest) ?_ hH (by rw [List.length_append]; omega) (by rw [List.drop_zero, ← hl, List.take_left]) ho
  rcases Nat.lt_or_ge b n with h | h
  · exact h
  · rw [hC b h] at hH; cases hH
/-- What is made, and that nothing that was there is changed. -/
def Makes (n : Nat) (H : Heap) (l : List Value) (e : TypeId) (esz : Nat) : Post := fun r H' _ => ∃ v, r = .returned v ∧ Own n H' v l e esz ∧ Agree n H H'
end Go.Ab
namespace Go.Ab
/-- A call of what makes a list. -/
theorem AGo_makeV {P : Program} {res : ALeave} {k : List AItem} {tm : List Value} {H : Heap} {n n0 : Nat} {d : Bool} {R : Post} {dst : Option Nat} {f : Opd} {args ap : List Opd} {ops : List AOper} {as : List Value} {g : FuncId} {first cap : Array Value}
    {l : List Value} {e : TypeId} {esz : Nat} (hc : ACall P g (first.toList ++ as ++ cap.toList) H n (Makes n H l e esz))
    (h : ∀ v H' n', Own n H' v l e esz → Agree n H H' → n ≤ n' → AGo P res (.inReg n0 d ops :: k) (put tm dst v) H' n' R) : CallV P res n0 d dst f args ap ops k tm H n R (.func (.func g) first cap) as :=
  AGo_callQV (fun v H' _ => Own n H' v l e esz ∧ Agree n H H') hc (fun _ v H' _ hq i hi => hq.2 i hi) (fun v H' n' hq hn => h v H' n' hq.1 hq.2 hn)
theorem Makes.of_agree {n : Nat} {H H' : Heap} {v : Value} {l : List Value} {e : TypeId} {esz n' : Nat} (h : Own n H' v l e esz) (ha : Agree n H H') : Makes n H l e esz (.returned v) H' n' := ⟨v, rfl, h, ha⟩
end Go.Ab

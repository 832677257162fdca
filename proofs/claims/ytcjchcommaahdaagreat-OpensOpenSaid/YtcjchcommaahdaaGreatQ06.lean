/- What a schedule of a region is. Regions that draw their order: what the order of the text says stands for all. Regions that draw their order: the invariant. No conditions. -/
import Derived.Test.YtcjchcommaahdaaGreatQ05
set_option maxRecDepth 20000
set_option maxHeartbeats 4000000
set_option linter.all false
namespace Go.Ab

/-- An order in which all operations below 'n' come, each behind what it hangs on. -/
def Sch (deps : Nat → List Nat) (n : Nat) : List Nat → List Nat → Prop
  | [], done => ∀ i, i < n → i ∈ done
  | j :: l, done => j < n ∧ j ∉ done ∧ (∀ e, e ∈ deps j → e ∈ done) ∧ Sch deps n l (j :: done)

theorem filter_lt {α : Type} {p q : α → Bool} {x : α} : ∀ {L : List α}, x ∈ L → p x = true → q x = false → (∀ y, q y = true → p y = true) → (L.filter q).length < (L.filter p).length
  | [], h, _, _, _ => by simp at h
  | a :: L, h, hp, hq, hqp => by
    have hle : (L.filter q).length ≤ (L.filter p).length := by
      clear h
      induction L with
      | nil => simp
      | cons b L ih =>
        simp only [List.filter_cons]
        by_cases hb : q b = true
        · simp [hb, hqp b hb]; exact ih
        · simp only [hb, Bool.false_eq_true, if_false]; split
          · simp; omega
          · exact ih
    rcases List.mem_cons.1 h with rfl | h'
    · simp only [List.filter_cons, hp, hq, if_true, Bool.false_eq_true, if_false, List.length_cons]; omega
    · have ih := filter_lt h' hp hq hqp
      simp only [List.filter_cons]
      by_cases ha : q a = true
      · simp [ha, hqp a ha]; exact ih
      · simp only [ha, Bool.false_eq_true, if_false]; split
        · simp only [List.length_cons]; omega
        · exact ih

theorem linearise_sch (ops : Array Oper) (hd : ∀ i, i < ops.size → ∀ e, e ∈ depsOf ops i → e < i) : ∀ (fuel t : Nat) (listed : Array Bool) (acc done : List Nat), listed.size = ops.size →
    (∀ i, i < ops.size → (listed.getD i false = true ↔ i ∈ done)) → ((List.range ops.size).filter (fun i => !listed.getD i true)).length ≤ fuel →
    ∃ l, Region.linearise.go .any ops fuel t listed acc = acc.reverse ++ l ∧ Sch (depsOf ops) ops.size l done
  | 0, t, listed, acc, done, hsz, hl, hf => by
    refine ⟨[], by simp [Region.linearise.go], fun i hi => ?_⟩
    have : (List.range ops.size).filter (fun i => !listed.getD i true) = [] := List.length_eq_zero_iff.1 (by omega)
    have h2 := List.filter_eq_nil_iff.1 this i (by simpa using hi)
    have h3 : listed.getD i true = true := by simpa using h2
    refine (hl i hi).1 ?_
    rw [Array.getD_eq_getD_getElem?] at h3 ⊢
    have : i < listed.size := by omega
    simpa [this] using h3
  | fuel + 1, t, listed, acc, done, hsz, hl, hf => by
    have hget : ∀ i, i < ops.size → listed.getD i true = listed.getD i false := by
      intro i hi
      have : i < listed.size := by omega
      simp [Array.getD_eq_getD_getElem?, this]
    simp only [Region.linearise.go]
    generalize hrs : ((List.range ops.size).filter fun i => !listed.getD i true && ((ops[i]?).map (·.after.all fun e => !Region.binds .any e || listed.getD e.on false)).getD false) = rs
    split
    · rename_i i hi
      have hmem : i ∈ rs := List.mem_of_getElem? hi
      rw [← hrs] at hmem
      simp only [List.mem_filter, List.mem_range, Bool.and_eq_true, Bool.not_eq_true'] at hmem
      obtain ⟨hin, hnl, hall⟩ := hmem
      have hio : ops[i]? = some ops[i] := by simp [hin]
      simp only [hio, Option.map_some, Option.getD_some] at hall
      have hdeps : ∀ e, e ∈ depsOf ops i → e ∈ done := by
        intro e he
        unfold depsOf at he
        simp only [hio, List.mem_map, List.mem_filter, Array.mem_toList_iff] at he
        obtain ⟨ed, ⟨h1, h2⟩, rfl⟩ := he
        have h3 := Array.all_eq_true'.1 hall ed h1
        simp only [Bool.or_eq_true, Bool.not_eq_true'] at h3
        rcases h3 with h3 | h3
        · rw [h2] at h3; cases h3
        · have hlt := hd i hin ed.on (by unfold depsOf; simp only [hio, List.mem_map, List.mem_filter, Array.mem_toList_iff]; exact ⟨ed, ⟨h1, h2⟩, rfl⟩)
          exact (hl _ (by omega)).1 h3
      obtain ⟨l, h1, h2⟩ := linearise_sch ops hd fuel (t / rs.length) (listed.setIfInBounds i true) (i :: acc) (i :: done) (by simp [hsz]) (by
        intro j hj
        by_cases e : j = i
        · subst e; simp [Array.getD_eq_getD_getElem?, hsz, hin]
        · rw [show (listed.setIfInBounds i true).getD j false = listed.getD j false by simp only [Array.getD_eq_getD_getElem?]; rw [Array.getElem?_setIfInBounds, if_neg (fun h => e h.symm)]]
          rw [hl j hj]; simp [e]) (by
        have := filter_lt (p := fun i => !listed.getD i true) (q := fun j => !(listed.setIfInBounds i true).getD j true) (x := i) (L := List.range ops.size) (by simpa using hin) (by simp [hnl])
          (by simp [Array.getD_eq_getD_getElem?, hsz, hin]) (by
            intro y hy
            by_cases e : y = i
            · subst e; simp [Array.getD_eq_getD_getElem?, hsz, hin] at hy
            · rw [show (listed.setIfInBounds i true).getD y true = listed.getD y true by simp only [Array.getD_eq_getD_getElem?]; rw [Array.getElem?_setIfInBounds, if_neg (fun h => e h.symm)]] at hy
              exact hy)
        omega)
      refine ⟨i :: l, by rw [h1]; simp, hin, ?_, hdeps, h2⟩
      intro hid
      have := (hl i hin).2 hid
      rw [hget i hin] at hnl; rw [hnl] at this; cases this
    · rename_i hnone
      refine ⟨[], by simp, ?_⟩
      -- nothing is ready: all are listed
      have hrs0 : rs = [] := by
        cases rs with
        | nil => rfl
        | cons a r =>
          have : t % (a :: r).length < (a :: r).length := Nat.mod_lt _ (by simp)
          rw [List.getElem?_eq_getElem this] at hnone; cases hnone
      rw [hrs0] at hrs
      have key : ∀ m, ∀ i, i ≤ m → i < ops.size → i ∈ done := by
        intro m
        induction m with
        | zero =>
          intro i h1 h2
          have : i = 0 := by omega
          subst this
          have h3 := List.filter_eq_nil_iff.1 hrs 0 (by simpa using h2)
          have hio : ops[0]? = some ops[0] := by simp [h2]
          simp only [Bool.and_eq_true, Bool.not_eq_true', not_and, Bool.not_eq_true, hio, Option.map_some, Option.getD_some] at h3
          refine (hl 0 h2).1 ?_
          rw [← hget 0 h2]
          cases hg : listed.getD 0 true with
          | true => rfl
          | false =>
            have h4 := h3 hg
            exfalso
            have h5 : ops[0].after.all (fun e => !Region.binds .any e || listed.getD e.on false) = true := by
              rw [Array.all_eq_true']; intro ed hed
              simp only [Bool.or_eq_true, Bool.not_eq_true']
              by_cases hb : Region.binds .any ed = true
              · have := hd 0 h2 ed.on (by unfold depsOf; simp only [hio, List.mem_map, List.mem_filter, Array.mem_toList_iff]; exact ⟨ed, ⟨hed, hb⟩, rfl⟩)
                omega
              · left; simpa using hb
            rw [h5] at h4; cases h4
        | succ m ih =>
          intro i h1 h2
          by_cases hle : i ≤ m
          · exact ih i hle h2
          have h3 := List.filter_eq_nil_iff.1 hrs i (by simpa using h2)
          have hio : ops[i]? = some ops[i] := by simp [h2]
          simp only [Bool.and_eq_true, Bool.not_eq_true', not_and, Bool.not_eq_true, hio, Option.map_some, Option.getD_some] at h3
          refine (hl i h2).1 ?_
          rw [← hget i h2]
          cases hg : listed.getD i true with
          | true => rfl
          | false =>
            have h4 := h3 hg
            exfalso
            have h5 : ops[i].after.all (fun e => !Region.binds .any e || listed.getD e.on false) = true := by
              rw [Array.all_eq_true']; intro ed hed
              simp only [Bool.or_eq_true, Bool.not_eq_true']
              by_cases hb : Region.binds .any ed = true
              · have := hd i h2 ed.on (by unfold depsOf; simp only [hio, List.mem_map, List.mem_filter, Array.mem_toList_iff]; exact ⟨ed, ⟨hed, hb⟩, rfl⟩)
                right; exact (hl _ (by omega)).2 (ih _ (by omega) (by omega))
              · left; simpa using hb
            rw [h5] at h4; cases h4
      exact fun i hi => key i i (Nat.le_refl _) hi

theorem schedule_sch (ops : Array Oper) (hd : ∀ i, i < ops.size → ∀ e, e ∈ depsOf ops i → e < i) (t : Nat) : Sch (depsOf ops) ops.size (Region.schedule true ops t) [] := by
  unfold Region.schedule Region.linearise
  simp only [Bool.true_or, if_true]
  obtain ⟨l, h1, h2⟩ := linearise_sch ops hd ops.size t (Array.replicate ops.size false) [] [] (by simp) (by
    intro i hi; simp [Array.getD_eq_getD_getElem?, hi]) (by
    have := List.length_filter_le (fun i => !(Array.replicate ops.size false).getD i true) (List.range ops.size)
    simpa using this)
  rw [h1]; simpa using h2

/-- A mask tells what stands ahead. -/
theorem foldl_or_bit (f : Nat → Nat) : ∀ (l : List Nat) (s i : Nat), (l.foldl (fun s e => s ||| 2 ^ e ||| f e) s).testBit i = true → s.testBit i = true ∨ ∃ e, e ∈ l ∧ (i = e ∨ (f e).testBit i = true)
  | [], s, i, h => .inl h
  | e :: l, s, i, h => by
    rcases foldl_or_bit f l _ i h with h1 | ⟨e', h1, h2⟩
    · simp only [Nat.testBit_or, Bool.or_eq_true] at h1
      rcases h1 with (h1 | h1) | h1
      · exact .inl h1
      · right; refine ⟨e, by simp, .inl ?_⟩
        by_cases he : e = i
        · exact he.symm
        · rw [Nat.testBit_two_pow_of_ne he] at h1; cases h1
      · exact .inr ⟨e, by simp, .inr h1⟩
    · exact .inr ⟨e', by simp [h1], h2⟩

theorem befs_length (deps : Nat → List Nat) : ∀ n, (befs deps n).length = n
  | 0 => rfl
  | n + 1 => by simp [befs, befs_length deps n]
theorem befs_getD (deps : Nat → List Nat) : ∀ n j, j < n → (befs deps n).getD j 0 = (deps j).foldl (fun s e => s ||| 2 ^ e ||| (befs deps j).getD e 0) 0
  | 0, j, h => by omega
  | n + 1, j, h => by
    simp only [befs]
    by_cases hj : j < n
    · rw [List.getD_eq_getElem?_getD, List.getElem?_append_left (by simpa [befs_length] using hj), ← List.getD_eq_getElem?_getD]; exact befs_getD deps n j hj
    · have : j = n := by omega
      subst this
      rw [List.getD_eq_getElem?_getD, List.getElem?_append_right (by simp [befs_length])]
      simp [befs_length]
theorem befs_prefix (deps : Nat → List Nat) {n j e : Nat} (hj : j ≤ n) (he : e < j) : (befs deps j).getD e 0 = (befs deps n).getD e 0 := by
  rw [befs_getD deps j e he, befs_getD deps n e (by omega)]

/-- Whatever stands ahead has been done. -/
theorem Sch.bef {deps : Nat → List Nat} {n : Nat} (hd : ∀ i, i < n → ∀ e, e ∈ deps i → e < i) {done : List Nat} (hclosed : ∀ j, j ∈ done → j < n ∧ ∀ e, e ∈ deps j → e ∈ done) {j : Nat} (hj : j < n) (hdeps : ∀ e, e ∈ deps j → e ∈ done) :
    ∀ i, ((befs deps n).getD j 0).testBit i = true → i ∈ done := by
  have key : ∀ m, ∀ j, j ≤ m → j < n → (∀ e, e ∈ deps j → e ∈ done) → ∀ i, ((befs deps n).getD j 0).testBit i = true → i ∈ done := by
    intro m
    induction m with
    | zero =>
      intro j h1 h2 h3 i hi
      rw [befs_getD deps n j h2] at hi
      rcases foldl_or_bit _ _ _ _ hi with h | ⟨e, he, _⟩
      · simp at h
      · have := hd j h2 e he; omega
    | succ m ih =>
      intro j h1 h2 h3 i hi
      rw [befs_getD deps n j h2] at hi
      rcases foldl_or_bit _ _ _ _ hi with h | ⟨e, he, h⟩
      · simp at h
      · have hlt := hd j h2 e he
        have hed := h3 e he
        rcases h with rfl | h
        · exact hed
        · rw [befs_prefix deps (Nat.le_of_lt h2) hlt] at h
          exact ih e (by omega) (by omega) (hclosed e hed).2 i h
  exact key j j (Nat.le_refl _) hj hdeps
end Go.Ab
namespace Go.Ab

section congr
variable {n0 : Nat} {tm tm2 : List Value} {H H2 : Heap}

theorem fillA_congr : ∀ {ps : List (Nat × Nat × Opd)} {c : List Value}, (∀ x, x ∈ opdsP ps → x.ev tm = x.ev tm2) → fillA tm c ps = fillA tm2 c ps
  | [], c, _ => rfl
  | (off, size, x) :: r, c, h => by
    simp only [opdsP, List.mem_cons, forall_eq_or_imp] at h
    simp only [fillA, h.1]
    split
    · exact fillA_congr h.2
    · rfl

theorem sim_congr {p : AOp} (h : ∀ x, x ∈ opds p → x.ev tm = x.ev tm2) : sim n0 tm H p = sim n0 tm2 H p := by
  cases p
  case build z ps => simp only [sim, fillA_congr (c := z) (by simpa [opds] using h)]
  case mkSlice k e z l ps => simp only [sim, fillA_congr (c := z) (by simpa [opds] using h)]
  case mkFunc fn f c =>
    simp only [opds, List.mem_append] at h
    simp only [sim]
    rw [List.map_congr_left (fun x hx => h x (.inl hx)), List.map_congr_left (fun x hx => h x (.inr hx))]
  case minmax b xs => simp only [opds] at h; simp only [sim]; rw [List.map_congr_left h]
  case slice arr s x lo hi mx =>
    simp only [opds, List.mem_cons, List.mem_append, Option.mem_toList, forall_eq_or_imp] at h
    have hx := h.1
    have hb : ∀ a b, bounds tm a b lo hi mx = bounds tm2 a b lo hi mx := by
      intro a b
      unfold bounds
      cases mx with
      | none =>
        cases hi with
        | none => cases lo with
          | none => rfl
          | some lo => simp [h.2 lo (by simp)]
        | some hi => cases lo with
          | none => simp [h.2 hi (by simp)]
          | some lo => simp [h.2 lo (by simp), h.2 hi (by simp)]
      | some mx =>
        cases hi with
        | none => cases lo with
          | none => simp [h.2 mx (by simp)]
          | some lo => simp [h.2 mx (by simp)]
        | some hi => cases lo with
          | none => simp [h.2 hi (by simp), h.2 mx (by simp)]
          | some lo => simp [h.2 lo (by simp), h.2 hi (by simp), h.2 mx (by simp)]
    simp only [sim, hx, hb]
  all_goals
    simp only [opds, List.mem_cons, List.not_mem_nil, or_false, forall_eq_or_imp, forall_eq] at h
    first
      | (simp only [sim, h]; done)
      | rfl
      | (obtain ⟨h1, h2, h3⟩ := h; simp only [sim, h1, h2, h3]; done)
      | (obtain ⟨h1, h2⟩ := h; simp only [sim, h1, h2]; done)
      | (simp only [sim]; done)

theorem sim_heap {p : AOp} (hl : lazyOp p = true) (h : ∀ ad b off, addrOf p = some ad → ad.ev tm = .pointer (some ⟨b, off, none⟩) → H2 b = H b) : sim n0 tm H2 p = sim n0 tm H p := by
  cases p
  case load g m a =>
    simp only [sim]
    split
    · rename_i b off hv; rw [h a b off rfl hv]
    · rfl
  all_goals first | rfl | (simp [lazyOp] at hl; done)

/-- The name of its own new block. -/
def slotIx : AOp → Option Nat
  | .alloc k _ _ | .box k _ _ | .mkSlice k _ _ _ _ | .makeSlice k _ _ _ _ _ => some k
  | _ => none

theorem sim_eff {p : AOp} (hl : lazyOp p = true) {v : Value} {eff : Eff} (h : sim n0 tm H p = some (v, eff)) : eff = none ∨ ∃ k o, slotIx p = some k ∧ eff = some (n0 + k, o) := by
  cases p <;> first | (simp [lazyOp] at hl; done) | skip
  case alloc k e z => simp only [sim, Option.some.injEq, Prod.mk.injEq] at h; exact .inr ⟨k, _, rfl, h.2.symm⟩
  case box k e x =>
    simp only [sim] at h; split at h <;> first | (simp at h; done) | skip
    simp only [Option.some.injEq, Prod.mk.injEq] at h; exact .inr ⟨k, _, rfl, h.2.symm⟩
  case mkSlice k e z l ps =>
    simp only [sim] at h; split at h <;> first | (simp at h; done) | skip
    simp only [Option.some.injEq, Prod.mk.injEq] at h; exact .inr ⟨k, _, rfl, h.2.symm⟩
  case makeSlice k e z b l c =>
    simp only [sim] at h; split at h <;> first | (simp at h; done) | skip
    split at h <;> first | (simp at h; done) | skip
    simp only [Option.some.injEq, Prod.mk.injEq] at h; exact .inr ⟨k, _, rfl, h.2.symm⟩
  all_goals
    left
    simp only [sim] at h
    repeat' (first | (simp at h; done) | (simp only [Option.some.injEq, Prod.mk.injEq] at h; exact h.2.symm) | (simp only [Option.map_eq_some_iff, Prod.mk.injEq] at h; obtain ⟨_, _, _, h⟩ := h; exact h.symm) | split at h)

theorem cop_slot {P : Program} {i : Nat} {op : Op} {p : AOp} {k : Nat} (h : cop P i op = some p) (hk : slotIx p = some k) : k = i := by
  cases op with
  | alloc e => simp only [cop] at h; obtain ⟨_, _, rfl⟩ := map_some_eq h; simpa [slotIx] using hk.symm
  | box e x => simp only [cop] at h; obtain ⟨_, _, rfl⟩ := map_some_eq h; simpa [slotIx] using hk.symm
  | call c =>
    obtain ⟨callee, args', ts⟩ := c
    cases callee with
    | value f' => simp only [cop] at h; split at h <;> first | (simp at h; done) | (cases h; simp [slotIx] at hk)
    | invoke r m => simp [cop] at h
    | builtin b =>
      simp only [cop] at h
      repeat' (first | (simp at h; done) | (cases h; simp [slotIx] at hk; done) | (obtain ⟨_, _, h⟩ := map_some_eq h; cases h; simp [slotIx] at hk; done) | split at h)
  | defer c =>
    obtain ⟨callee, args', ts⟩ := c
    cases callee with
    | value f' => simp only [cop] at h; split at h <;> first | (simp at h; done) | (cases h; simp [slotIx] at hk)
    | invoke r m => simp [cop] at h
    | builtin b => simp [cop] at h
  | _ =>
    simp only [cop] at h
    repeat' (first | (simp at h; done) | (cases h; simp [slotIx] at hk; done) | (cases h; simpa [slotIx] using hk.symm) | (obtain ⟨_, _, h⟩ := map_some_eq h; cases h; simp [slotIx] at hk; done) | (obtain ⟨_, _, h⟩ := map_some_eq h; cases h; simpa [slotIx] using hk.symm) | split at h)
end congr
end Go.Ab
namespace Go.Ab

section draw
variable (P : Program) (ops : Array Oper)
def csOf : List AOper := (List.range ops.size).map (cOper0 P ops)
def msOf : List Nat := befs (depsOf ops) ops.size
def bf (i j : Nat) : Bool := ((msOf ops).getD j 0).testBit i
abbrev mw (i : Nat) : Bool := mayWait (csOf P ops) (msOf ops) i

theorem csOf_get {i : Nat} (hi : i < ops.size) : (csOf P ops)[i]? = some (cOper0 P ops i) := by
  unfold csOf; simp [hi]
theorem csOf_length : (csOf P ops).length = ops.size := by simp [csOf]

theorem pairsOK_split {f : Nat → Nat → Bool} : ∀ {l : List Nat}, pairsOK f l = true → ∀ {p s : List Nat} {a b : Nat}, l = p ++ s → a ∈ p → b ∈ s → f a b = true
  | [], _, p, s, a, b, h, ha, _ => by
    have hp := (List.append_eq_nil_iff.1 h.symm).1
    rw [hp] at ha; exact absurd ha List.not_mem_nil
  | x :: l, hp, [], s, a, b, h, ha, hb => absurd ha List.not_mem_nil
  | x :: l, hp, y :: p, s, a, b, h, ha, hb => by
    simp only [List.cons_append, List.cons.injEq] at h
    obtain ⟨rfl, rfl⟩ := h
    simp only [pairsOK, Bool.and_eq_true, List.all_eq_true] at hp
    rcases List.mem_cons.1 ha with rfl | ha
    · exact hp.1 b (by simp [hb])
    · exact pairsOK_split hp.2 rfl ha hb
theorem pairsOK_nodup {f : Nat → Nat → Bool} (hf : ∀ i j, f i j = true → i ≠ j) : ∀ {l : List Nat}, pairsOK f l = true → l.Nodup
  | [], _ => List.nodup_nil
  | x :: l, hp => by
    simp only [pairsOK, Bool.and_eq_true, List.all_eq_true] at hp
    exact List.nodup_cons.2 ⟨fun hm => hf _ _ (hp.1 x hm) rfl, pairsOK_nodup hf hp.2⟩

/-- What the look at a region says. -/
structure Facts (ord : List Nat) : Prop where
  mem : ∀ i, i < ops.size → i ∈ ord
  lt : ∀ i, i ∈ ord → i < ops.size
  deps : ∀ i, i < ops.size → ∀ e, e ∈ depsOf ops i → e < i
  sync : ∀ i, i < ops.size → syncOK (cOper0 P ops i).op = true
  nodup : ord.Nodup
  pair : ∀ p s a b, ord = p ++ s → a ∈ p → b ∈ s → bf ops b a = false ∧ (mw P ops a = true ∨ bf ops a b = true)
  wait : ∀ i, i < ops.size → mw P ops i = true → lazyOp (cOper0 P ops i).op = true ∧ ∀ t, (cOper0 P ops i).dst = some t → reads (cOper0 P ops i) t = false ∧
    ∀ j, j < ops.size → j ≠ i → names (cOper0 P ops j) t = true → bf ops i j = true
  last : ∀ y, y < ops.size → mw P ops y = false → (∀ t, (cOper0 P ops y).dst = some t → ∀ j, j < ops.size → j ≠ y → names (cOper0 P ops j) t = true → bf ops y j = true ∨ bf ops j y = true) ∧
    (storeLike (cOper0 P ops y).op = true ∨ ∀ k e z b s x, (cOper0 P ops y).op = .append k e z b s x → aparts (csOf P ops) (msOf ops) y = [])

theorem all_zip {α : Type} {f : α × Nat → Bool} {l : List α} (h : l.zipIdx.all f = true) {j : Nat} {x : α} (hj : l[j]? = some x) : f (x, j) = true := by
  rw [List.all_eq_true] at h
  apply h
  rw [List.mem_zipIdx_iff_getElem?]
  simpa using hj

theorem facts_of {ord : List Nat} (h : drawOK (csOf P ops) (depsOf ops) (msOf ops) ord = true) : Facts P ops ord := by
  unfold drawOK at h
  simp only [csOf_length, Bool.and_eq_true, List.all_eq_true, List.mem_range, List.contains_iff_mem, decide_eq_true_eq] at h
  obtain ⟨⟨⟨⟨⟨h1, h2⟩, h3⟩, h4⟩, h5⟩, h6⟩ := h
  refine ⟨fun i hi => (h2 i hi).1, fun i hi => h4 i hi, fun i hi e he => (h2 i hi).2 e he, fun i hi => by simpa [csOf_get P ops hi] using h3 i hi, ?_, ?_, ?_, ?_⟩
  · exact pairsOK_nodup (fun i j hf => by simp only [Bool.and_eq_true, bne_iff_ne] at hf; exact hf.1.1) h5
  · intro p s a b hs ha hb
    have := pairsOK_split h5 hs ha hb
    simp only [Bool.and_eq_true, Bool.not_eq_true', Bool.or_eq_true] at this
    exact ⟨this.1.2, this.2⟩
  · intro i hi hw
    unfold mw mayWait at hw
    simp only [csOf_get P ops hi, Bool.and_eq_true] at hw
    refine ⟨hw.1, fun t ht => ?_⟩
    have hw2 := hw.2
    simp only [ht, Bool.and_eq_true, Bool.not_eq_true'] at hw2
    refine ⟨hw2.1, fun j hj hne hn => ?_⟩
    have := all_zip hw2.2 (csOf_get P ops hj)
    simp only [Bool.or_eq_true, beq_iff_eq, Bool.not_eq_true'] at this
    rcases this with (h | h) | h
    · exact absurd h hne
    · rw [hn] at h; cases h
    · exact h
  · intro y hy hw
    have := h6 y hy
    simp only [Bool.or_eq_true, show mayWait (csOf P ops) (msOf ops) y = false from hw, Bool.false_eq_true, false_or, csOf_get P ops hy, Bool.and_eq_true] at this
    obtain ⟨ha, hb⟩ := this
    refine ⟨fun t ht j hj hne hn => ?_, ?_⟩
    · simp only [ht] at ha
      have := all_zip ha (csOf_get P ops hj)
      simp only [Bool.or_eq_true, beq_iff_eq, Bool.not_eq_true'] at this
      rcases this with ((h | h) | h) | h
      · exact absurd h hne
      · rw [hn] at h; cases h
      · exact .inl h
      · exact .inr h
    · rcases hb with hb | hb
      · exact .inl hb
      · right
        intro k e z b s x hop
        rw [hop] at hb
        simpa using hb

/-- The operation as it stands in the list. -/
def dOp (i : Nat) : AOper := if apLike (cOper0 P ops i).op then { cOper0 P ops i with ap := aparts (csOf P ops) (msOf ops) i } else cOper0 P ops i
theorem dOp_op (i : Nat) : (dOp P ops i).op = (cOper0 P ops i).op := by unfold dOp; split <;> rfl
theorem dOp_dst (i : Nat) : (dOp P ops i).dst = (cOper0 P ops i).dst := by unfold dOp; split <;> rfl
theorem dOp_guard (i : Nat) : (dOp P ops i).guard = (cOper0 P ops i).guard := by unfold dOp; split <;> rfl

theorem cRegion_ok {l : List AOper} (h : cRegion P ops = some l) : ∃ ord, Facts P ops ord ∧ l = ord.map (dOp P ops) := by
  unfold cRegion at h
  simp only at h
  split at h <;> first | (simp at h; done) | skip
  rename_i hok
  cases h
  have F := facts_of P ops (ord := eager (csOf P ops) (msOf ops)) hok
  refine ⟨_, F, ?_⟩
  unfold drawOps
  apply List.map_congr_left
  intro i hi
  have := F.lt i hi
  have hg := csOf_get P ops this
  unfold csOf at hg
  simp only [hg, dOp, csOf, msOf]

variable {P ops}
structure Pend (n0 : Nat) (tm : List Value) (H : Heap) (ρ : Ren) (j : Nat) : Prop where
  lt : j < ops.size
  wait : mw P ops j = true
  slot : ρ (n0 + j) = none
  run : (gOK tm (cOper0 P ops j).guard = some false ∧ ∀ d, (cOper0 P ops j).dst = some d → tm.getD d junk = junk) ∨
    (gOK tm (cOper0 P ops j).guard = some true ∧ ∃ v eff, sim n0 tm H (cOper0 P ops j).op = some (v, eff) ∧ (∀ d, (cOper0 P ops j).dst = some d → tm.getD d junk = v ∨ tm.length ≤ d) ∧
      (eff = none ∨ ∃ o, eff = some (n0 + j, o) ∧ H (n0 + j) = some o))

structure DInv (ord : List Nat) (n0 n : Nat) (tm : List Value) (H : Heap) (ρ : Ren) (w : World) (a : Act) (s L l D : List Nat) : Prop where
  hH : HRel ρ H w
  hF : Fresh ρ n
  hC : Clean H n
  hn : n0 + ops.size ≤ n
  size : a.tmps.size = tm.length
  tms : ∀ t, (∀ j, j ∈ L → (cOper0 P ops j).dst ≠ some t) → VRel ρ (tm.getD t junk) (a.tmps.getD t Go.undef)
  split : ∃ p, ord = p ++ s ∧ ∀ i, i ∈ p ↔ i ∈ D ∨ i ∈ L
  disj : ∀ i, i ∈ L → i ∉ D
  nd : L.Nodup
  sch : Sch (depsOf ops) ops.size l D
  closed : ∀ j, j ∈ D → j < ops.size ∧ ∀ e, e ∈ depsOf ops j → e ∈ D
  pend : ∀ j, j ∈ L → Pend (P := P) (ops := ops) n0 tm H ρ j
  slots : ∀ i, i ∈ s → H (n0 + i) = none ∧ ρ (n0 + i) = none

def mask (D : List (Option Nat)) (tm : List Value) : List Value := tm.zipIdx.map fun (v, t) => if D.contains (some t) then junk else v
theorem mask_length (D : List (Option Nat)) (tm : List Value) : (mask D tm).length = tm.length := by simp [mask]
theorem mask_getD (D : List (Option Nat)) (tm : List Value) (t : Nat) : (mask D tm).getD t junk = if D.contains (some t) then junk else tm.getD t junk := by
  unfold mask
  simp only [List.getD_eq_getElem?_getD, List.getElem?_map, List.getElem?_zipIdx]
  cases tm[t]? <;> simp

theorem LRel.of_get {ρ : Ren} : ∀ {l m : List Value}, m.length = l.length → (∀ i, i < l.length → VRel ρ (l.getD i junk) (m.getD i Go.undef)) → LRel ρ l m
  | [], [], _, _ => by simp [LRel]
  | [], _ :: _, h, _ => by simp at h
  | _ :: _, [], h, _ => by simp at h
  | x :: l, y :: m, h, hr => by
    simp only [LRel]
    refine ⟨y, m, rfl, by simpa using hr 0 (by simp), LRel.of_get (by simpa using h) fun i hi => ?_⟩
    have := hr (i + 1) (by simpa using hi)
    simpa using this

theorem DInv.masked {ord : List Nat} {n0 n : Nat} {tm : List Value} {H : Heap} {ρ : Ren} {w : World} {a : Act} {s L l D : List Nat} (I : DInv (P := P) (ops := ops) ord n0 n tm H ρ w a s L l D) :
    LRel ρ (mask (L.map fun j => (cOper0 P ops j).dst) tm) a.tmps.toList := by
  apply LRel.of_get
  · rw [mask_length]; simpa using I.size
  · intro t ht
    rw [mask_getD]
    have e : a.tmps.toList.getD t Go.undef = a.tmps.getD t Go.undef := by
      rw [List.getD_eq_getElem?_getD, Array.getD_eq_getD_getElem?, Array.getElem?_toList]
    rw [e]
    split
    · exact VRel.undef _ _
    · rename_i hc
      apply I.tms
      intro j hj he
      apply hc
      simp only [List.contains_iff_mem, List.mem_map]
      exact ⟨j, hj, he⟩

/-- Operands that nobody waits with are read through the mask. -/
theorem ev_mask {L : List Nat} {tm : List Value} {o : AOper} (h : ∀ t, reads o t = true → ∀ j, j ∈ L → (cOper0 P ops j).dst ≠ some t) : ∀ x, x ∈ opds o.op → x.ev (mask (L.map fun j => (cOper0 P ops j).dst) tm) = x.ev tm := by
  intro x hx
  cases x with
  | v v => rfl
  | t i =>
    simp only [Opd.ev, mask_getD]
    rw [if_neg]
    simp only [List.contains_iff_mem, List.mem_map, not_exists, not_and]
    intro j hj
    exact h i (by unfold reads; simp only [Bool.or_eq_true, List.any_eq_true]; exact .inl ⟨_, hx, by simp [isT]⟩) j hj
theorem gOK_mask {L : List Nat} {tm : List Value} {o : AOper} (h : ∀ t, reads o t = true → ∀ j, j ∈ L → (cOper0 P ops j).dst ≠ some t) : gOK (mask (L.map fun j => (cOper0 P ops j).dst) tm) o.guard = gOK tm o.guard := by
  cases hg : o.guard with
  | none => rfl
  | some g =>
    obtain ⟨t, b⟩ := g
    simp only [gOK, mask_getD]
    rw [if_neg]
    simp only [List.contains_iff_mem, List.mem_map, not_exists, not_and]
    intro j hj
    exact h t (by unfold reads; simp [hg]) j hj

theorem put_getD (tm : List Value) (d : Option Nat) (v : Value) (t : Nat) : (put tm d v).getD t junk = if d = some t ∧ t < tm.length then v else tm.getD t junk := by
  cases d with
  | none => simp [put]
  | some d =>
    simp only [put, List.getD_eq_getElem?_getD, List.getElem?_set, Option.some.injEq]
    by_cases e : d = t
    · subst e
      by_cases h : d < tm.length
      · simp [h]
      · simp [h]
    · simp [e]
theorem put_length (tm : List Value) (d : Option Nat) (v : Value) : (put tm d v).length = tm.length := by cases d <;> simp [put]
theorem put_ev {tm : List Value} {d : Option Nat} {v : Value} {o : AOper} (h : ∀ t, d = some t → reads o t = false) : ∀ x, x ∈ opds o.op → x.ev (put tm d v) = x.ev tm := by
  intro x hx
  cases x with
  | v v => rfl
  | t i =>
    simp only [Opd.ev, put_getD]
    rw [if_neg]
    rintro ⟨hd, _⟩
    have := h i hd
    unfold reads at this
    simp only [Bool.or_eq_false_iff, List.any_eq_false] at this
    have := this.1 _ hx
    simp [isT] at this
theorem put_gOK {tm : List Value} {d : Option Nat} {v : Value} {o : AOper} (h : ∀ t, d = some t → reads o t = false) : gOK (put tm d v) o.guard = gOK tm o.guard := by
  cases hg : o.guard with
  | none => rfl
  | some g =>
    obtain ⟨t, b⟩ := g
    simp only [gOK, put_getD]
    rw [if_neg]
    rintro ⟨hd, _⟩
    have := h t hd
    unfold reads at this
    simp [hg] at this
end draw
end Go.Ab

/- Each resolved operation does what the model's own does. Each resolved operation that calls nothing does what the model's own does. Comparing two structs or arrays, cell by cell. No conditions. -/
import Derived.ChangeKeysEq
import Derived.Test.YtcjchcommaahdaaGreatQ00
set_option maxRecDepth 20000
set_option maxHeartbeats 4000000
set_option linter.all false
namespace Go.Ab

theorem add_addr (b off i : Nat) : (⟨b, off, none⟩ : Addr).add i = ⟨b, off + i, none⟩ := by
  unfold Addr.add; split
  · rename_i h; simp [h]
  · rfl

theorem run_load_row (P : Program) (w : World) (b j : Nat) (c : Array Value) (e : TypeId) (fz : Nat × Nat) (v : Value) (hb : w.heap[b]? = some (.cells c e fz))
    (hv : c[j]? = some v) : (load ⟨b, j, none⟩).run P w = .ok v w := by
  simp [cell_of_row w b j c e fz hb, hv]

theorem run_loadCellsFrom (P : Program) (w : World) (b off : Nat) (c : Array Value) (e : TypeId) (fz : Nat × Nat) (hb : w.heap[b]? = some (.cells c e fz)) :
    ∀ (n i : Nat) (acc : Array Value), off + i + n ≤ c.size →
      (loadCellsFrom ⟨b, off, none⟩ i n acc).run P w = .ok (acc ++ (c.toList.drop (off + i)).take n) w
  | 0, i, acc, _ => by simp [loadCellsFrom]
  | n + 1, i, acc, h => by
    have hlt : off + i < c.size := by omega
    have hv : c[off + i]? = some c[off + i] := by simp [hlt]
    simp only [loadCellsFrom, Sem.run_bind, add_addr, run_load_row P w b (off + i) c e fz _ hb hv, Result.andThen_ok]
    rw [run_loadCellsFrom P w b off c e fz hb n (i + 1) _ (by omega)]
    congr 1
    apply Array.toList_inj.1
    have : c.toList.drop (off + i) = c[off + i] :: c.toList.drop (off + (i + 1)) := by
      rw [List.drop_eq_getElem_cons (by simpa using hlt)]; simp [Nat.add_assoc]
    simp [this]

theorem run_loadCells (P : Program) (w : World) (b off n : Nat) (c : Array Value) (e : TypeId) (fz : Nat × Nat) (hb : w.heap[b]? = some (.cells c e fz))
    (h : off + n ≤ c.size) : (loadCells ⟨b, off, none⟩ n).run P w = .ok ((c.toList.drop off).take n).toArray w := by
  unfold loadCells; rw [run_loadCellsFrom P w b off c e fz hb n 0 #[] (by omega)]; simp

theorem run_storeCells (P : Program) (b off : Nat) (e : TypeId) : ∀ (l : List Value) (i : Nat) (w : World) (c : Array Value),
    w.heap[b]? = some (.cells c e (0, 0)) → off + i + l.length ≤ c.size → l.all Value.oneCell' = true →
    (storeCells ⟨b, off, none⟩ l i).run P w = .ok () { w with heap := w.heap.setIfInBounds b (.cells (splice c.toList (off + i) l).toArray e (0, 0)) }
  | [], i, w, c, hb, _, _ => by
    have hlt := (Array.getElem?_eq_some_iff.1 hb)
    obtain ⟨h1, h2⟩ := hlt
    simp only [storeCells, Sem.run_pure]
    congr 1
    have : (splice c.toList (off + i) []).toArray = c := by simp [splice]
    rw [this]
    have h3 : w.heap.setIfInBounds b (.cells c e (0, 0)) = w.heap := by
      apply Array.ext_getElem?; intro j
      by_cases hj : b = j
      · subst hj; simp [h1, ← h2]
      · simp [hj]
    rw [h3]
  | v :: l, i, w, c, hb, hlen, hgood => by
    simp only [List.all_cons, Bool.and_eq_true] at hgood
    simp only [List.length_cons] at hlen
    have hlt : off + i < c.size := by omega
    simp only [storeCells, Sem.run_bind, add_addr]
    rw [run_store P w _ v .plain hgood.1]
    have hcell := cell_of_row w b (off + i) c e (0, 0) hb
    have hv : c[off + i]? = some c[off + i] := by simp [hlt]
    rw [hv] at hcell
    have hfr : w.frozen? ⟨b, off + i, none⟩ = false := by simp [World.frozen?, hb]
    simp only [hcell, hfr, Bool.false_eq_true, if_false, Result.andThen_ok]
    have hb1 : b < w.heap.size := (Array.getElem?_eq_some_iff.1 hb).1
    have hset : (w.setCell ⟨b, off + i, none⟩ v) = { w with heap := w.heap.setIfInBounds b (.cells (c.setIfInBounds (off + i) v) e (0, 0)) } := by
      unfold World.setCell
      congr 1
      apply Array.ext_getElem?
      intro j
      by_cases hj : b = j
      · subst hj; rw [Array.getElem?_modify]; have hg := (Array.getElem?_eq_some_iff.1 hb).2; simp [hb1, hg]
      · rw [Array.getElem?_modify]; simp [hj]
    rw [hset]
    have hb2 : ({ w with heap := w.heap.setIfInBounds b (.cells (c.setIfInBounds (off + i) v) e (0, 0)) } : World).heap[b]? = some (.cells (c.setIfInBounds (off + i) v) e (0, 0)) := by
      simp [hb1]
    rw [run_storeCells P b off e l (i + 1) _ _ hb2 (by simp; omega) hgood.2]
    congr 1
    simp only
    congr 1
    have hl : (splice (c.setIfInBounds (off + i) v).toList (off + (i + 1)) l) = splice c.toList (off + i) (v :: l) := by
      unfold splice
      have h1 : off + i < c.toList.length := by simpa using hlt
      simp only [Array.toList_setIfInBounds, List.length_cons]
      rw [List.drop_set_of_lt (by omega)]
      rw [show off + (i + 1) = (off + i) + 1 by omega, List.take_succ_eq_append_getElem (by simpa using h1)]
      simp [List.take_set_of_le, Nat.add_assoc, Nat.add_comm, Nat.add_left_comm]
    rw [hl]
    simp

theorem VRel.undef (ρ : Ren) (v : Value) : VRel ρ junk v := by simp [junk, VRel]

theorem flatC_rel {ρ : Ren} {v : Value} (h : flatC v = true) : VRel ρ v v := by
  cases v with
  | pointer a => cases a <;> simp_all [flatC, VRel]
  | slice a n c => cases a <;> simp_all [flatC, VRel]
  | map a => cases a <;> simp_all [flatC, VRel]
  | chan a => cases a <;> simp_all [flatC, VRel]
  | _ => simp_all [flatC, VRel]

theorem flatL_rel {ρ : Ren} : ∀ {l : List Value}, l.all flatC = true → LRel ρ l l
  | [], _ => by simp [LRel]
  | v :: l, h => by simp at h; simp only [LRel]; exact ⟨v, l, rfl, flatC_rel h.1, flatL_rel (by simpa using h.2)⟩

theorem flatV_rel {ρ : Ren} {v : Value} (h : flatV v = true) : VRel ρ v v := by
  unfold flatV at h
  cases v with
  | agg l => simp only [isTup, vcells, Bool.not_false, Bool.true_and] at h; simp only [VRel]; exact ⟨l, rfl, ARel_iff.2 (flatL_rel h)⟩
  | tuple l => simp [isTup] at h
  | _ => simp only [isTup, vcells, Bool.not_false, Bool.true_and, List.all_cons, List.all_nil, Bool.and_true] at h; exact flatC_rel h

theorem cOpd_ev {ρ : Ren} {tm : List Value} {a : Act} (ht : LRel ρ tm a.tmps.toList) {x : Operand} {y : Opd} (h : cOpd x = some y) :
    VRel ρ (y.ev tm) (a.eval x) := by
  cases x with
  | tmp i =>
    simp only [cOpd, Option.some.injEq] at h; subst h
    simp only [Opd.ev, Act.eval, List.getD_eq_getElem?_getD]
    cases hi : tm[i]? with
    | none => simp only [Option.getD_none]; exact VRel.undef _ _
    | some v =>
      obtain ⟨u, hu, hr⟩ := ht.get hi
      have : a.tmps.getD i Go.undef = u := by
        rw [Array.getD_eq_getD_getElem?]; rw [Array.getElem?_toList] at hu; simp [hu]
      rw [this]; simpa using hr
  | const v =>
    simp only [cOpd] at h; split at h
    · rename_i hf; cases h; exact flatV_rel hf
    · cases h
  | func f =>
    simp only [cOpd, Option.some.injEq] at h; subst h
    simp only [Opd.ev, Act.eval, VRel]
    exact ⟨_, _, _, rfl, rfl, by simp [ARel, LRel], by simp [ARel, LRel]⟩
  | global g => simp [cOpd] at h

theorem cOpds_ev {ρ : Ren} {tm : List Value} {a : Act} (ht : LRel ρ tm a.tmps.toList) : ∀ {xs : List Operand} {ys : List Opd}, cOpds xs = some ys →
    LRel ρ (ys.map (Opd.ev tm)) (xs.map a.eval)
  | [], ys, h => by simp only [cOpds, Option.some.injEq] at h; subst h; simp [LRel]
  | x :: l, ys, h => by
    simp only [cOpds] at h
    split at h
    · rename_i y m h1 h2; cases h
      simp only [List.map_cons, LRel]; exact ⟨_, _, rfl, cOpd_ev ht h1, cOpds_ev ht h2⟩
    · cases h

/-- What is said of an operation of place 'i' in a region whose own names begin at 'n0'. -/
def OpOK (P : Program) (n0 i : Nat) (ρ : Ren) (H : Heap) (w : World) (a : Act) (o : Oper) (v : Value) (eff : Eff) : Prop :=
  ∃ r v' ρ' w', (execOp a.eval o).run P w = .ok r w' ∧ (r = .value v' ∨ (r = .skip ∧ v' = Go.undef)) ∧ VRel ρ' v v' ∧ HRel ρ' (eff.app H) w' ∧
    Ext n0 ρ w ρ' w' ∧ ∀ j, j ≠ n0 + i → ρ' j = ρ j

theorem OpOK.pure {P : Program} {n0 i : Nat} {ρ : Ren} {H : Heap} {w : World} {a : Act} {o : Oper} {v v' : Value} (hH : HRel ρ H w)
    (h : (execOp a.eval o).run P w = .ok (.value v') w) (hv : VRel ρ v v') : OpOK P n0 i ρ H w a o v none :=
  ⟨_, v', ρ, w, h, .inl rfl, hv, hH, Ext.refl _ _ _, fun _ _ => rfl⟩

theorem OpOK.new {P : Program} {n0 i : Nat} {ρ : Ren} {H : Heap} {w : World} {a : Act} {o : Oper} {v v' : Value} {x : AObj} {y : Obj} (hH : HRel ρ H w)
    (hs : ρ (n0 + i) = none) (h : (execOp a.eval o).run P w = .ok (.value v') (w.alloc y)) (hx : ORel ρ x y)
    (hv : VRel (ρ.put (n0 + i) w.heap.size) v v') : OpOK P n0 i ρ H w a o v (some (n0 + i, x)) :=
  ⟨_, v', ρ.put (n0 + i) w.heap.size, w.alloc y, h, .inl rfl, hv, hH.alloc hs hx, Ext.alloc hs (by omega) y, fun j hj => by simp [Ren.put, hj]⟩

theorem vcells_rel {ρ : Ren} {v v' : Value} (h : VRel ρ v v') (ht : isTup v = false) : LRel ρ (vcells v) v'.cells.toList := by
  cases v with
  | agg l => simp only [VRel] at h; obtain ⟨l', rfl, h2⟩ := h; simpa [vcells, Value.cells, ARel_iff] using h2
  | tuple l => simp [isTup] at ht
  | bool b => simp only [VRel] at h; subst h; simp [vcells, Value.cells, LRel, VRel]
  | int k n => simp only [VRel] at h; subst h; simp [vcells, Value.cells, LRel, VRel]
  | float k n => simp only [VRel] at h; subst h; simp [vcells, Value.cells, LRel, VRel]
  | complex k a b => simp only [VRel] at h; subst h; simp [vcells, Value.cells, LRel, VRel]
  | string s => simp only [VRel] at h; subst h; simp [vcells, Value.cells, LRel, VRel]
  | nilFunc => simp only [VRel] at h; subst h; simp [vcells, Value.cells, LRel, VRel]
  | nilIface => simp only [VRel] at h; subst h; simp [vcells, Value.cells, LRel, VRel]
  | pointer a =>
    cases a with
    | none => simp only [VRel] at h; subst h; simp [vcells, Value.cells, LRel, VRel]
    | some a => have h0 := h; simp only [VRel] at h; obtain ⟨b, rfl, _⟩ := h; simp only [vcells, Value.cells, LRel]; exact ⟨_, _, rfl, h0, rfl⟩
  | slice a n c =>
    cases a with
    | none => simp only [VRel] at h; subst h; simp [vcells, Value.cells, LRel, VRel]
    | some a => have h0 := h; simp only [VRel] at h; obtain ⟨b, rfl, _⟩ := h; simp only [vcells, Value.cells, LRel]; exact ⟨_, _, rfl, h0, rfl⟩
  | map a =>
    cases a with
    | none => simp only [VRel] at h; subst h; simp [vcells, Value.cells, LRel, VRel]
    | some a => have h0 := h; simp only [VRel] at h; obtain ⟨b, rfl, _⟩ := h; simp only [vcells, Value.cells, LRel]; exact ⟨_, _, rfl, h0, rfl⟩
  | chan a =>
    cases a with
    | none => simp only [VRel] at h; subst h; simp [vcells, Value.cells, LRel, VRel]
    | some a => simp only [VRel] at h
  | func fn f c => have h0 := h; simp only [VRel] at h; obtain ⟨_, _, _, rfl, _⟩ := h; simp only [vcells, Value.cells, LRel]; exact ⟨_, _, rfl, h0, rfl⟩
  | iface t u => have h0 := h; simp only [VRel] at h; obtain ⟨_, rfl, _⟩ := h; simp only [vcells, Value.cells, LRel]; exact ⟨_, _, rfl, h0, rfl⟩

theorem oneCell_rel {ρ : Ren} {v v' : Value} (h : VRel ρ v v') (hg : v.oneCell' = true) : v'.oneCell' = true := by
  cases v with
  | agg l => simp [Value.oneCell'] at hg
  | tuple l => simp [Value.oneCell'] at hg
  | pointer a => cases a <;> simp only [VRel] at h <;> first | (subst h; rfl) | (obtain ⟨_, rfl, _⟩ := h; rfl)
  | slice a n c => cases a <;> simp only [VRel] at h <;> first | (subst h; rfl) | (obtain ⟨_, rfl, _⟩ := h; rfl)
  | map a => cases a <;> simp only [VRel] at h <;> first | (subst h; rfl) | (obtain ⟨_, rfl, _⟩ := h; rfl)
  | chan a => cases a <;> simp only [VRel] at h <;> subst h <;> rfl
  | func fn f c => simp only [VRel] at h; obtain ⟨_, _, _, rfl, _⟩ := h; rfl
  | iface t u => simp only [VRel] at h; obtain ⟨_, rfl, _⟩ := h; rfl
  | _ => simp only [VRel] at h; subst h; rfl
theorem oneCells_rel {ρ : Ren} : ∀ {l m : List Value}, LRel ρ l m → l.all Value.oneCell' = true → m.all Value.oneCell' = true
  | [], m, h, _ => by simp only [LRel] at h; subst h; rfl
  | v :: l, m, h, hg => by
    simp only [LRel] at h; obtain ⟨u, k, rfl, h1, h2⟩ := h
    simp only [List.all_cons, Bool.and_eq_true] at hg ⊢
    exact ⟨oneCell_rel h1 hg.1, oneCells_rel h2 hg.2⟩
theorem LRel.splice {ρ : Ren} {c c' l l' : List Value} (off : Nat) (hc : LRel ρ c c') (hl : LRel ρ l l') : LRel ρ (splice c off l) (splice c' off l') := by
  unfold Go.Ab.splice; rw [hl.length]; exact ((hc.take off).append hl).append (hc.drop _)

/-- What a pointer of the abstract machine is. -/
theorem ptr_rel {ρ : Ren} {H : Heap} {w : World} (hH : HRel ρ H w) {b off : Nat} {u : Value} (h : VRel ρ (.pointer (some ⟨b, off, none⟩)) u) :
    ∃ b', u = .pointer (some ⟨b', off, none⟩) ∧ ρ b = some b' ∧ ∃ o o', H b = some o ∧ w.heap[b']? = some o' ∧ ORel ρ o o' := by
  simp only [VRel] at h; obtain ⟨b', rfl, _, h2⟩ := h
  obtain ⟨o, o', h3, h4, h5⟩ := hH.obj _ _ h2
  exact ⟨b', rfl, h2, o, o', h3, h4, h5⟩
end Go.Ab
namespace Go.Ab
section runs
variable {P : Program} {w : World} {t : TypeId}
theorem run_typeInfo' {i : TypeInfo} (h : P.info? t = some i) : (typeInfo t).run P w = .ok i w := by simp [typeInfo, h]
theorem run_underlying' {d : TypeDesc} (h : P.underlying t = some d) : (underlying t).run P w = .ok d w := by simp [underlying, h]
theorem run_sizeOf' {n : Nat} (h : szOf P t = some n) : (sizeOf t).run P w = .ok n w := by
  unfold szOf at h; cases hi : P.info? t with
  | none => simp [hi] at h
  | some i => simp [hi] at h; simp [sizeOf, run_typeInfo' hi, h]
theorem run_isAgg' {g : Bool} (h : aggB P t = some g) : (isAgg t).run P w = .ok g w := by
  unfold aggB at h; cases hi : P.underlying t with
  | none => simp [hi] at h
  | some d => simp only [hi] at h; simp only [isAgg, Sem.run_bind, run_underlying' hi, Result.andThen_ok]; cases d <;> simp_all
theorem run_zeroValue' {ρ : Ren} {z : List Value} (h : zeroL P t = some z) : ∃ v, (zeroValue t).run P w = .ok v w ∧ v.cells.toList = z ∧ LRel ρ z z := by
  unfold zeroL at h; cases hi : P.info? t with
  | none => simp [hi] at h
  | some i =>
    simp only [hi] at h
    cases hz : i.zero with
    | none => simp [hz] at h
    | some v =>
      simp only [hz] at h
      split at h
      · rename_i hf; cases h
        refine ⟨v, by simp [zeroValue, run_typeInfo' hi, hz], ?_, ?_⟩
        · cases v <;> simp [Value.cells, vcells]
        · unfold flatV at hf; simp only [Bool.and_eq_true] at hf; exact flatL_rel hf.2
      · cases h
theorem part_run {g : Bool} {n off : Nat} (hg : aggB P t = some g) (hn : szOf P t = some n) (cs : Array Value) (v : Value)
    (h : (if g then some (Value.agg ((cs.toList.drop off).take n).toArray) else cs.toList[off]?) = some v) : (part t cs off).run P w = .ok v w := by
  unfold part
  simp only [Sem.run_bind, run_isAgg' hg, Result.andThen_ok]
  cases g with
  | true =>
    simp only [if_true, Option.some.injEq] at h ⊢
    simp only [Sem.run_bind, run_sizeOf' hn, Result.andThen_ok, Sem.run_pure, ← h]
    congr 2
    apply Array.toList_inj.1
    simp [List.extract_eq_take_drop]
  | false =>
    simp only [Bool.false_eq_true, if_false] at h ⊢
    rw [Array.getElem?_toList] at h
    simp [h]
end runs

section ops
variable {P : Program} {n0 i : Nat} {ρ : Ren} {H : Heap} {w : World} {tm : List Value} {a : Act} {o : Oper} {p : AOp} {v : Value} {eff : Eff}

theorem ok_mv (hH : HRel ρ H w) (ht : LRel ρ tm a.tmps.toList) {x : Operand} {y : Opd} (ho : o.op = .move x ∨ o.op = .assign x) (hx : cOpd x = some y)
    (h : sim n0 tm H (.mv y) = some (v, eff)) : OpOK P n0 i ρ H w a o v eff := by
  simp only [sim, Option.some.injEq, Prod.mk.injEq] at h; obtain ⟨rfl, rfl⟩ := h
  refine OpOK.pure (v' := a.eval x) hH ?_ (cOpd_ev ht hx)
  rcases ho with ho | ho <;> simp [execOp, ho]

theorem ok_pick (hH : HRel ρ H w) (ht : LRel ρ tm a.tmps.toList) {c x y : Operand} {c' x' y' : Opd} (ho : o.op = .pick c x y) (hc : cOpd c = some c') (hx : cOpd x = some x')
    (hy : cOpd y = some y') (h : sim n0 tm H (.pick c' x' y') = some (v, eff)) : OpOK P n0 i ρ H w a o v eff := by
  have e1 := cOpd_ev ht hc; have e2 := cOpd_ev ht hx; have e3 := cOpd_ev ht hy
  simp only [sim] at h
  cases hcv : c'.ev tm <;> simp only [hcv] at h <;> first | (simp at h; done) | skip
  rename_i b
  simp only [Option.some.injEq, Prod.mk.injEq] at h; obtain ⟨rfl, rfl⟩ := h
  rw [hcv] at e1; simp only [VRel] at e1
  refine OpOK.pure (v' := if b then a.eval x else a.eval y) hH ?_ (by cases b <;> simp [e2, e3])
  simp [execOp, ho, e1, asBool]

theorem ok_alloc (hH : HRel ρ H w) (hs : ρ (n0 + i) = none) {e : TypeId} {z : List Value} (ho : o.op = .alloc e) (hz : zeroL P e = some z)
    (h : sim n0 tm H (.alloc i e z) = some (v, eff)) : OpOK P n0 i ρ H w a o v eff := by
  simp only [sim, Option.some.injEq, Prod.mk.injEq] at h; obtain ⟨rfl, rfl⟩ := h
  obtain ⟨u, h1, h2, h3⟩ := run_zeroValue' (ρ := ρ) (w := w) hz
  refine OpOK.new (v' := .pointer (some ⟨w.heap.size, 0, none⟩)) (y := .cells u.cells e) hH hs ?_ ⟨_, rfl, h2 ▸ h3⟩ ?_
  · simp [execOp, ho, Instr.alloc, h1, newVar, newRow]
  · simp [VRel, Ren.put]

theorem ok_box (hH : HRel ρ H w) (hs : ρ (n0 + i) = none) (ht : LRel ρ tm a.tmps.toList) {e : TypeId} {x : Operand} {y : Opd} (ho : o.op = .box e x) (hx : cOpd x = some y)
    (h : sim n0 tm H (.box i e y) = some (v, eff)) : OpOK P n0 i ρ H w a o v eff := by
  simp only [sim] at h; split at h
  · rename_i hg
    simp only [Option.some.injEq, Prod.mk.injEq] at h; obtain ⟨rfl, rfl⟩ := h
    refine OpOK.new (v' := .pointer (some ⟨w.heap.size, 0, none⟩)) (y := .cells (a.eval x).cells e) hH hs ?_ ⟨_, rfl, vcells_rel (cOpd_ev ht hx) hg⟩ ?_
    · simp [execOp, ho, Instr.box, newVar, newRow]
    · simp [VRel, Ren.put]
  · cases h

theorem ok_load (hH : HRel ρ H w) (ht : LRel ρ tm a.tmps.toList) {t : TypeId} {x : Operand} {y : Opd} {g : Bool} {n : Nat} (ho : o.op = .load t x) (hg : aggB P t = some g)
    (hn : szOf P t = some n) (hx : cOpd x = some y) (h : sim n0 tm H (.load g n y) = some (v, eff)) : OpOK P n0 i ρ H w a o v eff := by
  have e := cOpd_ev ht hx
  simp only [sim] at h
  split at h <;> first | (simp at h; done) | skip
  rename_i b off hv
  rw [hv] at e
  obtain ⟨b', hb', hρ, ob, ob', h1, h2, h3⟩ := ptr_rel hH e
  simp only [h1] at h
  split at h <;> first | (simp at h; done) | skip
  rename_i c ty fz hob
  cases hob
  obtain ⟨c', rfl, h4⟩ := h3
  cases g with
  | true =>
    simp only [if_true] at h
    split at h
    · rename_i hle
      simp only [Option.some.injEq, Prod.mk.injEq] at h; obtain ⟨rfl, rfl⟩ := h
      refine OpOK.pure (v' := .agg ((c'.toList.drop off).take n).toArray) hH ?_ (by simp only [VRel]; exact ⟨_, rfl, by rw [ARel_iff]; exact (h4.drop off).take n⟩)
      have := h4.length
      simp [execOp, ho, Instr.loadAt, hb', Instr.sureAddr, loadVar, run_isAgg' hg, run_sizeOf' hn, run_loadCells P w b' off n c' ty fz h2 (by rw [← Array.length_toList, this]; exact hle)]
    · cases h
  | false =>
    simp only [Bool.false_eq_true, if_false] at h
    split at h
    · rename_i u hu
      simp only [Option.some.injEq, Prod.mk.injEq] at h; obtain ⟨rfl, rfl⟩ := h
      obtain ⟨u', hu', hr⟩ := h4.get hu
      rw [Array.getElem?_toList] at hu'
      refine OpOK.pure (v' := u') hH ?_ hr
      simp only [execOp, ho, Instr.loadAt, hb', Instr.sureAddr, loadVar, Sem.run_bind, Sem.run_pure, run_isAgg' hg, Result.andThen_ok, Bool.false_eq_true, if_false,
        run_load_row P w b' off c' ty fz u' h2 hu']
    · cases h

theorem ok_store (hH : HRel ρ H w) (ht : LRel ρ tm a.tmps.toList) {t : TypeId} {x z : Operand} {y q : Opd} {n : Nat} (ho : o.op = .store t x z)
    (hn : szOf P t = some n) (hx : cOpd x = some y) (hz : cOpd z = some q) (h : sim n0 tm H (.store n y q) = some (v, eff)) : OpOK P n0 i ρ H w a o v eff := by
  have e := cOpd_ev ht hx; have e2 := cOpd_ev ht hz
  simp only [sim] at h
  split at h <;> first | (simp at h; done) | skip
  rename_i b off hv
  rw [hv] at e
  obtain ⟨b', hb', hρ, ob, ob', h1, h2, h3⟩ := ptr_rel hH e
  simp only [h1] at h
  split at h <;> first | (simp at h; done) | skip
  rename_i c ty hob
  cases hob
  obtain ⟨c', rfl, h4⟩ := h3
  split at h <;> first | (simp at h; done) | skip
  rename_i hc
  obtain ⟨hc1, hc2, hc3⟩ := hc
  simp only [Option.some.injEq, Prod.mk.injEq] at h; obtain ⟨rfl, rfl⟩ := h
  unfold good at hc1
  simp only [Bool.and_eq_true, Bool.not_eq_true'] at hc1
  have hcells := vcells_rel e2 hc1.1
  have hl := hcells.length
  have hl2 := h4.length
  refine ⟨.skip, Go.undef, ρ, { w with heap := w.heap.setIfInBounds b' (.cells (splice c'.toList (off + 0) (a.eval z).cells.toList).toArray ty (0, 0)) }, ?_, .inr ⟨rfl, rfl⟩, VRel.undef _ _,
    hH.write hρ ⟨_, rfl, ?_⟩, Ext.write hρ _, fun _ _ => rfl⟩
  · simp only [execOp, ho, Instr.storeAt, hb', Instr.sureAddr, storeVar, Sem.run_bind, Sem.run_pure, run_sizeOf' hn, Result.andThen_ok]
    rw [← Array.length_toList, hl, hc2]
    simp only [ne_eq, not_true_eq_false, if_false]
    rw [run_storeCells P b' off ty _ 0 w c' h2 (by rw [hl, hc2, ← Array.length_toList, hl2]; omega) (oneCells_rel hcells hc1.2)]
    rfl
  · simpa using LRel.splice off h4 hcells

theorem ok_fieldAddr (hH : HRel ρ H w) (ht : LRel ρ tm a.tmps.toList) {t : TypeId} {x : Operand} {y : Opd} {j s : Nat} {fs : Array Field} {f : Field} (ho : o.op = .fieldAddr t x j)
    (hu : P.underlying t = some (.struct fs)) (hf : fs[j]? = some f) (hs : szOf P f.type = some s) (hs0 : s ≠ 0) (hx : cOpd x = some y)
    (h : sim n0 tm H (.fieldAddr f.offset y) = some (v, eff)) : OpOK P n0 i ρ H w a o v eff := by
  have e := cOpd_ev ht hx
  simp only [sim] at h
  split at h <;> first | (simp at h; done) | skip
  rename_i b off hv
  rw [hv] at e
  simp only [Option.some.injEq, Prod.mk.injEq] at h; obtain ⟨rfl, rfl⟩ := h
  simp only [VRel] at e; obtain ⟨b', h1, _, h3⟩ := e
  refine OpOK.pure (v' := .pointer (some ⟨b', off + f.offset, none⟩)) hH ?_ (by simp only [VRel]; exact ⟨b', rfl, trivial, h3⟩)
  simp [execOp, ho, Instr.fieldAt, run_underlying' hu, hf, h1, Instr.sureAddr, fieldPlace, run_sizeOf' hs, hs0, add_addr]

theorem ok_field (hH : HRel ρ H w) (ht : LRel ρ tm a.tmps.toList) {t : TypeId} {x : Operand} {y : Opd} {j s : Nat} {g : Bool} {fs : Array Field} {f : Field} (ho : o.op = .field t x j)
    (hu : P.underlying t = some (.struct fs)) (hf : fs[j]? = some f) (hs : szOf P f.type = some s) (hg : aggB P f.type = some g) (hx : cOpd x = some y)
    (h : sim n0 tm H (.field g s f.offset y) = some (v, eff)) : OpOK P n0 i ρ H w a o v eff := by
  have e := cOpd_ev ht hx
  simp only [sim] at h
  split at h <;> first | (simp at h; done) | skip
  rename_i cs hv
  rw [hv] at e
  simp only [VRel] at e; obtain ⟨cs', h1, h2⟩ := e
  rw [ARel_iff] at h2
  cases g with
  | true =>
    simp only [if_true, Option.some.injEq, Prod.mk.injEq] at h; obtain ⟨rfl, rfl⟩ := h
    refine OpOK.pure (v' := .agg ((cs'.toList.drop f.offset).take s).toArray) hH ?_ (by simp only [VRel]; exact ⟨_, rfl, by rw [ARel_iff]; exact (h2.drop _).take _⟩)
    simp [execOp, ho, Instr.field, run_underlying' hu, hf, h1, asAgg, part_run hg hs]
  | false =>
    simp only [Bool.false_eq_true, if_false] at h
    split at h <;> first | (simp at h; done) | skip
    rename_i u hu'
    simp only [Option.some.injEq, Prod.mk.injEq] at h; obtain ⟨rfl, rfl⟩ := h
    obtain ⟨u', h3, h4⟩ := h2.get hu'
    refine OpOK.pure (v' := u') hH ?_ h4
    simp only [execOp, ho, Instr.field, run_underlying' hu, Sem.run_bind, Result.andThen_ok, hf, h1, asAgg, Sem.run_pure]
    rw [part_run hg hs cs' u' (by simpa using h3)]
    rfl

theorem ok_extract (hH : HRel ρ H w) (ht : LRel ρ tm a.tmps.toList) {x : Operand} {y : Opd} {j : Nat} (ho : o.op = .extract x j) (hx : cOpd x = some y)
    (h : sim n0 tm H (.extract y j) = some (v, eff)) : OpOK P n0 i ρ H w a o v eff := by
  have e := cOpd_ev ht hx
  simp only [sim] at h
  split at h <;> first | (simp at h; done) | skip
  rename_i vs hv
  split at h <;> first | (simp at h; done) | skip
  rename_i hnc
  split at h <;> first | (simp at h; done) | skip
  rename_i u hu
  simp only [Option.some.injEq, Prod.mk.injEq] at h; obtain ⟨rfl, rfl⟩ := h
  rw [hv] at e
  simp only [VRel] at e
  rcases e with e | ⟨x, rfl, _⟩ | ⟨vs', h1, h2⟩
  rotate_left
  · exact absurd rfl hnc
  rotate_left
  · have : vs.toList = [] := by simpa using e
    rw [this] at hu; simp at hu
  · rw [ARel_iff] at h2
    obtain ⟨u', h3, h4⟩ := h2.get hu
    rw [Array.getElem?_toList] at h3
    refine OpOK.pure (v' := u') hH ?_ h4
    simp [execOp, ho, Instr.extract, h1, h3]
end ops
end Go.Ab
namespace Go.Ab

theorem cellsEq_len : ∀ {s : List Nat} {l m : List Value} {r : Bool}, cellsEq s l m = some r → l.length = s.length ∧ m.length = s.length
  | [], [], [], r, _ => ⟨rfl, rfl⟩
  | s :: ss, a :: l, b :: m, r, h => by
    simp only [cellsEq] at h
    split at h
    · rename_i x y h1 h2; have := cellsEq_len h2; simp [this.1, this.2]
    · cases h
  | [], _ :: _, _, _, h => by simp [cellsEq] at h
  | [], [], _ :: _, _, h => by simp [cellsEq] at h
  | _ :: _, [], _, _, h => by simp [cellsEq] at h
  | _ :: _, _ :: _, [], _, h => by simp [cellsEq] at h

theorem cellsEq_append : ∀ {s1 s2 : List Nat} {l m : List Value} {r : Bool}, cellsEq (s1 ++ s2) l m = some r →
    ∃ r1 r2, cellsEq s1 (l.take s1.length) (m.take s1.length) = some r1 ∧ cellsEq s2 (l.drop s1.length) (m.drop s1.length) = some r2 ∧ r = (r1 && r2)
  | [], s2, l, m, r, h => ⟨true, r, by simp [cellsEq], by simpa using h, by simp⟩
  | s :: ss, s2, [], m, r, h => by simp [cellsEq] at h
  | s :: ss, s2, a :: l, [], r, h => by simp [cellsEq] at h
  | s :: ss, s2, a :: l, b :: m, r, h => by
    simp only [List.cons_append, cellsEq] at h
    split at h <;> first | (simp at h; done) | skip
    rename_i x y h1 h2
    cases h
    obtain ⟨r1, r2, h3, h4, rfl⟩ := cellsEq_append h2
    exact ⟨x && r1, r2, by simp [cellsEq, h1, h3], by simpa using h4, by cases x <;> simp⟩

def valOf (g : Bool) (c : List Value) : Value := if g then .agg c.toArray else c.headD junk

def FlatOK (P : Program) (d : Nat) (t : TypeId) (s : List Nat) : Prop :=
  szOf P t = some s.length ∧ ∃ g, aggB P t = some g ∧ (g = false → s.length = 1) ∧ ∀ D, d ≤ D → ∀ (w : World) cx cy r, cellsEq s cx cy = some r →
    (Op.equalIn D t (valOf g cx) (valOf g cy)).run P w = .ok r w

theorem part_valOf {P : Program} {w : World} {t : TypeId} {g : Bool} {n off : Nat} (hg : aggB P t = some g) (hn : szOf P t = some n) (hg1 : g = false → n = 1) (cs : List Value)
    (h : off + n ≤ cs.length) : (part t cs.toArray off).run P w = .ok (valOf g ((cs.drop off).take n)) w := by
  apply part_run hg hn
  cases g with
  | true => simp [valOf]
  | false =>
    have := hg1 rfl; subst this
    have hlt : off < cs.length := by omega
    simp only [Bool.false_eq_true, if_false, valOf]
    have : (cs.drop off).take 1 = [cs[off]] := by rw [List.drop_eq_getElem_cons hlt]; rfl
    simp [hlt, this]

theorem eqItems_flat {P : Program} {d D : Nat} {e : TypeId} {s : List Nat} {g : Bool} (hd : d ≤ D) (hn : szOf P e = some s.length) (hg : aggB P e = some g) (hg1 : g = false → s.length = 1)
    (hE : ∀ D, d ≤ D → ∀ (w : World) cx cy r, cellsEq s cx cy = some r → (Op.equalIn D e (valOf g cx) (valOf g cy)).run P w = .ok r w) (xs ys : List Value) (w : World) :
    ∀ (k j : Nat) (r : Bool), cellsEq (List.replicate k s).flatten (xs.drop (j * s.length)) (ys.drop (j * s.length)) = some r →
      (Op.eqItems D e s.length xs.toArray ys.toArray (List.range' j k)).run P w = .ok r w
  | 0, j, r, h => by
    have := cellsEq_len h
    simp at this
    cases hx : xs.drop (j * s.length) with
    | cons a l => rw [hx] at h; simp [cellsEq] at h
    | nil =>
      cases hy : ys.drop (j * s.length) with
      | cons a l => rw [hx, hy] at h; simp [cellsEq] at h
      | nil => rw [hx, hy] at h; simp [cellsEq] at h; subst h; simp [Op.eqItems]
  | k + 1, j, r, h => by
    simp only [List.replicate_succ, List.flatten_cons] at h
    have hlen := cellsEq_len h
    simp only [List.length_append, List.length_drop] at hlen
    obtain ⟨r1, r2, h1, h2, rfl⟩ := cellsEq_append h
    simp only [List.drop_drop] at h2
    have e1 : j * s.length + s.length = (j + 1) * s.length := by rw [Nat.add_mul]; omega
    rw [e1] at h2
    simp only [List.range'_succ, Op.eqItems, Sem.run_bind]
    by_cases hs : s.length = 0
    · have : s = [] := List.length_eq_zero_iff.1 hs
      subst this
      rw [part_valOf hg (by simpa using hn) (by intro h; have := hg1 h; simp at this) xs (by simp), Result.andThen_ok,
        part_valOf hg (by simpa using hn) (by intro h; have := hg1 h; simp at this) ys (by simp), Result.andThen_ok]
      simp only [List.take_zero, List.length_nil] at h1 ⊢
      rw [hE D hd w _ _ r1 h1, Result.andThen_ok]
      cases r1
      · simp [Sem.run_pure]
      · simp only [Bool.not_true, Bool.false_eq_true, if_false, Bool.true_and]
        exact eqItems_flat hd hn hg hg1 hE xs ys w k (j + 1) r2 h2
    · rw [part_valOf hg hn hg1 xs (by omega), Result.andThen_ok, part_valOf hg hn hg1 ys (by omega), Result.andThen_ok, hE D hd w _ _ r1 h1, Result.andThen_ok]
      cases r1
      · simp [Sem.run_pure]
      · simp only [Bool.not_true, Bool.false_eq_true, if_false, Bool.true_and]
        exact eqItems_flat hd hn hg hg1 hE xs ys w k (j + 1) r2 h2

theorem eqFields_flat {P : Program} {d D : Nat} {f : TypeId → Option (List Nat)} (hd : d ≤ D) (hf : ∀ t s, f t = some s → FlatOK P d t s) (xs ys : List Value) (w : World) :
    ∀ (fs : List Field) (acc s : List Nat), shapeFs P f fs acc = some s → ∃ s', s = acc ++ s' ∧ ∀ r, cellsEq s' (xs.drop acc.length) (ys.drop acc.length) = some r →
      (Op.eqFields D xs.toArray ys.toArray fs).run P w = .ok r w
  | [], acc, s, h => by
    simp only [shapeFs, Option.some.injEq] at h
    refine ⟨[], by simp [h], fun r hr => ?_⟩
    cases hx : xs.drop acc.length with
    | cons a l => rw [hx] at hr; simp [cellsEq] at hr
    | nil =>
      cases hy : ys.drop acc.length with
      | cons a l => rw [hx, hy] at hr; simp [cellsEq] at hr
      | nil => rw [hx, hy] at hr; simp [cellsEq] at hr; subst hr; simp [Op.eqFields]
  | fd :: fs, acc, s, h => by
    simp only [shapeFs] at h
    split at h <;> first | (simp at h; done) | skip
    rename_i hc
    split at h <;> first | (simp at h; done) | skip
    rename_i s1 hs1
    obtain ⟨s2, rfl, h2⟩ := eqFields_flat hd hf xs ys w fs (acc ++ s1) s h
    refine ⟨s1 ++ s2, by simp, fun r hr => ?_⟩
    have hlen := cellsEq_len hr
    simp only [List.length_append, List.length_drop] at hlen
    obtain ⟨r1, r2, h3, h4, rfl⟩ := cellsEq_append hr
    obtain ⟨hn, g, hg, hg1, hE⟩ := hf _ _ hs1
    simp only [List.drop_drop] at h4
    have h5 := h2 r2 (by simpa using h4)
    have hb : fd.offset + s1.length ≤ xs.length ∧ fd.offset + s1.length ≤ ys.length ∨ s1.length = 0 := by rw [hc.2]; omega
    simp only [Op.eqFields, ne_eq, hc.1, not_false_eq_true, if_true, Sem.run_bind]
    have hp : ∀ zs : List Value, (zs = xs ∨ zs = ys) → (part fd.type zs.toArray fd.offset).run P w = .ok (valOf g ((zs.drop acc.length).take s1.length)) w := by
      intro zs hz
      by_cases h0 : s1.length = 0
      · have hgt : g = true := by
          cases g with
          | true => rfl
          | false => have := hg1 rfl; omega
        subst hgt
        rw [part_run hg hn zs.toArray (.agg ((zs.drop fd.offset).take s1.length).toArray) (by simp)]
        simp [h0, valOf]
      · have : fd.offset + s1.length ≤ zs.length := by rcases hz with rfl | rfl <;> omega
        rw [part_valOf hg hn hg1 zs this, hc.2]
    rw [hp xs (.inl rfl), Result.andThen_ok, hp ys (.inr rfl), Result.andThen_ok, hE D hd w _ _ r1 h3, Result.andThen_ok]
    cases r1
    · simp [Sem.run_pure]
    · simp only [Bool.not_true, Bool.false_eq_true, if_false, Bool.true_and]; exact h5

theorem shapeT_ok {P : Program} : ∀ (d : Nat) (t : TypeId) (s : List Nat), shapeT P d t = some s → FlatOK P d t s
  | 0, t, s, h => by simp [shapeT] at h
  | d + 1, t, s, h => by
    simp only [shapeT] at h
    split at h <;> first | (simp at h; done) | skip
    rename_i s1 hs
    split at h <;> first | (simp at h; done) | skip
    rename_i hsz
    obtain rfl : s1 = s := by simpa using h
    refine ⟨hsz, ?_⟩
    split at hs <;> first | (simp at hs; done) | skip
    · rename_i k hu; cases hs
      refine ⟨false, by simp [aggB, hu], fun _ => rfl, fun D hD w cx cy r hr => ?_⟩
      obtain ⟨D', rfl⟩ : ∃ D', D = D' + 1 := ⟨D - 1, by omega⟩
      match cx, cy, hr with
      | [a], [b], hr =>
        simp only [cellsEq] at hr
        split at hr <;> first | (simp at hr; done) | skip
        rename_i x y h1 h2
        cases h2; cases hr
        cases a <;> cases b <;> simp only [cellEq] at h1 <;> first | (simp at h1; done) | skip
        rename_i k1 a1 k2 b1
        split at h1 <;> first | (simp at h1; done) | skip
        rename_i hk; subst hk
        cases h1
        simp [valOf, run_equalIn_int w D' t k1 k a1 b1 hu]
      | [], _, hr => simp [cellsEq] at hr
      | a :: b :: l, _, hr => have := cellsEq_len hr; simp at this
      | [a], [], hr => simp [cellsEq] at hr
      | [a], b :: c :: m, hr => have := cellsEq_len hr; simp at this
    · rename_i hu; cases hs
      refine ⟨false, by simp [aggB, hu], fun _ => rfl, fun D hD w cx cy r hr => ?_⟩
      obtain ⟨D', rfl⟩ : ∃ D', D = D' + 1 := ⟨D - 1, by omega⟩
      match cx, cy, hr with
      | [a], [b], hr =>
        simp only [cellsEq] at hr
        split at hr <;> first | (simp at hr; done) | skip
        rename_i x y h1 h2
        cases h2; cases hr
        cases a <;> cases b <;> simp only [cellEq] at h1 <;> first | (simp at h1; done) | skip
        rename_i a1 b1
        cases h1
        simp [valOf, run_equalIn_bool' w D' t a1 b1 hu]
      | [], _, hr => simp [cellsEq] at hr
      | a :: b :: l, _, hr => have := cellsEq_len hr; simp at this
      | [a], [], hr => simp [cellsEq] at hr
      | [a], b :: c :: m, hr => have := cellsEq_len hr; simp at this
    · rename_i hu; cases hs
      refine ⟨false, by simp [aggB, hu], fun _ => rfl, fun D hD w cx cy r hr => ?_⟩
      obtain ⟨D', rfl⟩ : ∃ D', D = D' + 1 := ⟨D - 1, by omega⟩
      match cx, cy, hr with
      | [a], [b], hr =>
        simp only [cellsEq] at hr
        split at hr <;> first | (simp at hr; done) | skip
        rename_i x y h1 h2
        cases h2; cases hr
        cases a <;> cases b <;> simp only [cellEq] at h1 <;> first | (simp at h1; done) | skip
        rename_i a1 b1
        cases h1
        simp [valOf, run_equalIn_string w D' t a1 b1 hu, beq_toListBytes]
      | [], _, hr => simp [cellsEq] at hr
      | a :: b :: l, _, hr => have := cellsEq_len hr; simp at this
      | [a], [], hr => simp [cellsEq] at hr
      | [a], b :: c :: m, hr => have := cellsEq_len hr; simp at this
    · rename_i n e hu
      cases he : shapeT P d e with
      | none => simp [he] at hs
      | some se =>
        simp [he] at hs; subst hs
        obtain ⟨hn, g, hg, hg1, hE⟩ := shapeT_ok d e se he
        refine ⟨true, by simp [aggB, hu], by simp, fun D hD w cx cy r hr => ?_⟩
        obtain ⟨D', rfl⟩ : ∃ D', D = D' + 1 := ⟨D - 1, by omega⟩
        simp only [valOf, if_true]
        unfold szOf at hn
        cases hi : P.info? e with
        | none => simp [hi] at hn
        | some ie =>
          have hn' := hn
          simp [hi] at hn
          rw [run_equalIn_array w D' cx.toArray cy.toArray hu hi]
          have hc : P.cellsOf e = se.length := by simp [Program.cellsOf, hi, hn]
          rw [hc, List.range_eq_range']
          exact eqItems_flat (by omega) hn' hg hg1 hE cx cy w n 0 r (by simpa using hr)
    · rename_i fs hu
      split at hs <;> first | (simp at hs; done) | skip
      rename_i hp
      refine ⟨true, by simp [aggB, hu], by simp, fun D hD w cx cy r hr => ?_⟩
      obtain ⟨D', rfl⟩ : ∃ D', D = D' + 1 := ⟨D - 1, by omega⟩
      simp only [valOf, if_true]
      have hf : P.fieldsOf t = fs := by simp [Program.fieldsOf, hu]
      rw [run_equalIn_struct w D' t cx.toArray cy.toArray (by rw [hf]; exact hu) (by simpa using hp), hf]
      obtain ⟨s', h1, h2⟩ := eqFields_flat (d := d) (D := D') (by omega) (fun t s h => shapeT_ok d t s h) cx cy w fs.toList [] s1 hs
      simp at h1; subst h1
      exact h2 r (by simpa using hr)
end Go.Ab

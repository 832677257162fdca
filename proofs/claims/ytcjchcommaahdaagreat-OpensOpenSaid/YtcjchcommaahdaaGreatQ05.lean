/- What the abstract machine says is so of the model's. append, and bytes of a string. No conditions. -/
import Derived.RangeFuncRecord
import Derived.Test.YtcjchcommaahdaaGreatQ04
set_option maxRecDepth 20000
set_option maxHeartbeats 4000000
set_option linter.all false
namespace Go.Ab

def KRel0 (P : Program) : List AItem → List Item → Prop
  | [], k' => k' = []
  | .code c :: k, k' => ∃ c' m, k' = .code c' :: m ∧ cCode P c' = c ∧ KRel0 P k m
  | .inBlock id :: k, k' => ∃ m, k' = .inBlock id :: m ∧ KRel0 P k m
  | .inLoop b :: k, k' => ∃ c' m, k' = .inLoop c' :: m ∧ cCode P c' = b ∧ KRel0 P k m
  | .inScope b :: k, k' => ∃ c' m, k' = .inScope c' :: m ∧ cCode P c' = b ∧ KRel0 P k m
  | .mark :: k, k' => KRel0 P k k'
  | .begin :: k, k' => ∃ m, k' = .beginRound :: m ∧ KRel0 P k m
  | .inReg _ _ _ :: _, _ => False

def KRel (P : Program) (ρ : Ren) (n : Nat) : List AItem → List Item → Prop
  | .inReg n0 true l :: k, k' => False
  | .inReg n0 false l :: k, k' => ∃ ops todo m, k' = .inRegion ops todo :: m ∧ l = todo.map (cOper0 P ops) ∧ todo.Nodup ∧ n0 ≤ n ∧ (∀ i, i ∈ todo → ρ (n0 + i) = none ∧ n0 + i < n) ∧ KRel0 P k m
  | k, k' => KRel0 P k k'

theorem KRel0.toK {P : Program} {ρ : Ren} {n : Nat} {k : List AItem} {k' : List Item} (h : KRel0 P k k') : KRel P ρ n k k' := by
  cases k with
  | nil => exact h
  | cons x k => cases x <;> first | exact h | exact h.elim

def base : List AItem → Nat → Nat
  | .inReg n0 _ _ :: _, _ => n0
  | _, n => n
theorem KRel0.base {P : Program} {k : List AItem} {k' : List Item} {n : Nat} (h : KRel0 P k k') : base k n = n := by
  cases k with
  | nil => rfl
  | cons x k => cases x <;> first | rfl | exact h.elim

/-- The marks of loops that are done, among what a frame has deferred. -/
def DefOK (w0 : World) (ρ : Ren) (w : World) : List Deferred → Prop
  | [] => True
  | d :: ds => (∃ D, d = { target := .collected D, args := #[] } ∧ w0.heap.size ≤ D ∧ w.heap[D]? = some (.deferred (some [])) ∧ (∀ i, ρ i ≠ some D) ∧
      ∀ d', d' ∈ ds → d' ≠ d) ∧ DefOK w0 ρ w ds
theorem DefOK.later {w0 : World} {n : Nat} {ρ ρ1 : Ren} {w w1 : World} (he : Ext n ρ w ρ1 w1) : ∀ {ds : List Deferred}, DefOK w0 ρ w ds → DefOK w0 ρ1 w1 ds
  | [], _ => trivial
  | d :: ds, ⟨⟨D, h1, h2, h3, h4, h5⟩, h6⟩ => by
    have hlt := (Array.getElem?_eq_some_iff.1 h3).1
    refine ⟨⟨D, h1, h2, by rw [he.frame D hlt h4]; exact h3, fun i hi => ?_, h5⟩, DefOK.later he h6⟩
    rcases he.new i D hi with h | ⟨_, h⟩
    · exact h4 i h
    · omega

def AJump.todo (k : List Item) : AJump → List Item
  | .off => []
  | .ret => .code .ret :: k
  | .out id => .code (.exit id) :: k
def AJump.ok (k : List Item) : AJump → Prop
  | .out id => exitTo id k = none
  | _ => True

/-- What a run of a frame is held against: what is asked of the machine, and what is so where the frame is left. -/
structure Ctx (P : Program) (res : ALeave) (R : Post) (b : Frame) (cs : List Frame) where
  G : Machine → Prop
  closed : ∀ m m1, step P m = .next m1 → G m1 → G m
  n0 : Nat
  ρ0 : Ren
  w0 : World
  kind : b.kind = .normal
  isFn : ∀ r, res = .fn r → b.roundOf = none
  isRound : ∀ l, res = .round l → ∃ l', b.roundOf = some l' ∧ ρ0 l = some l'
  leave : ∀ (ρ : Ren) (w : World) (a : Act) (k' : List Item) (j : AJump) (tm : List Value) (H : Heap) (n : Nat) (v : Value), HRel ρ H w → Fresh ρ n → Clean H n → n0 ≤ n → Ext n0 ρ0 w0 ρ w → DefOK w0 ρ w a.defers →
    LRel ρ tm a.tmps.toList → leaveV tm H res j = some v → R (.returned v) H n → j.ok k' → G (lone (b.atR a (j.todo k')) cs w)
  die : ∀ (ρ : Ren) (w : World) (a : Act) (k' : List Item) (c c' : List PanicEntry) (H : Heap) (n : Nat), HRel ρ H w → Fresh ρ n → Clean H n → n0 ≤ n → Ext n0 ρ0 w0 ρ w → DefOK w0 ρ w a.defers →
    PRel ρ c c' → R (.panicked c) H n → G (lone { b.atR a k' with mode := .panicking c' } cs w)

def Runs {P : Program} {res : ALeave} {R : Post} {b : Frame} {cs : List Frame} (C : Ctx P res R b cs) (n : Nat) (ρ : Ren) (w : World) (df : List Deferred) (m : Machine) : Prop :=
  C.n0 ≤ n → Ext C.n0 C.ρ0 C.w0 ρ w → DefOK C.w0 ρ w df → C.G m

section runs
variable {P : Program} {res : ALeave} {R : Post} {b : Frame} {cs : List Frame} {C : Ctx P res R b cs} {df : List Deferred}
theorem Runs.step {n : Nat} {ρ : Ren} {w : World} {m m1 : Machine} (h : step P m = .next m1) (h' : Runs C n ρ w df m1) : Runs C n ρ w df m :=
  fun h1 h2 h3 => C.closed _ _ h (h' h1 h2 h3)

theorem back_n {G : Machine → Prop} (hc : ∀ m m1, Go.step P m = .next m1 → G m1 → G m) {m m1 : Machine} (h : Steps P m m1) (h' : G m1) : G m := by
  obtain ⟨n, h⟩ := h
  induction n generalizing m with
  | zero => simp only [runN] at h; cases h; exact h'
  | succ n ih =>
    simp only [runN] at h
    split at h
    · rename_i m2 h2; exact hc _ _ h2 (ih h)
    · simp_all

theorem Runs.steps {n : Nat} {ρ : Ren} {w : World} {m m1 : Machine} (h : Steps P m m1) (h' : Runs C n ρ w df m1) : Runs C n ρ w df m :=
  fun h1 h2 h3 => back_n C.closed h (h' h1 h2 h3)

/-- From a later world on. -/
theorem Runs.later {n n1 : Nat} {ρ ρ1 : Ren} {w w1 : World} {m : Machine} (he : Ext n ρ w ρ1 w1) (hn : n ≤ n1) (h : Runs C n1 ρ1 w1 df m) : Runs C n ρ w df m :=
  fun h1 h2 h3 => h (Nat.le_trans h1 hn) (h2.trans he h1) (h3.later he)
end runs

theorem aexit_rel {P : Program} {id : Nat} : ∀ {k : List AItem} {k' : List Item} {k1 : List AItem}, KRel0 P k k' → aexit id k = some k1 → ∃ k1', exitTo id k' = some k1' ∧ KRel0 P k1 k1'
  | [], _, _, _, h => by simp [aexit] at h
  | .inBlock id' :: k, k', k1, hk, h => by
    obtain ⟨m, rfl, hm⟩ := hk
    simp only [aexit] at h
    simp only [exitTo]
    split at h
    · rename_i e; cases h; exact ⟨m, by simp [e], hm⟩
    · rename_i e; obtain ⟨k1', h1, h2⟩ := aexit_rel hm h; exact ⟨k1', by simp [e, h1], h2⟩
  | .code c :: k, k', k1, hk, h => by
    obtain ⟨c', m, rfl, _, hm⟩ := hk
    simp only [aexit] at h
    obtain ⟨k1', h1, h2⟩ := aexit_rel hm h; exact ⟨k1', by simp [exitTo, h1], h2⟩
  | .inLoop c :: k, k', k1, hk, h => by
    obtain ⟨c', m, rfl, _, hm⟩ := hk
    simp only [aexit] at h
    obtain ⟨k1', h1, h2⟩ := aexit_rel hm h; exact ⟨k1', by simp [exitTo, h1], h2⟩
  | .inScope c :: k, k', k1, hk, h => by
    obtain ⟨c', m, rfl, _, hm⟩ := hk
    simp only [aexit] at h
    obtain ⟨k1', h1, h2⟩ := aexit_rel hm h; exact ⟨k1', by simp [exitTo, h1], h2⟩
  | .mark :: k, k', k1, hk, h => by
    simp only [aexit] at h
    exact aexit_rel (k := k) hk h
  | .begin :: k, k', k1, hk, h => by
    obtain ⟨m, rfl, hm⟩ := hk
    simp only [aexit] at h
    obtain ⟨k1', h1, h2⟩ := aexit_rel hm h; exact ⟨k1', by simp [exitTo, h1], h2⟩
  | .inReg _ _ _ :: k, _, _, hk, _ => hk.elim

theorem aexit_none {P : Program} {id : Nat} : ∀ {k : List AItem} {k' : List Item}, KRel0 P k k' → aexit id k = none → exitTo id k' = none
  | [], _, hk, _ => by have : _ = [] := hk; subst this; rfl
  | .inBlock id' :: k, k', hk, h => by
    obtain ⟨m, rfl, hm⟩ := hk
    simp only [aexit] at h
    simp only [exitTo]
    split at h
    · cases h
    · rename_i e; simp only [e]; exact aexit_none hm h
  | .code c :: k, k', hk, h => by
    obtain ⟨c', m, rfl, _, hm⟩ := hk
    simp only [aexit] at h
    simp only [exitTo]; exact aexit_none hm h
  | .inLoop c :: k, k', hk, h => by
    obtain ⟨c', m, rfl, _, hm⟩ := hk
    simp only [aexit] at h
    simp only [exitTo]; exact aexit_none hm h
  | .inScope c :: k, k', hk, h => by
    obtain ⟨c', m, rfl, _, hm⟩ := hk
    simp only [aexit] at h
    simp only [exitTo]; exact aexit_none hm h
  | .begin :: k, k', hk, h => by
    obtain ⟨m, rfl, hm⟩ := hk
    simp only [aexit] at h
    simp only [exitTo]; exact aexit_none hm h
  | .mark :: k, k', hk, h => by
    simp only [aexit] at h
    exact aexit_none (k := k) hk h
  | .inReg _ _ _ :: k, _, hk, _ => hk.elim

theorem Marks.rel {P : Program} {k k' : List AItem} (h : Marks k k') : ∀ {m : List Item}, KRel0 P k m → KRel0 P k' m := by
  induction h with
  | refl => intro m hm; exact hm
  | cons x _ ih =>
    intro m hm
    cases x with
    | code c => obtain ⟨c', m', h1, h2, h3⟩ := hm; exact ⟨c', m', h1, h2, ih h3⟩
    | inBlock id => obtain ⟨m', h1, h3⟩ := hm; exact ⟨m', h1, ih h3⟩
    | inLoop b => obtain ⟨c', m', h1, h2, h3⟩ := hm; exact ⟨c', m', h1, h2, ih h3⟩
    | inScope b => obtain ⟨c', m', h1, h2, h3⟩ := hm; exact ⟨c', m', h1, h2, ih h3⟩
    | mark => exact ih (m := m) hm
    | begin => obtain ⟨m', h1, h3⟩ := hm; exact ⟨m', h1, ih h3⟩
    | inReg => exact hm.elim
  | mark _ ih => intro m hm; exact ih (m := m) hm

theorem run_loadVar' {P : Program} {ρ : Ren} {H : Heap} {w : World} (hH : HRel ρ H w) {t : TypeId} {g : Bool} {n : Nat} (hg : aggB P t = some g) (hn : szOf P t = some n) {x v x' : Value} (hx : VRel ρ x x')
    (h : loadE H g n x = some v) : ∃ v', (do loadVar t (← asAddr x') : Sem Value).run P w = .ok v' w ∧ VRel ρ v v' := by
  unfold loadE at h
  split at h <;> first | (simp at h; done) | skip
  rename_i b off
  obtain ⟨b', rfl, hρ, ob, ob', h1, h2, h3⟩ := ptr_rel hH hx
  simp only [h1] at h
  split at h <;> first | (simp at h; done) | skip
  rename_i c ty fz hob
  cases hob
  obtain ⟨c', rfl, h4⟩ := h3
  cases g with
  | true =>
    simp only [if_true] at h
    split at h <;> first | (simp at h; done) | skip
    rename_i hle
    cases h
    have := h4.length
    refine ⟨.agg ((c'.toList.drop off).take n).toArray, ?_, by simp only [VRel]; exact ⟨_, rfl, by rw [ARel_iff]; exact (h4.drop off).take n⟩⟩
    simp [asAddr, loadVar, run_isAgg' hg, run_sizeOf' hn, run_loadCells P w b' off n c' ty fz h2 (by rw [← Array.length_toList, this]; exact hle)]
  | false =>
    simp only [Bool.false_eq_true, if_false] at h
    obtain ⟨u', hu', hr⟩ := h4.get h
    rw [Array.getElem?_toList] at hu'
    refine ⟨u', ?_, hr⟩
    simp only [asAddr, loadVar, Sem.run_bind, Sem.run_pure, run_isAgg' hg, Result.andThen_ok, Bool.false_eq_true, if_false, run_load_row P w b' off c' ty fz u' h2 hu']

theorem getD_rel {ρ : Ren} {tm : List Value} {a : Act} (ht : LRel ρ tm a.tmps.toList) (i : Nat) : VRel ρ (tm.getD i junk) (a.tmps.getD i Go.undef) :=
  cOpd_ev (x := .tmp i) (y := .t i) ht rfl

def resVar (tmps : Array Value) : ResultVar → Sem Value
  | .tmp t => pure (tmps.getD t Go.undef)
  | .cell a t => do loadVar t (← asAddr (tmps.getD a Go.undef))
theorem results_eq (fn : Func) (tmps : Array Value) : results fn tmps = (do
    let vs ← fn.results.mapM (resVar tmps)
    pure (if h : vs.size = 1 then vs[0] else .tuple vs)) := rfl

theorem run_results {P : Program} {ρ : Ren} {H : Heap} {w : World} {tm : List Value} {a : Act} (hH : HRel ρ H w) (ht : LRel ρ tm a.tmps.toList) {fn : Func} {res : List ARes} (hr : cRess P fn.results.toList = some res)
    {v : Value} (h : resE tm H res = some v) : ∃ v', (results fn a.tmps).run P w = .ok v' w ∧ VRel ρ v v' := by
  have key : ∀ (l : List ResultVar) (rs : List ARes) (vs : List Value), cRess P l = some rs → resL tm H rs = some vs → ∃ vs', (l.mapM (resVar a.tmps) : Sem (List Value)).run P w = .ok vs' w ∧ LRel ρ vs vs' := by
    intro l
    induction l with
    | nil =>
      intro rs vs h1 h2
      simp only [cRess, Option.some.injEq] at h1; subst h1
      simp only [resL, Option.some.injEq] at h2; subst h2
      exact ⟨[], by simp, by simp [LRel]⟩
    | cons x l ih =>
      intro rs vs h1 h2
      simp only [cRess] at h1
      split at h1 <;> first | (simp at h1; done) | skip
      rename_i r m hx hl
      cases h1
      simp only [resL] at h2
      split at h2 <;> first | (simp at h2; done) | skip
      rename_i v1 vs1 hv hvs
      cases h2
      obtain ⟨vs', g1, g2⟩ := ih m vs1 hl hvs
      cases x with
      | tmp t =>
        simp only [cRes, Option.some.injEq] at hx; subst hx
        simp only [ARes.ev, Option.some.injEq] at hv; subst hv
        refine ⟨a.tmps.getD t Go.undef :: vs', ?_, ?_⟩
        · simp only [List.mapM_cons, Sem.run_bind, Sem.run_pure, Result.andThen_ok, resVar, g1]
        · simp only [LRel]; exact ⟨_, _, rfl, getD_rel ht t, g2⟩
      | cell c t =>
        simp only [cRes] at hx
        split at hx <;> first | (simp at hx; done) | skip
        rename_i g n hg hn
        cases hx
        simp only [ARes.ev] at hv
        obtain ⟨v', k1, k2⟩ := run_loadVar' hH hg hn (getD_rel ht c) hv
        refine ⟨v' :: vs', ?_, by simp only [LRel]; exact ⟨_, _, rfl, k2, g2⟩⟩
        simp only [List.mapM_cons, Sem.run_bind, resVar] at k1 ⊢
        rw [k1]
        simp only [Result.andThen_ok, g1, Sem.run_pure]
  unfold resE at h
  split at h <;> first | (simp at h; done) | skip
  · rename_i u hu
    cases h
    obtain ⟨vs', g1, g2⟩ := key _ _ _ hr hu
    simp only [LRel] at g2; obtain ⟨u', k, rfl, g3, g4⟩ := g2; subst g4
    refine ⟨u', ?_, g3⟩
    rw [results_eq]
    rw [Array.mapM_eq_mapM_toList]
    simp only [Sem.run_bind, Sem.run_map, g1, Result.andThen_ok]
    simp
  · rename_i m hne hu
    cases h
    obtain ⟨vs', g1, g2⟩ := key _ _ _ hr hu
    refine ⟨.tuple vs'.toArray, ?_, by simp only [VRel]; exact .inr (.inr ⟨_, rfl, by rw [ARel_iff]; exact g2⟩)⟩
    rw [results_eq]
    rw [Array.mapM_eq_mapM_toList]
    simp only [Sem.run_bind, Sem.run_map, g1, Result.andThen_ok]
    have hlen := g2.length
    have : ¬ vs'.toArray.size = 1 := by
      intro h1
      simp at h1
      rw [hlen] at h1
      match m, h1 with
      | [x], _ => exact hne x rfl
    have this' : vs'.length ≠ 1 := by simpa using this
    simp [this']

section ops
variable {P : Program} {n0 n : Nat} {ρ : Ren} {H : Heap} {w : World} {tm : List Value} {a : Act}

theorem gOK_wanted (ht : LRel ρ tm a.tmps.toList) {ops : Array Oper} {o : Oper} {g : Option (Nat × Bool)} (hg : cGuard ops o.guard = some g) {b : Bool} (h : gOK tm g = some b) :
    Region.wanted o (yielded ops a.tmps) = b := by
  unfold Region.wanted
  cases ho : o.guard with
  | none =>
    simp only [ho, cGuard, Option.some.injEq] at hg; subst hg
    simp only [gOK, Option.some.injEq] at h; simp [h]
  | some x =>
    obtain ⟨j, want⟩ := x
    simp only [ho, cGuard] at hg
    split at hg <;> first | (simp at hg; done) | skip
    rename_i t hj
    cases hg
    simp only [gOK] at h
    split at h <;> first | (simp at h; done) | skip
    rename_i c hc
    cases h
    have e := getD_rel ht t
    rw [hc] at e
    simp only [VRel] at e
    have : a.tmps[t]? = some (.bool c) := by
      rw [Array.getD_eq_getD_getElem?] at e
      cases hx : a.tmps[t]? with
      | none => rw [hx] at e; simp [Go.undef] at e
      | some u => rw [hx] at e; simp at e; rw [e]
    simp [yielded, hj, this]

theorem put_rel (ht : LRel ρ tm a.tmps.toList) {d : Option Nat} {v v' : Value} (hv : VRel ρ v v') : LRel ρ (put tm d v) (a.put d v').tmps.toList := by
  cases d with
  | none => exact ht
  | some d => simpa [put, Act.put] using ht.set d hv

variable {b : Frame} {k : List Item} {cs : List Frame} {ops : Array Oper} {i : Nat} {rest : List Nat} {o : Oper}

theorem fin_at (ho : ops[i]? = some o) (v : Value) : (b.atR a (.inRegion ops (i :: rest) :: k)).finish v = b.atR (a.put o.dst v) (.inRegion ops rest :: k) := by
  rw [Frame.finish_atR, ho]; rfl

theorem step_value (hnd : ∀ c, o.op ≠ .defer c) (ho : ops[i]? = some o) (hw : Region.wanted o (yielded ops a.tmps) = true) {r : Next} {v : Value} {w' : World} (hr : (execOp a.eval o).run P w = .ok r w')
    (hv : r = .value v ∨ (r = .skip ∧ v = Go.undef)) : step P (lone (b.atR a (.inRegion ops (i :: rest) :: k)) cs w) = .next (lone (b.atR (a.put o.dst v) (.inRegion ops rest :: k)) cs w') := by
  refine step_lone_go ?_
  rw [stepGR_op ho hw, Oper.semAt_eq _ _ _ hnd, ← fin_at ho]
  rcases hv with rfl | ⟨rfl, rfl⟩ <;> simp [stepG.apply, hr]

theorem step_enter (hnd : ∀ c, o.op ≠ .defer c) (ho : ops[i]? = some o) (hw : Region.wanted o (yielded ops a.tmps) = true) {f : FuncId} {args : Array Value} {w' : World} (hr : (execOp a.eval o).run P w = .ok (.enter f args) w') :
    step P (lone (b.atR a (.inRegion ops (i :: rest) :: k)) cs w) = .next (lone (Frame.enter P f args .normal) (b.atR a (.inRegion ops (i :: rest) :: k) :: cs) w') :=
  step_lone_go (by rw [stepGR_op ho hw, Oper.semAt_eq _ _ _ hnd]; simp [stepG.apply, hr, Frame.atR])

theorem step_round (hnd : ∀ c, o.op ≠ .defer c) (ho : ops[i]? = some o) (hw : Region.wanted o (yielded ops a.tmps) = true) {l f : Nat} {tmps : Array Value} {as bd : Code} {w' : World} (hr : (execOp a.eval o).run P w = .ok (.round l f tmps as bd) w') :
    step P (lone (b.atR a (.inRegion ops (i :: rest) :: k)) cs w) = .next (lone (Frame.round l f tmps as bd .normal) (b.atR a (.inRegion ops (i :: rest) :: k) :: cs) w') :=
  step_lone_go (by rw [stepGR_op ho hw, Oper.semAt_eq _ _ _ hnd]; simp [stepG.apply, hr, Frame.atR])

theorem step_panic (hnd : ∀ c, o.op ≠ .defer c) (ho : ops[i]? = some o) (hw : Region.wanted o (yielded ops a.tmps) = true) {v : Value} {w' : World} (hr : (execOp a.eval o).run P w = .halt (.panic v) w') :
    step P (lone (b.atR a (.inRegion ops (i :: rest) :: k)) cs w) = .next (lone { b.atR a (.inRegion ops (i :: rest) :: k) with mode := .panicking [{ v, recovered := false }] } cs w') :=
  step_lone_go (by rw [stepGR_op ho hw, Oper.semAt_eq _ _ _ hnd, ← Frame.raise_atR]; simp [stepG.apply, hr])

theorem nd_sim {p : AOp} {op : Op} (hc : cop P i op = some p) (h : ∀ f args, p ≠ .defer f args) : ∀ c, op ≠ .defer c := by
  rintro ⟨callee, args, ts⟩ rfl
  cases callee <;> simp only [cop] at hc <;> first | (simp at hc; done) | skip
  split at hc <;> first | (simp at hc; done) | skip
  cases hc; exact h _ _ rfl

/-- The operation at the head of a region is the compiled one. -/
theorem cOper_op {p : AOp} (h : (cOper0 P ops i).op = p) (hp : p ≠ .bad) : ∃ o, ops[i]? = some o ∧ cop P i o.op = some p ∧ (cOper0 P ops i).dst = o.dst ∧ cGuard ops o.guard = some (cOper0 P ops i).guard := by
  unfold cOper0 at h ⊢
  cases ho : ops[i]? with
  | none => simp only [ho] at h; exact absurd h.symm hp
  | some o =>
    simp only [ho] at h ⊢
    cases hg : cGuard ops o.guard with
    | none => simp only [hg] at h; exact absurd h.symm hp
    | some g =>
      cases hc : cop P i o.op with
      | none => simp only [hg, hc] at h; exact absurd h.symm hp
      | some p' => simp only [hg, hc] at h ⊢; exact ⟨o, rfl, by rw [hc, h], rfl, hg⟩

theorem cop_call {op : Op} {f : Opd} {args : List Opd} (h : cop P i op = some (.call f args)) : ∃ f' args' ts, op = .call { callee := .value f', args := args', argTypes := ts } ∧ cOpd f' = some f ∧ cOpds args'.toList = some args := by
  cases op with
  | call c =>
    obtain ⟨callee, args', ts⟩ := c
    cases callee with
    | value f' =>
      simp only [cop] at h; split at h <;> first | (simp at h; done) | skip
      rename_i hf ha; cases h; exact ⟨f', args', ts, rfl, hf, ha⟩
    | invoke r m => simp [cop] at h
    | builtin b =>
      exfalso
      simp only [cop] at h
      repeat' (first | (simp at h; done) | (obtain ⟨_, _, h⟩ := map_some_eq h; simp at h; done) | split at h)
  | defer c =>
    exfalso
    obtain ⟨callee, args', ts⟩ := c
    cases callee with
    | value f' => simp only [cop] at h; split at h <;> simp at h
    | invoke r m => simp [cop] at h
    | builtin b => simp [cop] at h
  | _ =>
    exfalso
    simp only [cop] at h
    repeat' (first | (simp at h; done) | (obtain ⟨_, _, h⟩ := map_some_eq h; simp at h; done) | split at h)

theorem cop_append {op : Op} {k : Nat} {e : TypeId} {z : List Value} {bytes : Nat} {s x : Opd} (h : cop P i op = some (.append k e z bytes s x)) :
    ∃ s' x' t u ti d, op = .call { callee := .builtin .append, args := #[s', x'], argTypes := #[t, u] } ∧ k = i ∧ P.underlying t = some (.slice e) ∧ P.underlying u = some d ∧ (∀ kk, d ≠ .int kk) ∧
      P.info? e = some ti ∧ zeroL P e = some z ∧ 0 < ti.size ∧ z.length = ti.size ∧ 0 < ti.bytes ∧ bytes = ti.bytes ∧ cOpd s' = some s ∧ cOpd x' = some x := by
  cases op with
  | call c =>
    obtain ⟨callee, args', ts⟩ := c
    cases callee with
    | value f' => exfalso; simp only [cop] at h; split at h <;> simp at h
    | invoke r m => simp [cop] at h
    | builtin b =>
      simp only [cop] at h
      split at h
      case h_6 =>
        rename_i t' u' hxs hts
        obtain ⟨s', x', rfl, h1, h2⟩ := cOpds_two hxs
        split at h <;> first | (simp at h; done) | skip
        rename_i d hni hu hd
        split at h <;> first | (simp at h; done) | skip
        rename_i ti z' hti hz
        split at h <;> first | (simp at h; done) | skip
        rename_i hc
        cases h
        have : ts = #[t', u'] := by apply Array.toList_inj.1; simpa using hts
        exact ⟨s', x', t', u', ti, d, by rw [this], rfl, hu, hd, fun kk hk => hni kk hk, hti, hz, hc.1, hc.2.1, hc.2.2, rfl, h1, h2⟩
      all_goals
        exfalso
        repeat' (first | (simp at h; done) | (obtain ⟨_, _, h⟩ := map_some_eq h; simp at h; done) | split at h)
  | defer c =>
    exfalso
    obtain ⟨callee, args', ts⟩ := c
    cases callee with
    | value f' => simp only [cop] at h; split at h <;> simp at h
    | invoke r m => simp [cop] at h
    | builtin b => simp [cop] at h
  | _ =>
    exfalso
    simp only [cop] at h
    repeat' (first | (simp at h; done) | (obtain ⟨_, _, h⟩ := map_some_eq h; simp at h; done) | split at h)

theorem cop_strBytes {op : Op} {k : Nat} {e : TypeId} {x : Opd} (h : cop P i op = some (.strBytes k e x)) :
    ∃ s d x', op = .convert s d x' ∧ k = i ∧ P.underlying s = some .string ∧ P.underlying d = some (.slice e) ∧ P.underlying e = some (.int .u8) ∧ cOpd x' = some x := by
  cases op with
  | convert s d x' =>
    simp only [cop] at h
    split at h <;> first | (simp at h; done) | skip
    rename_i hs hd hx
    split at h <;> first | (simp at h; done) | skip
    rename_i he
    cases h
    exact ⟨s, d, x', rfl, rfl, hs, hd, he, hx⟩
  | call c =>
    exfalso
    obtain ⟨callee, args', ts⟩ := c
    cases callee with
    | value f' => simp only [cop] at h; split at h <;> simp at h
    | invoke r m => simp [cop] at h
    | builtin b =>
      simp only [cop] at h
      repeat' (first | (simp at h; done) | (obtain ⟨_, _, h⟩ := map_some_eq h; simp at h; done) | split at h)
  | defer c =>
    exfalso
    obtain ⟨callee, args', ts⟩ := c
    cases callee with
    | value f' => simp only [cop] at h; split at h <;> simp at h
    | invoke r m => simp [cop] at h
    | builtin b => simp [cop] at h
  | _ =>
    exfalso
    simp only [cop] at h
    repeat' (first | (simp at h; done) | (obtain ⟨_, _, h⟩ := map_some_eq h; simp at h; done) | split at h)

theorem cop_panic {op : Op} {x : Opd} (h : cop P i op = some (.panic x)) :
    ∃ x', cOpd x' = some x ∧ (op = .panic x' ∨ ∃ ts, op = .call { callee := .builtin .panic, args := #[x'], argTypes := ts }) := by
  cases op with
  | panic x' => simp only [cop] at h; obtain ⟨y, hy, h⟩ := map_some_eq h; cases h; exact ⟨x', hy, .inl rfl⟩
  | call c =>
    obtain ⟨callee, args', ts⟩ := c
    cases callee with
    | value f' => exfalso; simp only [cop] at h; split at h <;> simp at h
    | invoke r m => simp [cop] at h
    | builtin b =>
      simp only [cop] at h
      split at h
      case h_7 =>
        rename_i hxs
        cases h
        obtain ⟨x', rfl, h1⟩ := cOpds_one hxs
        exact ⟨x', h1, .inr ⟨_, rfl⟩⟩
      all_goals
        exfalso
        repeat' (first | (simp at h; done) | (obtain ⟨_, _, h⟩ := map_some_eq h; simp at h; done) | split at h)
  | defer c =>
    exfalso
    obtain ⟨callee, args', ts⟩ := c
    cases callee with
    | value f' => simp only [cop] at h; split at h <;> simp at h
    | invoke r m => simp [cop] at h
    | builtin b => simp [cop] at h
  | _ =>
    exfalso
    simp only [cop] at h
    repeat' (first | (simp at h; done) | (obtain ⟨_, _, h⟩ := map_some_eq h; simp at h; done) | split at h)
end ops
end Go.Ab
namespace Go.Ab
section ops
variable {P : Program} {n0 n i : Nat} {ρ : Ren} {H : Heap} {w : World} {tm : List Value} {a : Act} {o : Oper}

theorem zeroCells_eq (z : Array Value) (s n : Nat) (hs : z.size = s) (hs0 : 0 < s) : Builtin.zeroCells z n = (zeros z.toList n).toArray := by
  unfold Builtin.zeroCells zeros
  rw [hs, ← range_zero' z s n hs hs0, hs]

theorem ok_append (hH : HRel ρ H w) (ht : LRel ρ tm a.tmps.toList) {s' x' : Operand} {t u : TypeId} {ti : TypeInfo} {d : TypeDesc} {e : TypeId} {z : List Value} {s x : Opd} {v : Value} {eff : Eff}
    (ho : o.op = .call { callee := .builtin .append, args := #[s', x'], argTypes := #[t, u] }) (hu : P.underlying t = some (.slice e)) (hd : P.underlying u = some d) (hni : ∀ kk, d ≠ .int kk)
    (hti : P.info? e = some ti) (hz : zeroL P e = some z) (hs0 : 0 < ti.size) (hzs : z.length = ti.size) (h1 : cOpd s' = some s) (h2 : cOpd x' = some x)
    (h : appIn H z.length (s.ev tm) (x.ev tm) = some (v, eff)) : OpOK P n0 i ρ H w a o v eff := by
  have e1 := cOpd_ev ht h1; have e2 := cOpd_ev ht h2
  have hsz : szOf P e = some ti.size := by simp [szOf, hti]
  have hint : (match d with | .int _ => true | _ => false) = false := by cases d <;> first | exact absurd rfl (hni _) | rfl
  unfold appIn at h
  split at h <;> first | (simp at h; done) | skip
  · rename_i b off nn c xa m xc hs hx
    split at h <;> first | (simp at h; done) | skip
    rename_i hle
    split at h <;> first | (simp at h; done) | skip
    rename_i cs ty hob
    split at h <;> first | (simp at h; done) | skip
    rename_i l hl
    split at h <;> first | (simp at h; done) | skip
    rename_i hc
    simp only [Option.some.injEq, Prod.mk.injEq] at h; obtain ⟨rfl, rfl⟩ := h
    rw [hs] at e1; rw [hx] at e2
    rw [hzs] at hl hc
    obtain ⟨l', g1, g2⟩ := run_srcCells (P := P) hH hl e2 (fun _ _ _ => .inr trivial)
    obtain ⟨s2, k1, _, k2⟩ := slice_rel e1
    obtain ⟨b', rfl, _, k3⟩ := k2 _ rfl
    obtain ⟨x2, k4, _, _⟩ := slice_rel e2
    obtain ⟨ob, ob', j1, j2, j3⟩ := hH.obj _ _ k3
    simp only [hob, Option.some.injEq] at j1; subst j1
    obtain ⟨cs', rfl, j4⟩ := j3
    have hll := g2.length; have hlc := j4.length
    simp only [Array.length_toList] at hll hlc
    rw [k4] at g1
    refine ⟨.value (.slice (some ⟨b', off, none⟩) (nn + m) c), .slice (some ⟨b', off, none⟩) (nn + m) c, ρ, { w with heap := w.heap.setIfInBounds b' (.cells (splice cs'.toList (off + nn * ti.size + 0) l'.toList).toArray ty (0, 0)) }, ?_, .inl rfl,
      by simp only [VRel]; exact ⟨b', rfl, trivial, k3⟩, hH.write k3 ⟨_, rfl, by rw [hzs]; simpa using j4.splice (off + nn * ti.size) g2⟩, Ext.write k3 _, fun _ _ => rfl⟩
    simp only [execOp, ho, resolve, Sem.run_bind, Sem.run_pure, Result.andThen_ok, invoke, builtin, Builtin.append_, List.map_toArray, List.map_cons, List.map_nil, List.getElem?_toArray, List.getElem?_cons_zero, List.getElem?_cons_succ, run_underlying' hu, run_underlying' hd, k1, k4,
      run_sizeOf' hsz]
    cases d <;> first | exact absurd rfl (hni _) | skip
    all_goals
      simp only [Builtin.lenOf, Sem.run_bind, Sem.run_pure, Result.andThen_ok, Bool.false_eq_true, if_false, Bool.not_false, if_true, hle, g1, add_addr]
      rw [run_storeCells P b' (off + nn * ti.size) ty l'.toList 0 w cs' j2 (by simp; omega) (oneCells_rel g2 hc.2)]
      simp
  · rename_i nn c xa m xc hs hx
    split at h <;> first | (simp at h; done) | skip
    rename_i hle
    split at h <;> first | (simp at h; done) | skip
    rename_i l hl
    simp only [Option.some.injEq, Prod.mk.injEq] at h; obtain ⟨rfl, rfl⟩ := h
    rw [hs] at e1; rw [hx] at e2
    rw [hzs] at hl
    obtain ⟨l', g1, g2⟩ := run_srcCells (P := P) hH hl e2 (fun _ _ _ => .inr trivial)
    obtain ⟨s2, k1, k2, _⟩ := slice_rel e1
    have := k2 rfl; subst this
    obtain ⟨x2, k4, _, _⟩ := slice_rel e2
    rw [k4] at g1
    refine OpOK.pure (v' := .slice none (nn + m) c) hH ?_ (by simp only [VRel])
    simp only [execOp, ho, resolve, Sem.run_bind, Sem.run_pure, Result.andThen_ok, invoke, builtin, Builtin.append_, List.map_toArray, List.map_cons, List.map_nil, List.getElem?_toArray, List.getElem?_cons_zero, List.getElem?_cons_succ, run_underlying' hu, run_underlying' hd, k1, k4,
      run_sizeOf' hsz]
    cases d <;> first | exact absurd rfl (hni _) | skip
    all_goals
      simp only [Builtin.lenOf, Sem.run_bind, Sem.run_pure, Result.andThen_ok, Bool.false_eq_true, if_false, Bool.not_false, if_true, hle, g1]

/-- As 'OpOK', where the world has been asked once. -/
def OpOKd (P : Program) (n0 i : Nat) (ρ : Ren) (w : World) (a : Act) (o : Oper) (m : Nat) (f : Nat → Option (Value × Eff)) (H : Heap) : Prop :=
  ∃ cap, m ≤ cap ∧ cap < 2 ^ 63 ∧ ∀ v eff, f cap = some (v, eff) → OpOK P n0 i ρ H w a o v eff

theorem OpOK.of_new {v v' : Value} {x : AObj} {y : Obj} {w1 : World} (hH : HRel ρ H w) (hs : ρ (n0 + i) = none) (hw : w1 = { w with drawn := w.drawn + 1 })
    (h : (execOp a.eval o).run P w = .ok (.value v') (w1.alloc y)) (hx : ORel ρ x y)
    (hv : VRel (ρ.put (n0 + i) w.heap.size) v v') : OpOK P n0 i ρ H w a o v (some (n0 + i, x)) := by
  subst hw
  exact ⟨_, v', ρ.put (n0 + i) w.heap.size, _, h, .inl rfl, hv, (hH.drawn (w.drawn + 1)).alloc hs hx, (Ext.drawn n0 ρ w (w.drawn + 1)).trans (Ext.alloc (n := n0) hs (by omega) y) (Nat.le_refl _), fun j hj => by simp [Ren.put, hj]⟩

theorem ok_appNew (hH : HRel ρ H w) (hs : ρ (n0 + i) = none) (ht : LRel ρ tm a.tmps.toList) {s' x' : Operand} {t u : TypeId} {ti : TypeInfo} {d : TypeDesc} {e : TypeId} {z : List Value} {s x : Opd}
    (ho : o.op = .call { callee := .builtin .append, args := #[s', x'], argTypes := #[t, u] }) (hu : P.underlying t = some (.slice e)) (hd : P.underlying u = some d) (hni : ∀ kk, d ≠ .int kk)
    (hti : P.info? e = some ti) (hz : zeroL P e = some z) (hs0 : 0 < ti.size) (hzs : z.length = ti.size) (hb0 : 0 < ti.bytes) (h1 : cOpd s' = some s) (h2 : cOpd x' = some x)
    (hf : appFits ti.bytes (s.ev tm) (x.ev tm)) : OpOKd P n0 i ρ w a o (sliceNeed (s.ev tm) (x.ev tm)) (appNew n0 i e z H (s.ev tm) (x.ev tm)) H := by
  have e1 := cOpd_ev ht h1; have e2 := cOpd_ev ht h2
  have hsz : szOf P e = some ti.size := by simp [szOf, hti]
  unfold appFits at hf
  split at hf <;> first | exact hf.elim | skip
  rename_i sa nn c xa m xc hse hxe
  rw [hse] at e1; rw [hxe] at e2
  obtain ⟨hlt, hbig, hby⟩ := hf
  simp only [hse, hxe, sliceNeed]
  refine ⟨(Question.appendCap (nn + m) c e).cut (w.tape w.drawn (.appendCap (nn + m) c e)), ?_, ?_, ?_⟩
  · simp [Question.cut]
  · simp only [Question.cut]
    have := Nat.mod_lt (w.tape w.drawn (.appendCap (nn + m) c e)) (show 0 < 2 ^ 63 - (nn + m) by omega)
    omega
  · intro v eff hv
    generalize hcap : (Question.appendCap (nn + m) c e).cut (w.tape w.drawn (.appendCap (nn + m) c e)) = cap at hv
    simp only [appNew] at hv
    split at hv <;> first | (simp at hv; done) | skip
    rename_i l1 l2 hl1 hl2
    simp only [Option.some.injEq, Prod.mk.injEq] at hv; obtain ⟨rfl, rfl⟩ := hv
    rw [hzs] at hl1 hl2
    obtain ⟨p1, g1, g2⟩ := run_srcCells (P := P) (hH.drawn (w.drawn + 1)) hl1 e1 (fun _ _ _ => .inr trivial)
    obtain ⟨p2, g3, g4⟩ := run_srcCells (P := P) (hH.drawn (w.drawn + 1)) hl2 e2 (fun _ _ _ => .inr trivial)
    obtain ⟨s2, k1, _, _⟩ := slice_rel e1
    obtain ⟨x2, k4, _, _⟩ := slice_rel e2
    rw [k1] at g1; rw [k4] at g3
    obtain ⟨u0, z1, z2, z3⟩ := run_zeroValue' (ρ := ρ) (w := { w with drawn := w.drawn + 1 }) hz
    have hus : u0.cells.size = ti.size := by rw [← Array.length_toList, z2, hzs]
    refine OpOK.of_new (v' := .slice (some ⟨w.heap.size, 0, none⟩) (nn + m) cap) (y := .cells (p1 ++ p2 ++ (zeros z (cap - (nn + m))).toArray) e) hH hs rfl ?_ ⟨_, rfl, ?_⟩ (by simp [VRel, Ren.put])
    · simp only [execOp, ho, resolve, Sem.run_bind, Sem.run_pure, Result.andThen_ok, invoke, builtin, Builtin.append_, List.map_toArray, List.map_cons, List.map_nil, List.getElem?_toArray, List.getElem?_cons_zero, List.getElem?_cons_succ, run_underlying' hu, run_underlying' hd, k1, k4,
        run_sizeOf' hsz]
      cases d <;> first | exact absurd rfl (hni _) | skip
      all_goals
        simp only [Builtin.lenOf, Sem.run_bind, Sem.run_pure, Result.andThen_ok, Bool.false_eq_true, if_false, Bool.not_false, if_true]
        rw [if_neg (show ¬ (nn + m ≤ c) by omega)]
        simp only [Sem.run_bind, run_typeInfo' hti, Result.andThen_ok]
        rw [if_neg (by simp only [false_or]; intro hh; omega)]
        simp only [Sem.run_bind, Sem.run_pure, run_typeInfo' hti, Result.andThen_ok]
        rw [if_neg (by omega)]
        simp only [Sem.run_bind, Sem.run_pure, run_typeInfo' hti, Result.andThen_ok, run_choose, Question.forced, Bool.false_eq_true, if_false, hcap, run_askRoom, g1, g3, z1]
        rw [zeroCells_eq u0.cells ti.size _ hus hs0, z2]
        simp only [newRow, Sem.run_bind, run_newObj, Sem.run_pure, Result.andThen_ok]; rfl
    · simp only [Array.toList_append]
      exact (g2.append g4).append (z3.flatten_replicate _)

theorem ok_strBytes (hH : HRel ρ H w) (hs : ρ (n0 + i) = none) (ht : LRel ρ tm a.tmps.toList) {ts d e : TypeId} {x' : Operand} {x : Opd} {t : ByteArray}
    (ho : o.op = .convert ts d x') (hts : P.underlying ts = some .string) (hd : P.underlying d = some (.slice e)) (he : P.underlying e = some (.int .u8)) (h1 : cOpd x' = some x) (hx : x.ev tm = .string t) (hb : t.size < 2 ^ 62) :
    ∃ cap, t.size ≤ cap ∧ cap < 2 ^ 63 ∧ OpOK P n0 i ρ H w a o (.slice (some ⟨n0 + i, 0, none⟩) t.size cap)
      (some (n0 + i, .cells (t.data.toList.map (fun b : UInt8 => Value.int .u8 b.toNat) ++ List.replicate (cap - t.size) (.int .u8 0)) e (cap, cap + 1))) := by
  have e1 := cOpd_ev ht h1
  rw [hx] at e1; simp only [VRel] at e1
  refine ⟨(Question.appendCap t.size 0 e).cut (w.tape w.drawn (.appendCap t.size 0 e)), by simp [Question.cut], ?_, ?_⟩
  · simp only [Question.cut]
    have := Nat.mod_lt (w.tape w.drawn (.appendCap t.size 0 e)) (show 0 < 2 ^ 63 - t.size by omega)
    omega
  · generalize hcap : (Question.appendCap t.size 0 e).cut (w.tape w.drawn (.appendCap t.size 0 e)) = cap
    have hle : t.size ≤ cap := by rw [← hcap]; simp [Question.cut]
    have hsz : (t.data.map (fun b : UInt8 => Value.int .u8 b.toNat) ++ Array.replicate (cap - t.size) (Value.int .u8 0)).size = cap := by
      have : t.data.size = t.size := rfl
      simp [this]; omega
    refine OpOK.of_new (w1 := { w with drawn := w.drawn + 1 }) (v' := .slice (some ⟨w.heap.size, 0, none⟩) t.size cap) (y := .cells (t.data.map (fun b : UInt8 => Value.int .u8 b.toNat) ++ Array.replicate (cap - t.size) (Value.int .u8 0)) e (cap, cap + 1)) hH hs rfl ?_ ⟨_, rfl, ?_⟩ (by simp [VRel, Ren.put])
    · simp only [execOp, ho, convert, Sem.run_bind, run_underlying' hts, run_underlying' hd, run_underlying' he, Result.andThen_ok, e1, Conv.stringToBytes, run_choose, Question.forced, Bool.false_eq_true, if_false, hcap, newRow, run_newObj, Sem.run_pure,
        markStringish, run_shape, World.shape?, Array.getElem?_push_size, run_freeze]
      congr 1
      simp only [World.freeze, World.alloc, Nat.succ_ne_zero, if_false, hsz]
      congr 1
      apply Array.ext_getElem?
      intro j
      rw [Array.getElem?_modify]
      by_cases hj : w.heap.size = j
      · subst hj; simp
      · simp only [hj, if_false]
        simp only [Array.getElem?_push]
        have : ¬ j = w.heap.size := fun h => hj h.symm
        simp [this]
    · simp only [Array.toList_append, Array.toList_map, Array.toList_replicate]
      refine LRel.append (LRel.map fun b _ => by simp only [VRel]) (LRel.replicate (by simp only [VRel]) _)
end ops
end Go.Ab

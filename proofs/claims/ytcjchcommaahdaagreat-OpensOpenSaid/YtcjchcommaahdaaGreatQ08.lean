/- What the abstract machine says is so of the model's. No conditions. -/
import Derived.Test.YtcjchcommaahdaaGreatQ07
set_option maxRecDepth 20000
set_option maxHeartbeats 4000000
set_option linter.all false
namespace Go.Ab

theorem callFunc_run {P : Program} {f : FuncId} {args : Array Value} {w : World} {r : Next} {w1 : World} (h : (callFunc f args).run P w = .ok r w1) : True := trivial

theorem apLike_of {p : AOp} (h : storeLike p = true) : apLike p = true := by cases p <;> first | rfl | exact h
section sound
variable {P : Program}

theorem exec_call {o : Oper} {a : Act} {w : World} {f' : Operand} {args' : Array Operand} {ts : Array TypeId} (ho : o.op = .call { callee := .value f', args := args', argTypes := ts }) {g : FuncId} {first cap : Array Value}
    (hf : a.eval f' = .func (.func g) first cap) : (execOp a.eval o).run P w = (callFunc g (first ++ args'.map a.eval ++ cap)).run P w := by
  simp [execOp, ho, resolve, hf, Deferred.ofValue, invoke]


theorem exec_yield {o : Oper} {a : Act} {w : World} {f' : Operand} {args' : Array Operand} {ts : Array TypeId} (ho : o.op = .call { callee := .value f', args := args', argTypes := ts }) {l : Nat} {first cap : Array Value}
    (hf : a.eval f' = .func (.yield l) first cap) : (execOp a.eval o).run P w = (Instr.yield l (first ++ args'.map a.eval)).run P w := by
  simp [execOp, ho, resolve, hf, Deferred.ofValue, invoke]

theorem store_eff {n0 : Nat} {tm : List Value} {H : Heap} {n : Nat} {x z : Opd} {v : Value} {eff : Eff} (h : sim n0 tm H (.store n x z) = some (v, eff)) :
    ∃ b off o, x.ev tm = .pointer (some ⟨b, off, none⟩) ∧ eff = some (b, o) := by
  simp only [sim] at h
  split at h <;> first | (simp at h; done) | skip
  rename_i b off hv
  split at h <;> first | (simp at h; done) | skip
  split at h <;> first | (simp at h; done) | skip
  simp only [Option.some.injEq, Prod.mk.injEq] at h
  exact ⟨b, off, _, hv, h.2.symm⟩

theorem eff_clean {n0 n : Nat} {tm : List Value} {H : Heap} (hC : Clean H n) {p : AOp} {v : Value} {eff : Eff} (h : sim n0 tm H p = some (v, eff)) (hk : ∀ k, slotIx p = some k → n0 + k < n) : Clean (eff.app H) n := by
  have key : ∀ b o, eff = some (b, o) → b < n := by
    intro b o he
    by_cases hl : lazyOp p = true
    · rcases sim_eff hl h with h1 | ⟨k, x, h1, h2⟩
      · rw [h1] at he; cases he
      · rw [h2] at he; simp only [Option.some.injEq, Prod.mk.injEq] at he; have := hk k h1; omega
    · have hlt : ∀ b, H b ≠ none → b < n := by
        intro b hb
        by_cases hlt : b < n
        · exact hlt
        · exact absurd (hC b (by omega)) hb
      cases p <;> first | (exfalso; exact hl rfl) | (simp [sim] at h; done) | skip
      case store m x z =>
        simp only [sim] at h
        split at h <;> first | (simp at h; done) | skip
        split at h <;> first | (simp at h; done) | skip
        rename_i hob
        split at h <;> first | (simp at h; done) | skip
        simp only [Option.some.injEq, Prod.mk.injEq] at h
        rw [← h.2] at he; simp only [Option.some.injEq, Prod.mk.injEq] at he
        rw [← he.1]; exact hlt _ (by rw [hob]; simp)
      case copy m x z =>
        simp only [sim] at h
        split at h <;> first | (simp at h; done) | skip
        · split at h <;> first | (simp at h; done) | skip
          rename_i hob
          split at h <;> first | (simp at h; done) | skip
          split at h <;> first | (simp at h; done) | skip
          simp only [Option.some.injEq, Prod.mk.injEq] at h
          rw [← h.2] at he; simp only [Option.some.injEq, Prod.mk.injEq] at he
          rw [← he.1]; exact hlt _ (by rw [hob]; simp)
        · split at h <;> first | (simp at h; done) | skip
          simp only [Option.some.injEq, Prod.mk.injEq] at h
          rw [← h.2] at he; cases he
  cases eff with
  | none => exact hC
  | some x =>
    obtain ⟨b, o⟩ := x
    intro i hi
    have := key b o rfl
    simp only [Eff.app, upd]
    rw [if_neg (by omega)]; exact hC i hi

theorem cCode_skip {P : Program} {c' : Code} (hc : cCode P c' = .skip) : c' = .skip ∨ ∃ l, c' = .label l := by
  cases c' with
  | region id ops d =>
    simp only [cCode] at hc
    cases d
    · simp at hc
    · simp only [if_true] at hc
      split at hc <;> simp at hc
  | cond c x y => simp only [cCode] at hc; split at hc <;> simp at hc
  | rangeFunc f ps a b => simp only [cCode] at hc; split at hc <;> simp at hc
  | skip => exact .inl rfl
  | label l => exact .inr ⟨l, rfl⟩
  | _ => simp [cCode] at hc
theorem cCode_seq {P : Program} {c' : Code} {a b : ACode} (hc : cCode P c' = .seq a b) : ∃ x y, c' = .seq x y ∧ cCode P x = a ∧ cCode P y = b := by
  cases c' with
  | region id ops d =>
    simp only [cCode] at hc
    cases d
    · simp at hc
    · simp only [if_true] at hc
      split at hc <;> simp at hc
  | cond c x y => simp only [cCode] at hc; split at hc <;> simp at hc
  | rangeFunc f ps a b => simp only [cCode] at hc; split at hc <;> simp at hc
  | seq x y => simp only [cCode, ACode.seq.injEq] at hc; exact ⟨x, y, rfl, hc.1, hc.2⟩
  | _ => simp [cCode] at hc
theorem cCode_block {P : Program} {c' : Code} {id : Nat} {b : ACode} (hc : cCode P c' = .block id b) : ∃ x, c' = .block id x ∧ cCode P x = b := by
  cases c' with
  | region id ops d =>
    simp only [cCode] at hc
    cases d
    · simp at hc
    · simp only [if_true] at hc
      split at hc <;> simp at hc
  | cond c x y => simp only [cCode] at hc; split at hc <;> simp at hc
  | rangeFunc f ps a b => simp only [cCode] at hc; split at hc <;> simp at hc
  | block i x => simp only [cCode, ACode.block.injEq] at hc; obtain ⟨rfl, h⟩ := hc; exact ⟨x, rfl, h⟩
  | _ => simp [cCode] at hc
theorem cCode_loop {P : Program} {c' : Code} {b : ACode} (hc : cCode P c' = .loop b) : ∃ x, c' = .loop x ∧ cCode P x = b := by
  cases c' with
  | region id ops d =>
    simp only [cCode] at hc
    cases d
    · simp at hc
    · simp only [if_true] at hc
      split at hc <;> simp at hc
  | cond c x y => simp only [cCode] at hc; split at hc <;> simp at hc
  | rangeFunc f ps a b => simp only [cCode] at hc; split at hc <;> simp at hc
  | loop x => simp only [cCode, ACode.loop.injEq] at hc; exact ⟨x, rfl, hc⟩
  | _ => simp [cCode] at hc
theorem cCode_scope {P : Program} {c' : Code} {b : ACode} (hc : cCode P c' = .scope b) : ∃ x, c' = .scope x ∧ cCode P x = b := by
  cases c' with
  | region id ops d =>
    simp only [cCode] at hc
    cases d
    · simp at hc
    · simp only [if_true] at hc
      split at hc <;> simp at hc
  | cond c x y => simp only [cCode] at hc; split at hc <;> simp at hc
  | rangeFunc f ps a b => simp only [cCode] at hc; split at hc <;> simp at hc
  | scope x => simp only [cCode, ACode.scope.injEq] at hc; exact ⟨x, rfl, hc⟩
  | _ => simp [cCode] at hc
theorem cCode_exit {P : Program} {c' : Code} {id : Nat} (hc : cCode P c' = .exit id) : c' = .exit id := by
  cases c' with
  | region id ops d =>
    simp only [cCode] at hc
    cases d
    · simp at hc
    · simp only [if_true] at hc
      split at hc <;> simp at hc
  | cond c x y => simp only [cCode] at hc; split at hc <;> simp at hc
  | rangeFunc f ps a b => simp only [cCode] at hc; split at hc <;> simp at hc
  | exit i => simp only [cCode, ACode.exit.injEq] at hc; rw [hc]
  | _ => simp [cCode] at hc
theorem cCode_ret {P : Program} {c' : Code} (hc : cCode P c' = .ret) : c' = .ret := by
  cases c' with
  | region id ops d =>
    simp only [cCode] at hc
    cases d
    · simp at hc
    · simp only [if_true] at hc
      split at hc <;> simp at hc
  | cond c x y => simp only [cCode] at hc; split at hc <;> simp at hc
  | rangeFunc f ps a b => simp only [cCode] at hc; split at hc <;> simp at hc
  | ret => rfl
  | _ => simp [cCode] at hc
theorem cCode_cond {P : Program} {c' : Code} {c : Opd} {a b : ACode} (hc : cCode P c' = .cond c a b) : ∃ c0 x y, c' = .cond c0 x y ∧ cOpd c0 = some c ∧ cCode P x = a ∧ cCode P y = b := by
  cases c' with
  | region id ops d =>
    simp only [cCode] at hc
    cases d
    · simp at hc
    · simp only [if_true] at hc
      split at hc <;> simp at hc
  | cond c0 x y =>
    simp only [cCode] at hc; split at hc <;> first | (simp at hc; done) | skip
    rename_i h; simp only [ACode.cond.injEq] at hc; obtain ⟨rfl, h1, h2⟩ := hc; exact ⟨c0, x, y, rfl, h, h1, h2⟩
  | rangeFunc f ps a b => simp only [cCode] at hc; split at hc <;> simp at hc
  | _ => simp [cCode] at hc
theorem cCode_region {P : Program} {c' : Code} {l : List AOper} {d : Bool} (hc : cCode P c' = .region l d) :
    ∃ id ops, c' = .region id ops d ∧ ((d = false ∧ l = (List.range ops.size).map (cOper0 P ops)) ∨ (d = true ∧ cRegion P ops = some l)) := by
  cases c' with
  | region id ops d0 =>
    simp only [cCode] at hc
    cases d0
    · simp only [Bool.false_eq_true, if_false, ACode.region.injEq] at hc; obtain ⟨h, rfl⟩ := hc; exact ⟨id, ops, rfl, .inl ⟨rfl, h.symm⟩⟩
    · simp only [if_true] at hc
      split at hc <;> first | (simp at hc; done) | skip
      rename_i l' hl; simp only [ACode.region.injEq] at hc; obtain ⟨rfl, rfl⟩ := hc; exact ⟨id, ops, rfl, .inr ⟨rfl, hl⟩⟩
  | cond c x y => simp only [cCode] at hc; split at hc <;> simp at hc
  | rangeFunc f ps a b => simp only [cCode] at hc; split at hc <;> simp at hc
  | _ => simp [cCode] at hc

theorem cCode_rangeFunc {P : Program} {c' : Code} {f : Opd} {ps : List Nat} {a b : ACode} (hc : cCode P c' = .rangeFunc f ps a b) : ∃ f' ps' x y, c' = .rangeFunc f' ps' x y ∧ cOpd f' = some f ∧ ps'.toList = ps ∧ cCode P x = a ∧ cCode P y = b := by
  cases c' with
  | rangeFunc f' ps' x y =>
    simp only [cCode] at hc
    split at hc <;> first | (simp at hc; done) | skip
    rename_i q hq
    simp only [ACode.rangeFunc.injEq] at hc
    obtain ⟨rfl, rfl, rfl, rfl⟩ := hc
    exact ⟨_, _, _, _, rfl, hq, rfl, rfl, rfl⟩
  | region i ops d =>
    simp only [cCode] at hc
    split at hc
    · split at hc <;> simp at hc
    · simp at hc
  | cond c x y => simp only [cCode] at hc; split at hc <;> simp at hc
  | _ => simp [cCode] at hc
theorem setPs_rel {ρ : Ren} : ∀ (ps : Array Nat) {tm : List Value} {ts : Array Value} {vs : List Value} {as : List Value} {ps0 : Array Nat}, LRel ρ tm ts.toList → LRel ρ vs as → ps0 = ps →
    LRel ρ (setPs tm ps.toList vs) ((ps0.zip as.toArray).foldl (fun t (p, v) => t.setIfInBounds p v) ts).toList := by
  rintro ⟨ps⟩ tm ts vs as ps0 ht hv rfl
  simp only [List.zip_toArray, List.foldl_toArray']
  induction ps generalizing tm ts vs as with
  | nil => simpa [setPs] using ht
  | cons p ps ih =>
    cases vs with
    | nil => simp only [LRel] at hv; subst hv; simpa [setPs] using ht
    | cons v vs =>
      simp only [LRel] at hv; obtain ⟨u, k, rfl, h1, h2⟩ := hv
      simp only [setPs, List.zip_cons_cons, List.foldl_cons]
      refine ih ?_ h2
      rw [Array.toList_setIfInBounds]
      exact ht.set p h1
theorem defOK_lt {w0 : World} {ρ : Ren} {w : World} : ∀ {ds : List Deferred} {d : Deferred}, DefOK w0 ρ w ds → d ∈ ds → ∃ D, d = { target := .collected D, args := #[] } ∧ D < w.heap.size
  | x :: ds, d, ⟨⟨D, h1, _, h3, _⟩, h6⟩, hd => by
    rcases List.mem_cons.1 hd with h | h
    · exact ⟨D, h ▸ h1, (Array.getElem?_eq_some_iff.1 h3).1⟩
    · exact defOK_lt h6 h
theorem clean_upd {H : Heap} {n b : Nat} {o : AObj} (hC : Clean H n) (hb : b < n) : Clean (upd H b o) n := by
  intro i hi; rw [upd_ne _ _ (by omega)]; exact hC i hi
theorem appIn_blk {H : Heap} {esz : Nat} {s x v : Value} {eff : Eff} (h : appIn H esz s x = some (v, eff)) : eff = none ∨ ∃ b off nn c o, s = .slice (some ⟨b, off, none⟩) nn c ∧ eff = some (b, o) := by
  unfold appIn at h
  split at h <;> first | (simp at h; done) | skip
  · rename_i b off nn c xa m xc
    split at h <;> first | (simp at h; done) | skip
    split at h <;> first | (simp at h; done) | skip
    split at h <;> first | (simp at h; done) | skip
    split at h <;> first | (simp at h; done) | skip
    simp only [Option.some.injEq, Prod.mk.injEq] at h
    exact .inr ⟨b, off, nn, c, _, rfl, h.2.symm⟩
  · split at h <;> first | (simp at h; done) | skip
    split at h <;> first | (simp at h; done) | skip
    simp only [Option.some.injEq, Prod.mk.injEq] at h
    exact .inl h.2.symm
theorem appIn_clean {H : Heap} {n esz : Nat} {s x v : Value} {eff : Eff} (hC : Clean H n) (h : appIn H esz s x = some (v, eff)) : Clean (eff.app H) n := by
  unfold appIn at h
  split at h <;> first | (simp at h; done) | skip
  · rename_i b off nn c xa m xc
    split at h <;> first | (simp at h; done) | skip
    split at h <;> first | (simp at h; done) | skip
    rename_i hob
    split at h <;> first | (simp at h; done) | skip
    split at h <;> first | (simp at h; done) | skip
    simp only [Option.some.injEq, Prod.mk.injEq] at h
    rw [← h.2]
    refine clean_upd hC ?_
    by_cases hlt : b < n
    · exact hlt
    · have := hC b (by omega); rw [hob] at this; cases this
  · split at h <;> first | (simp at h; done) | skip
    split at h <;> first | (simp at h; done) | skip
    simp only [Option.some.injEq, Prod.mk.injEq] at h
    rw [← h.2]; exact hC
theorem appNew_eff {H : Heap} {n0 k cap : Nat} {e : TypeId} {z : List Value} {s x v : Value} {eff : Eff} (h : appNew n0 k e z H s x cap = some (v, eff)) : ∃ o, eff = some (n0 + k, o) := by
  unfold appNew at h
  split at h <;> first | (simp at h; done) | skip
  split at h <;> first | (simp at h; done) | skip
  simp only [Option.some.injEq, Prod.mk.injEq] at h
  exact ⟨_, h.2.symm⟩
theorem appNew_clean {H : Heap} {n n0 k cap : Nat} {e : TypeId} {z : List Value} {s x v : Value} {eff : Eff} (hC : Clean H n) (h : appNew n0 k e z H s x cap = some (v, eff)) (hk : n0 + k < n) : Clean (eff.app H) n := by
  obtain ⟨o, rfl⟩ := appNew_eff h; exact clean_upd hC hk

/-- What is shown of a frame's run. -/
def Claim (P : Program) (res : ALeave) (k : List AItem) (tm : List Value) (H : Heap) (n : Nat) (R : Post) : Prop :=
  ∀ (b : Frame) (cs : List Frame) (C : Ctx P res R b cs) (df : List Deferred),
  (∀ (ρ : Ren) (w : World) (a : Act) (k' : List Item), HRel ρ H w → Fresh ρ n → Clean H n → LRel ρ tm a.tmps.toList → KRel P ρ n k k' → a.defers = df →
      Runs C (base k n) ρ w df (lone (b.atR a k') cs w)) ∧
  (∀ (n0 : Nat) (s : List Nat) (k1 : List AItem) (ops : Array Oper) (ord : List Nat), Facts P ops ord → k = .inReg n0 true (s.map (dOp P ops)) :: k1 →
    ∀ (ρ : Ren) (w : World) (a : Act) (m : List Item) (L l D : List Nat), DInv (P := P) (ops := ops) ord n0 n tm H ρ w a s L l D → KRel0 P k1 m → a.defers = df →
      Runs C n0 ρ w df (lone (b.atR a (.inRegion ops l :: m)) cs w))

theorem cop_store {i : Nat} {op : Op} {nn : Nat} {a x : Opd} (h : cop P i op = some (.store nn a x)) : ∃ a', cOpd a' = some a := by
  cases op with
  | store t a' x' =>
    simp only [cop] at h; split at h <;> first | (simp at h; done) | skip
    rename_i ha _; cases h; exact ⟨_, ha⟩
  | call c =>
    exfalso
    obtain ⟨callee, args', ts⟩ := c
    cases callee with
    | value f' => simp only [cop] at h; split at h <;> simp at h
    | invoke r m => simp [cop] at h
    | builtin b =>
      simp only [cop] at h
      repeat' (first | (simp at h; done) | (obtain ⟨_, _, h⟩ := map_some_eq h; simp at h; done) | split at h)
  | defer c =>
    exfalso
    obtain ⟨callee, args', ts⟩ := c
    cases callee with
    | value f' => simp only [cop] at h; split at h <;> simp at h
    | invoke r m => simp [cop] at h
    | builtin b => simp [cop] at h
  | _ =>
    exfalso
    simp only [cop] at h
    repeat' (first | (simp at h; done) | (obtain ⟨_, _, h⟩ := map_some_eq h; simp at h; done) | split at h)

theorem LeT.rel {ρ : Ren} : ∀ {a b m : List Value}, LeT a b → LRel ρ b m → LRel ρ a m
  | [], [], m, _, h => h
  | x :: a, y :: b, m, h, h' => by
    simp only [LRel] at h' ⊢
    obtain ⟨u, k, rfl, h1, h2⟩ := h'
    refine ⟨u, k, rfl, ?_, LeT.rel h.2 h2⟩
    rcases h.1 with rfl | rfl
    · exact VRel.undef _ _
    · exact h1
theorem sound (hmix : P.follows .mixedOrders = true) {res : ALeave} {k : List AItem} {tm : List Value} {H : Heap} {n : Nat} {R : Post} (hgo : AGo P res k tm H n R) : Claim P res k tm H n R := by
  induction hgo with
  | skip _ ih =>
    intro b cs C df
    refine ⟨?_, ?_⟩
    · intro ρ w a k' hH hF hC ht hk ha
      obtain ⟨c', m, rfl, hc, hm⟩ := hk
      have := (ih b cs C _).1 ρ w a m hH hF hC ht hm.toK ha
      rw [hm.base] at this
      rcases cCode_skip hc with rfl | ⟨l, rfl⟩
      · exact Runs.step stepR_skip this
      · exact Runs.step stepR_label this
    · intro n0 s k1 ops ord F he; cases he
  | seq _ ih =>
    intro b cs C df
    refine ⟨?_, ?_⟩
    · intro ρ w a k' hH hF hC ht hk ha
      obtain ⟨c', m, rfl, hc, hm⟩ := hk
      obtain ⟨x, y, rfl, rfl, rfl⟩ := cCode_seq hc
      exact Runs.step stepR_seq ((ih b cs C _).1 ρ w a _ hH hF hC ht (KRel0.toK ⟨_, _, rfl, rfl, _, _, rfl, rfl, hm⟩) ha)
    · intro n0 s k1 ops ord F he; cases he
  | cond t hct _ ih =>
    intro b cs C df
    refine ⟨?_, ?_⟩
    · intro ρ w a k' hH hF hC ht hk ha
      obtain ⟨c', m, rfl, hc, hm⟩ := hk
      obtain ⟨c0, x, y, rfl, hc1, rfl, rfl⟩ := cCode_cond hc
      have e := cOpd_ev ht hc1
      rw [hct] at e; simp only [VRel] at e
      refine Runs.step (stepR_cond e) ((ih b cs C _).1 ρ w a _ hH hF hC ht (KRel0.toK ⟨_, _, rfl, ?_, hm⟩) ha)
      cases t <;> simp
    · intro n0 s k1 ops ord F he; cases he
  | block _ ih =>
    intro b cs C df
    refine ⟨?_, ?_⟩
    · intro ρ w a k' hH hF hC ht hk ha
      obtain ⟨c', m, rfl, hc, hm⟩ := hk
      obtain ⟨x, rfl, rfl⟩ := cCode_block hc
      exact Runs.step stepR_block ((ih b cs C _).1 ρ w a _ hH hF hC ht (KRel0.toK ⟨_, _, rfl, rfl, _, rfl, hm⟩) ha)
    · intro n0 s k1 ops ord F he; cases he
  | inBlock _ ih =>
    intro b cs C df
    refine ⟨?_, ?_⟩
    · intro ρ w a k' hH hF hC ht hk ha
      obtain ⟨m, rfl, hm⟩ := hk
      have := (ih b cs C _).1 ρ w a m hH hF hC ht hm.toK ha
      rw [hm.base] at this
      exact Runs.step stepR_inBlock this

    · intro n0 s k1 ops ord F he; cases he
  | loop hle hmk _ ih =>
    intro b cs C df
    refine ⟨?_, ?_⟩
    · intro ρ w a k' hH hF hC ht hk ha
      obtain ⟨c', m, rfl, hc, hm⟩ := hk
      obtain ⟨x, rfl, rfl⟩ := cCode_loop hc
      exact Runs.step stepR_loop ((ih b cs C _).1 ρ w a _ hH hF hC (hle.rel ht) (KRel0.toK ⟨_, _, rfl, rfl, _, _, rfl, rfl, hmk.rel hm⟩) ha)
    · intro n0 s k1 ops ord F he; cases he
  | @mark res0 k tm tm' H n R hle _ ih =>
    intro b cs C df
    refine ⟨?_, ?_⟩
    · intro ρ w a k' hH hF hC ht hk ha
      have hm : KRel0 P k k' := hk
      have := (ih b cs C _).1 ρ w a k' hH hF hC (hle.rel ht) hm.toK ha
      rw [hm.base] at this
      exact this
    · intro n0 s k1 ops ord F he; cases he
  | inLoop hle hmk _ ih =>
    intro b cs C df
    refine ⟨?_, ?_⟩
    · intro ρ w a k' hH hF hC ht hk ha
      obtain ⟨c', m, rfl, rfl, hm⟩ := hk
      exact Runs.step stepR_inLoop ((ih b cs C _).1 ρ w a _ hH hF hC (hle.rel ht) (KRel0.toK ⟨_, _, rfl, rfl, _, _, rfl, rfl, hmk.rel hm⟩) ha)

    · intro n0 s k1 ops ord F he; cases he
  | scope _ ih =>
    intro b cs C df
    refine ⟨?_, ?_⟩
    · intro ρ w a k' hH hF hC ht hk ha
      obtain ⟨c', m, rfl, hc, hm⟩ := hk
      obtain ⟨x, rfl, rfl⟩ := cCode_scope hc
      exact Runs.step (step_lone_go (by simp [stepG, stepG.exec, Frame.atR])) ((ih b cs C _).1 ρ w a (.code x :: .inScope x :: m) hH hF hC ht (KRel0.toK ⟨_, _, rfl, rfl, _, _, rfl, rfl, hm⟩) ha)
    · intro n0 s k1 ops ord F he; cases he
  | inScope _ ih =>
    intro b cs C df
    refine ⟨?_, ?_⟩
    · intro ρ w a k' hH hF hC ht hk ha
      obtain ⟨c', m, rfl, _, hm⟩ := hk
      have := (ih b cs C _).1 ρ w a m hH hF hC ht hm.toK ha
      rw [hm.base] at this
      exact Runs.step (step_lone_go (by simp [stepG, stepG.exec, Frame.atR])) this
    · intro n0 s k1 ops ord F he; cases he
  | exit hx _ ih =>
    intro b cs C df
    refine ⟨?_, ?_⟩
    · intro ρ w a k' hH hF hC ht hk ha
      obtain ⟨c', m, rfl, hc, hm⟩ := hk
      obtain rfl := cCode_exit hc
      obtain ⟨k1', h1, h2⟩ := aexit_rel hm hx
      have := (ih b cs C _).1 ρ w a _ hH hF hC ht h2.toK ha
      rw [h2.base] at this
      exact Runs.step (stepR_exit h1) this
    · intro n0 s k1 ops ord F he; cases he
  | ret hv hR =>
    intro b cs C df
    refine ⟨?_, ?_⟩
    · intro ρ w a k' hH hF hC ht hk ha
      obtain ⟨c', m, rfl, hc, hm⟩ := hk
      obtain rfl := cCode_ret hc
      subst ha
      exact fun h1 h2 h3 => C.leave ρ w a m .ret _ _ _ _ hH hF hC h1 h2 h3 ht hv hR trivial
    · intro n0 s k1 ops ord F he; cases he
  | nil hv hR =>
    intro b cs C df
    refine ⟨?_, ?_⟩
    · intro ρ w a k' hH hF hC ht hk ha
      have hk : k' = [] := hk
      subst hk; subst ha
      exact fun h1 h2 h3 => C.leave ρ w a [] .off _ _ _ _ hH hF hC h1 h2 h3 ht hv hR trivial
    · intro n0 s k1 ops ord F he; cases he
  | exitOut hx hv hR =>
    intro b cs C df
    refine ⟨?_, ?_⟩
    · intro ρ w a k' hH hF hC ht hk ha
      obtain ⟨c', m, rfl, hc, hm⟩ := hk
      obtain rfl := cCode_exit hc
      subst ha
      exact fun h1 h2 h3 => C.leave ρ w a m (.out _) _ _ _ _ hH hF hC h1 h2 h3 ht hv hR (aexit_none hm hx)
    · intro n0 s k1 ops ord F he; cases he
  | @begin l r ts k tm H n R hl hr _ ih =>
    intro b cs C df
    refine ⟨?_, ?_⟩
    · intro ρ w a k' hH hF hC ht hk ha h1 h2 h3
      obtain ⟨m, rfl, hm⟩ := hk
      obtain ⟨l', hbl, hρ0⟩ := C.isRound l rfl
      have hρ := h2.le _ _ hρ0
      obtain ⟨o, o', g1, g2, g3⟩ := hH.obj l l' hρ
      rw [hl] at g1; cases g1
      obtain ⟨ts', rfl, g4⟩ := g3
      have hrun := run_beginRound (P := P) g2 hr
      refine C.closed _ _ (stepR_beginRound hbl hrun) ?_
      have hE : Ext n ρ w ρ (w.putObj l' (.loop { r with tmps := ts', state := .busy })) := Ext.write hρ _
      refine (ih b cs C df).1 ρ _ a m (HRel.write hH hρ (a := .loop { r with state := .busy } ts) ⟨ts', rfl, g4⟩) hF (clean_upd hC (hF _ _ hρ)) ht hm.toK ha (by rw [hm.base]; exact h1) (h2.trans hE h1) (h3.later hE)
    · intro n0 s k1 ops ord F he; cases he
  | @rangeFunc res0 f ps as bd k tm H n R g first cap N vals J JX hf eg hps hJ hJX hsJ hsX hit h0 _ _ _ ihb ihd ihj =>
    intro b cs C df
    refine ⟨?_, ?_⟩
    · intro ρ w a k' hH hF hC ht hk ha
      obtain ⟨c', m, rfl, hc, hm⟩ := hk
      obtain ⟨f', ps', assign, body, rfl, hf', rfl, rfl, rfl⟩ := cCode_rangeFunc hc
      have hro := C.isFn _ rfl
      have e := cOpd_ev ht hf'
      rw [hf] at e; simp only [VRel] at e; obtain ⟨fn', first', cap', e1, e2, e3, e4⟩ := e
      subst e2
      rw [ARel_iff] at e3 e4
      -- the loop's record
      obtain ⟨r, hr⟩ : ∃ r : Loop, r = { state := .ready, pending := none, fn := b.fn, tmps := a.tmps, params := ps', assign, body, defers := w.heap.size } := ⟨_, rfl⟩
      have hrOK : LoopOK r := by rw [hr]; exact ⟨rfl, rfl⟩
      obtain ⟨W0, hW0⟩ : ∃ W0, W0 = ({ w with heap := w.heap.push (.deferred (some [])) } : World) := ⟨_, rfl⟩
      obtain ⟨W1, hW1⟩ : ∃ W1, W1 = ({ W0 with heap := W0.heap.push (.loop r) } : World) := ⟨_, rfl⟩
      have hs0 : W0.heap.size = w.heap.size + 1 := by rw [hW0]; simp
      have hE0 : Ext n ρ w ρ W0 := by
        rw [hW0]
        exact ⟨Ren.le_refl _, fun _ _ h => .inl h, by simp, fun c hc _ => by simp only [Array.getElem?_push]; rw [if_neg (by omega)], rfl, rfl, rfl⟩
      have hH0 : HRel ρ H W0 := by
        refine ⟨hH.inj, fun i c hi => ?_⟩
        obtain ⟨o, o', g1, g2, g3⟩ := hH.obj i c hi
        refine ⟨o, o', g1, ?_, g3⟩
        have := hH.lt hi
        rw [hW0]; simp only [Array.getElem?_push]; rw [if_neg (by omega)]; exact g2
      have hρn : ρ n = none := by
        cases h : ρ n with
        | none => rfl
        | some c => have := hF _ _ h; omega
      have hH1 : HRel (ρ.put n W0.heap.size) (upd H n (.loop r tm)) W1 := by rw [hW1]; exact hH0.alloc hρn ⟨a.tmps, by rw [hr], ht⟩
      have hE1 : Ext n ρ w (ρ.put n W0.heap.size) W1 := by rw [hW1]; exact hE0.trans (Ext.alloc hρn (Nat.le_refl _) _) (Nat.le_refl _)
      have hF1 : Fresh (ρ.put n W0.heap.size) (n + 1) := by
        intro i c hi
        unfold Ren.put at hi
        split at hi
        · omega
        · have := hF i c hi; omega
      have hC1 : Clean (upd H n (.loop r tm)) (n + 1) := clean_upd (fun i hi => hC i (by omega)) (by omega)
      have hD1 : W1.heap[w.heap.size]? = some (.deferred (some [])) := by
        rw [hW1, hW0]; simp [Array.getElem?_push]
      have hDn : ∀ i, (ρ.put n W0.heap.size) i ≠ some w.heap.size := by
        intro i hi
        unfold Ren.put at hi
        split at hi
        · have := Option.some.inj hi; omega
        · have := hH.lt hi; omega
      -- a round
      have hyield : ∀ i H' n', i < N → J r i H' n' → AYield P n (vals i) H' n' (fun e H'' n'' => (e = .returned (.bool true) ∧ J r (i + 1) H'' n'') ∨ (e = .returned (.bool false) ∧ ∃ j, JX r j H'' n'')) := by
        intro i H' n' hi hj hC' ρ' w' args' l' hH' hF' hl' hargs
        obtain ⟨hHl, hnn⟩ := hJ r i H' n' hj
        obtain ⟨o, o', g1, g2, g3⟩ := hH'.obj n l' hl'
        rw [hHl] at g1; cases g1
        obtain ⟨ts, rfl, g4⟩ := g3
        have hsz : args'.toArray.size = ({ r with tmps := ts } : Loop).params.size := by
          have h1 := hargs.length; have h2 := hps i
          rw [hr]; simp at h2 ⊢; omega
        refine ⟨_, _, _, _, run_yield g2 hsz, ?_⟩
        intro G c cs' hcl hret
        have hfr : ∀ (tmps : Array Value), Frame.round l' r.fn tmps r.assign r.body .normal = ({ (default : Frame) with fn := r.fn, kind := .normal, roundOf := some l' } : Frame).atR { tmps := tmps, defers := [] } [.code r.assign, .beginRound, .code r.body] := by
          intro tmps; simp [Frame.round, Frame.atR]
        have hC2 : ∀ (Hb : Heap) (nb : Nat) (ρb : Ren) (wb : World) (o : Loop) (od : Loop) (H2 : Heap → Prop), True := fun _ _ _ _ _ _ _ => trivial
        let Cx : Ctx P (.round n) (RoundPost n r tm (J r (i + 1)) (JX r)) ({ (default : Frame) with fn := r.fn, kind := .normal, roundOf := some l' } : Frame) (c :: cs') :=
          { G := G, closed := hcl, n0 := n', ρ0 := ρ', w0 := w', kind := rfl, isFn := (fun _ h => by cases h), isRound := fun l h => by cases h; exact ⟨l', rfl, hl'⟩
            leave := by
              intro ρb wb ab kb jj tmb Hb nb vv hHb hFb hCb hnb hEb _ _ hlv hRb hok
              obtain ⟨j, hjv, hbusy, hpost⟩ := hRb
              have hjj : jj = j := by
                simp only [leaveV, Option.some.injEq] at hlv
                rw [← hlv] at hjv
                cases jj <;> cases j <;> simp [AJump.val] at hjv <;> simp <;> omega
              subst hjj
              have hlb := hEb.le _ _ hl'
              obtain ⟨o, o', q1, q2, q3⟩ := hHb.obj n l' hlb
              rw [hbusy] at q1; cases q1
              obtain ⟨t2, rfl, q4⟩ := q3
              have hend := fun jc => run_endRound (P := P) jc q2
              have fin : ∀ (jc : Option Code) (v : Value) (a1 : Loop), v = .bool jc.isNone → a1 = { r with state := if jc.isNone then .ready else .done, pending := jc } →
                  ((if jc.isNone then J r (i + 1) else fun H n => ∃ j, JX r j H n) (upd Hb n (.loop a1 tm)) nb) →
                  Ends n' ρ' w' (fun e H'' n'' => (e = .returned (.bool true) ∧ J r (i + 1) H'' n'') ∨ (e = .returned (.bool false) ∧ ∃ j, JX r j H'' n'')) (.returned v)
                    (wb.putObj l' (.loop { ({ r with tmps := t2, state := .busy } : Loop) with state := if jc.isNone then .ready else .done, pending := jc })) := by
                intro jc v a1 hv ha1 hpp
                refine ⟨.returned v, ρb, upd Hb n (.loop a1 tm), nb, ⟨v, rfl, by rw [hv]; simp [VRel]⟩, ?_, HRel.write hHb hlb ⟨t2, by rw [ha1], q4⟩, hFb, clean_upd hCb (hFb _ _ hlb), hnb, hEb.trans (Ext.write hlb _) hnb⟩
                cases jc with
                | none => left; exact ⟨by rw [hv]; rfl, by simpa using hpp⟩
                | some cc => right; exact ⟨by rw [hv]; rfl, by simpa using hpp⟩
              cases jj with
              | off =>
                refine hcl _ _ (stepR_round_end (by rfl) (by rfl) (hend none)) (hret _ _ (fin none _ r rfl ?_ ?_))
                · obtain ⟨x1, x2⟩ := hrOK; cases r; simp_all
                · simpa using hpost
              | ret =>
                refine hcl _ _ (stepR_round_ret (by rfl) (by rfl) (hend (some .ret))) (hret _ _ (fin (some .ret) _ _ rfl rfl ?_))
                simp; exact ⟨_, hpost⟩
              | out id =>
                refine hcl _ _ (stepR_round_exit (by rfl) (by rfl) hok (hend (some (.exit id)))) (hret _ _ (fin (some (.exit id)) _ _ rfl rfl ?_))
                simp; exact ⟨_, hpost⟩
            die := by
              intro ρb wb ab kb c1 c2 Hb nb _ _ _ _ _ _ _ hRb
              obtain ⟨j, hjv, _⟩ := hRb
              cases hjv }
        have hgo := (ihb r i H' n' hrOK hi hj _ _ Cx []).1 ρ' w' { tmps := (({ r with tmps := ts } : Loop).params.zip args'.toArray).foldl (fun tmps (t, a) => tmps.setIfInBounds t a) ts, defers := [] } [.code r.assign, .beginRound, .code r.body]
          hH' hF' hC' (setPs_rel ps' g4 hargs (by rw [hr])) (by rw [hr]; exact ⟨_, _, rfl, rfl, _, rfl, _, _, rfl, rfl, rfl⟩) rfl (Nat.le_refl _) (Ext.refl _ _ _) trivial
        show G (lone (Frame.round l' r.fn _ r.assign r.body .normal) (c :: cs') w')
        rw [hfr]
        exact hgo
      -- the iterator is called
      have hargsI : LRel (ρ.put n W0.heap.size) (first.toList ++ [.func (.yield n) #[] #[]] ++ cap.toList) (first' ++ #[Value.func (.yield W0.heap.size) #[] #[]] ++ cap').toList := by
        simp only [Array.toList_append]
        refine (LRel.append (LRel.mono hE1.le _ _ e3) ?_).append (LRel.mono hE1.le _ _ e4)
        simp only [LRel]
        refine ⟨_, _, rfl, ?_, rfl⟩
        simp only [VRel, ARel, LRel]; exact ⟨_, _, _, rfl, ⟨_, rfl, by simp [Ren.put]⟩, rfl, rfl⟩
      have hcall := hit r hrOK (hsJ r) (hsX r) hyield (h0 r hrOK) hC1 _ W1 _ hH1 hF1 hargsI
      simp only [Array.toArray_toList] at hcall
      rw [eg] at hcall
      simp only [Enters] at hcall
      have hres : (resolve a.eval (rangeCall f' W0.heap.size) 0).run P W1 = .ok { target := .fn (.func g) cap', args := first' ++ #[.func (.yield W0.heap.size) #[] #[]] } W1 := by
        simp only [resolve, rangeCall, e1]
        simp [Deferred.ofValue, Act.eval]
      have henter : (Instr.enterLoop b.fn a.tmps ps' assign body b.roundOf).run P w = .ok (W0.heap.size, [{ target := .collected w.heap.size, args := #[] }]) W1 := by
        rw [hro, run_enterLoop_outer]
        simp only [World.alloc, hW1, hW0, hr, Array.size_push]
      obtain ⟨e', w2, fr, ⟨e0, ρ2, H2, n2, k1, k2, k3, k4, k7, k5, k6⟩, hcomes, _, hleave⟩ := hcall (b.atR { a with defers := [{ target := .collected w.heap.size, args := #[] }] ++ a.defers } (.inRangeFunc W0.heap.size :: m) :: cs)
      obtain ⟨v0, rfl, hJX2⟩ := k2
      obtain ⟨v1, rfl, _⟩ := k1
      have hstep := stepR_rangeFunc (P := P) (b := b) (a := a) (k := m) (cs := cs) (w := w) henter hres (w₂ := W1) (f := g) (args := first' ++ #[.func (.yield W0.heap.size) #[] #[]] ++ cap') (by simp [invoke, eg])
      have hEE : Ext n ρ w ρ2 w2 := hE1.trans k6 (by omega)
      have hl2 : ρ2 n = some W0.heap.size := k6.le _ _ (by simp [Ren.put])
      have hD2 : w2.heap[w.heap.size]? = some (.deferred (some [])) := by
        rw [k6.frame _ (by rw [hW1]; simp; omega) hDn]; exact hD1
      have hDn2 : ∀ i, ρ2 i ≠ some w.heap.size := by
        intro i hi
        rcases k6.new i _ hi with h | ⟨_, h⟩
        · exact hDn i h
        · rw [hW1] at h; simp at h; omega
      intro q1 q2 q3
      have q1' : C.n0 ≤ n := by have := q1; rw [show base (AItem.code (.rangeFunc _ _ _ _) :: k) n = n from rfl] at this; exact this
      refine C.closed _ _ hstep (back_n C.closed hcomes (C.closed _ _ (step_leave_returned hleave) ?_))
      rw [finish_atR_inRangeFunc]
      have cont : ∀ (st : Loop) (jump : Option Code) (kk : List AItem) (mm : List Item), H2 n = some (.loop st tm) → st.state ≠ .busy → st.pending = jump → KRel0 P kk mm → mm = (jump.map Item.code).toList ++ m →
          (∀ o, Claim P (.fn res0) kk tm (upd H2 n (.loop o tm)) n2 R) →
          C.G (lone (b.atR { a with defers := [{ target := .collected w.heap.size, args := #[] }] ++ a.defers } (.endRangeFunc W0.heap.size :: m)) cs w2) := by
        intro st jump kk mm hst hnb hpe hkk hmm hcl
        obtain ⟨o, o', g1, g2, g3⟩ := k3.obj n _ hl2
        rw [hst] at g1; cases g1
        obtain ⟨t2, rfl, g4⟩ := g3
        have hend := run_endLoop (P := P) g2 hnb
        refine C.closed _ _ (stepR_endRangeFunc hend) ?_
        have hE2 : Ext n ρ w ρ2 (w2.putObj W0.heap.size (.loop { ({ st with tmps := t2 } : Loop) with state := .exhausted })) := hEE.trans (Ext.write (n := n) hl2 _) (Nat.le_refl _)
        have := ((hcl { st with state := .exhausted }) b cs C ({ target := .collected w.heap.size, args := #[] } :: a.defers)).1 ρ2 (w2.putObj W0.heap.size (.loop { ({ st with tmps := t2 } : Loop) with state := .exhausted })) { a with defers := [{ target := .collected w.heap.size, args := #[] }] ++ a.defers } mm
          (HRel.write k3 hl2 ⟨t2, rfl, g4⟩) k4 (clean_upd k7 (k4 _ _ hl2)) (LRel.mono hEE.le _ _ ht) hkk.toK rfl (by rw [hkk.base]; have := k5; omega) (q2.trans hE2 q1') ?_
        · rw [hmm] at this
          simp only [hpe] at this ⊢
          exact this
        · subst ha
          refine ⟨⟨w.heap.size, rfl, q2.size, ?_, hDn2, ?_⟩, q3.later hE2⟩
          · rw [World.putObj_heap_other (by omega)]; exact hD2
          · intro d' hd' he
            have := defOK_lt q3 hd'
            rw [he] at this
            obtain ⟨D, hD, hlt⟩ := this
            simp at hD; omega
      rcases hJX2 with hJd | ⟨j, hjx⟩
      · obtain ⟨x1, x2⟩ := hJ r N H2 n2 hJd
        exact cont r none k m x1 (by rw [hrOK.1]; simp) hrOK.2 hm (by simp) (fun o => ihd r o H2 n2 hrOK hJd)
      · obtain ⟨x1, x2, x3⟩ := hJX r j H2 n2 hjx
        refine cont _ j.code (.code j.acode :: k) ((j.code.map Item.code).toList ++ m) x1 (by simp) rfl ?_ rfl (fun o => ihj r j o H2 n2 hrOK hjx)
        cases j with
        | off => exact absurd rfl x3
        | ret => exact ⟨_, _, rfl, rfl, hm⟩
        | out id => exact ⟨_, _, rfl, rfl, hm⟩
    · intro n0 s k1 ops ord F he; cases he
  | @region res0 aops draw k tm H n R hgo' ih =>
    intro b cs C df
    refine ⟨?_, ?_⟩
    · intro ρ w a k' hH hF hC ht hk ha
      obtain ⟨c', m, rfl, hc, hm⟩ := hk
      obtain ⟨id, ops, rfl, hreg⟩ := cCode_region hc
      · rcases hreg with ⟨rfl, rfl⟩ | ⟨rfl, hl⟩
        ·
          have hlen : ((List.range ops.size).map (cOper0 P ops)).length = ops.size := by simp
          have hfresh : ∀ i, i < ops.size → ρ (n + i) = none ∧ n + i < n + ops.size := by
            intro i hi
            refine ⟨?_, by omega⟩
            cases hρ : ρ (n + i) with
            | none => rfl
            | some b => have := hF _ _ hρ; omega
          have hF' : Fresh ρ (n + ops.size) := fun i b h => Nat.lt_of_lt_of_le (hF i b h) (by omega)
          have := (ih b cs C _).1 ρ w a (.inRegion ops (List.range ops.size) :: m) hH (by rw [hlen]; exact hF') (fun i hi => hC i (by omega)) ht ⟨ops, List.range ops.size, m, rfl, rfl, List.nodup_range, by omega, by
            intro i hi; rw [hlen]; exact hfresh i (by simpa using hi), hm⟩ ha
          exact Runs.step stepR_region this
        · obtain ⟨ord, F, rfl⟩ := cRegion_ok P ops hl
          have hlen : (ord.map (dOp P ops)).length = ord.length := by simp
          have hord : ord.length = ops.size := by
            unfold cRegion at hl
            simp only at hl
            split at hl <;> first | (simp at hl; done) | skip
            rename_i hok
            have h2 := congrArg List.length (Option.some.inj hl)
            simp only [drawOps, List.length_map] at h2
            unfold drawOK at hok
            simp only [Bool.and_eq_true, beq_iff_eq] at hok
            have h3 := hok.1.1.1.1.1
            rw [← h2, h3]; simp
          refine Runs.step stepR_region_draw (Runs.later (Ext.drawn n ρ w (w.drawn + 1)) (Nat.le_refl _) ?_)
          rw [hmix]
          refine (ih b cs C df).2 n ord k ops ord F rfl ρ _ a m [] _ [] ?_ hm ha
          refine ⟨hH.drawn _, fun i b h => Nat.lt_of_lt_of_le (hF i b h) (by omega), fun i hi => hC i (by omega), by rw [hlen, hord]; omega, ?_, ?_, ⟨[], rfl, by simp⟩, by simp, List.nodup_nil,
            schedule_sch ops F.deps _, by simp, by simp, ?_⟩
          · have := ht.length; simpa using this
          · intro t _; exact getD_rel ht t
          · intro i hi
            refine ⟨hC _ (by omega), ?_⟩
            cases hρ : ρ (n + i) with
            | none => rfl
            | some b => have := hF _ _ hρ; omega
    · intro n0 s k1 ops ord F he; cases he
  | @regNil res0 n0 d k tm H n R _ ih =>
    intro b cs C df
    refine ⟨?_, ?_⟩
    · intro ρ w a k' hH hF hC ht hk ha
      cases d with
      | true => exact hk.elim
      | false =>
      obtain ⟨ops, todo, m, rfl, hl, _, hn0, _, hm⟩ := hk
      have : todo = [] := by cases todo <;> simp_all
      subst this
      have := (ih b cs C _).1 ρ w a m hH hF hC ht hm.toK ha
      rw [hm.base] at this
      exact Runs.step stepR_region_end (Runs.later (Ext.refl _ _ _) hn0 this)
    · intro n0' s k1 ops ord F he ρ w a m L l D I hm ha
      cases d with
      | false => simp at he
      | true =>
      cases s with
      | cons y s => simp at he
      | nil =>
      simp only [List.map_nil, List.cons.injEq, AItem.inReg.injEq, true_and, and_true] at he
      obtain ⟨rfl, rfl⟩ := he
      refine I.finish F l L D ρ w a ha fun ρ1 w1 a1 ha1 hH1 hF1 ht1 => ?_
      have := (ih b cs C _).1 ρ1 w1 a1 m hH1 hF1 I.hC ht1 hm.toK ha1
      rw [hm.base] at this
      exact Runs.later (Ext.refl _ _ _) (by have := I.hn; omega) this
  | @opSkip res0 n0 d o aops k tm H n R hg _ ih =>
    intro b cs C df
    refine ⟨?_, ?_⟩
    · intro ρ w a k' hH hF hC ht hk ha
      cases d with
      | true => exact hk.elim
      | false =>
      obtain ⟨ops, todo, m, rfl, hl, hnd, hn0, hslot, hm⟩ := hk
      cases todo with
      | nil => simp at hl
      | cons i todo =>
      simp only [List.map_cons, List.cons.injEq] at hl; obtain ⟨rfl, rfl⟩ := hl
      have hdst : ((ops[i]?).bind (·.dst)) = (cOper0 P ops i).dst := by
        unfold cOper0; cases ho : ops[i]? with
        | none => rfl
        | some o => simp only [Option.bind_some]; split <;> rfl
      have hw : ((ops[i]?).map (Region.wanted · (yielded ops a.tmps))).getD false = false := by
        cases ho : ops[i]? with
        | none => rfl
        | some o =>
          simp only [Option.map_some, Option.getD_some]
          have hg' := hg
          unfold cOper0 at hg'
          simp only [ho] at hg'
          split at hg'
          · rename_i g p h1 h2
            exact gOK_wanted ht h1 hg'
          · simp [gOK] at hg'
      refine Runs.step (stepR_op_skip hw) ?_
      rw [hdst]
      exact (ih b cs C _).1 ρ w _ _ hH hF hC (put_rel ht (VRel.undef _ _)) ⟨ops, todo, m, rfl, rfl, (List.nodup_cons.1 hnd).2, hn0, fun j hj => hslot j (by simp [hj]), hm⟩ (by
        cases (cOper0 P ops i).dst <;> exact ha)
    · intro n0' s k1 ops ord F he ρ w a m L l D I hm ha
      cases d with
      | false => simp at he
      | true =>
      cases s with
      | nil => simp at he
      | cons y s =>
      simp only [List.map_cons, List.cons.injEq, AItem.inReg.injEq, true_and] at he
      obtain ⟨⟨rfl, rfl, rfl⟩, rfl⟩ := he
      rw [dOp_guard] at hg
      rw [dOp_dst] at ih
      by_cases hw : mw P ops y = true
      · have I1 := I.lazy F hw (v := junk) (eff := none) (.inl ⟨hg, rfl, rfl⟩)
        exact (ih b cs C _).2 _ s _ ops ord F rfl ρ w a m (y :: L) l D I1 hm ha
      · have hw : mw P ops y = false := by simpa using hw
        refine DInv.lock F hw l L D ρ w a ha I fun ρ1 w1 a1 L1 l1 D1 ha1 I1 => ?_
        have hrd := I1.reads_out F
        have hmask := I1.masked
        obtain ⟨hyD, hyL, hlt, hys⟩ := I1.head_out F
        have hdst : ((ops[y]?).bind (·.dst)) = (cOper0 P ops y).dst := by
          unfold cOper0; cases ho : ops[y]? with
          | none => rfl
          | some o => simp only [Option.bind_some]; split <;> rfl
        have hwant : ((ops[y]?).map (Region.wanted · (yielded ops a1.tmps))).getD false = false := by
          cases ho : ops[y]? with
          | none => rfl
          | some o =>
            simp only [Option.map_some, Option.getD_some]
            have hg' := hg
            rw [← gOK_mask hrd] at hg'
            unfold cOper0 at hg'
            simp only [ho] at hg'
            split at hg'
            · rename_i g p h1 h2
              exact gOK_wanted hmask h1 hg'
            · simp [gOK] at hg'
        refine Runs.step (stepR_op_skip hwant) ?_
        rw [hdst]
        have I2 := I1.sync F hw (v := junk) (v' := Go.undef) (H1 := H) (n1 := n) (ρ1 := ρ1) (w1 := w1) (Nat.le_refl _) (Ext.refl _ _ _) I1.hH I1.hF I1.hC (VRel.undef _ _) (fun _ _ _ h => h) (fun _ _ _ _ _ _ _ _ => rfl) (fun _ _ _ _ => rfl)
        exact (ih b cs C _).2 _ s _ ops ord F rfl ρ1 w1 _ m L1 l1 _ I2 hm (by cases (cOper0 P ops y).dst <;> exact ha1)
  | @op res0 n0 d o aops k tm H n R v eff hg hs hap _ ih =>
    intro b cs C df
    refine ⟨?_, ?_⟩
    · intro ρ w a k' hH hF hC ht hk ha
      cases d with
      | true => exact hk.elim
      | false =>
      obtain ⟨ops, todo, m, rfl, hl, hnd, hn0, hslot, hm⟩ := hk
      cases todo with
      | nil => simp at hl
      | cons i todo =>
      simp only [List.map_cons, List.cons.injEq] at hl; obtain ⟨rfl, rfl⟩ := hl
      obtain ⟨o, ho, hc, hdst, hgd⟩ := cOper_op (P := P) (ops := ops) (i := i) rfl (by intro hbad; rw [hbad] at hs; simp [sim] at hs)
      have hw := gOK_wanted ht hgd hg
      obtain ⟨hsl, hsn⟩ := hslot i (by simp)
      obtain ⟨r, v', ρ', w', h1, h2, h3, h4, h5, h6⟩ := sim_ok hH hsl ht hc hs
      refine Runs.step (step_value (nd_sim hc (by intro f args h; first | cases h | (rw [h] at hs; simp [sim] at hs) | simp_all)) ho hw h1 h2) (Runs.later (n1 := n0) h5 (Nat.le_refl _) ((ih b cs C _).1 ρ' w' (a.put o.dst v') _ h4 ?_ ?_ ?_ ⟨ops, todo, m, rfl, rfl, (List.nodup_cons.1 hnd).2, hn0, ?_, hm⟩ (by
        cases o.dst <;> exact ha)))
      · intro j c hj
        by_cases e : j = n0 + i
        · omega
        · rw [h6 j e] at hj; exact hF j c hj
      · exact eff_clean hC hs (fun k hk => by have := cop_slot hc hk; omega)
      · rw [hdst]; exact put_rel (LRel.mono h5.le _ _ ht) h3
      · intro j hj
        have hne : j ≠ i := fun e => (List.nodup_cons.1 hnd).1 (e ▸ hj)
        have := hslot j (by simp [hj])
        exact ⟨by rw [h6 _ (by omega)]; exact this.1, this.2⟩
    · intro n0' s k1 ops ord F he ρ w a m L l D I hm ha
      cases d with
      | false => simp at he
      | true =>
      cases s with
      | nil => simp at he
      | cons y s =>
      simp only [List.map_cons, List.cons.injEq, AItem.inReg.injEq, true_and] at he
      obtain ⟨⟨rfl, rfl, rfl⟩, rfl⟩ := he
      rw [dOp_guard] at hg
      rw [dOp_dst] at ih
      rw [dOp_op] at hs
      by_cases hw : mw P ops y = true
      · have I1 := I.lazy F hw (v := v) (eff := eff) (.inr ⟨hg, hs⟩)
        exact (ih b cs C _).2 _ s _ ops ord F rfl ρ w a m (y :: L) l D I1 hm ha
      · have hw : mw P ops y = false := by simpa using hw
        refine DInv.lock F hw l L D ρ w a ha I fun ρ1 w1 a1 L1 l1 D1 ha1 I1 => ?_
        have hrd := I1.reads_out F
        have hmask := I1.masked
        obtain ⟨hyD, hyL, hlt, hys⟩ := I1.head_out F
        obtain ⟨o, ho, hc, hdst, hgd⟩ := cOper_op (P := P) (ops := ops) (i := y) (p := (cOper0 P ops y).op) rfl (by intro hbad; rw [hbad] at hs; simp [sim] at hs)
        have hwant := gOK_wanted (a := a1) hmask hgd (by rw [gOK_mask hrd]; exact hg)
        obtain ⟨hsl0, hsl⟩ := I1.slots y (by simp)
        have hs2 : sim n0 (mask (L1.map fun j => (cOper0 P ops j).dst) tm) H (cOper0 P ops y).op = some (v, eff) := by rw [sim_congr (ev_mask hrd)]; exact hs
        obtain ⟨r, v', ρ', w', h1, h2, h3, h4, h5, h6⟩ := sim_ok (o := o) I1.hH hsl hmask hc hs2
        -- the block that is written
        have hblk : eff = none ∨ (∃ x, eff = some (n0 + y, x)) ∨ ∃ bb x, eff = some (bb, x) ∧ storeLike (cOper0 P ops y).op = true ∧ ρ1 bb ≠ none := by
          have hsy := F.sync y hlt
          cases hop : (cOper0 P ops y).op
          case store nn ax xx =>
            right; right
            rw [hop] at hs2
            obtain ⟨bb, off, x, e1, e2⟩ := store_eff hs2
            refine ⟨bb, x, e2, rfl, ?_⟩
            rw [hop] at hc
            obtain ⟨x', hx'⟩ := cop_store hc
            have hrel := cOpd_ev hmask hx'
            rw [e1] at hrel
            simp only [VRel] at hrel
            obtain ⟨b', _, _, hb'⟩ := hrel
            rw [hb']; simp
          all_goals
            rw [hop] at hsy hs
            first
              | (simp [syncOK, lazyOp] at hsy; done)
              | (simp [sim] at hs; done)
              | (rcases sim_eff (by rfl) hs with h | ⟨kk, x, hk, h⟩
                 · exact .inl h
                 · rw [hop] at hc; have := cop_slot hc hk; subst this; exact .inr (.inl ⟨x, h⟩))
        have hap' := hap rfl
        have happ : ∀ bb, bb ≠ n0 + y → ρ1 bb = none → (eff.app H) bb = H bb := by
          intro bb h1 h2
          rcases hblk with rfl | ⟨x, rfl⟩ | ⟨bs, x, rfl, _, h3⟩
          · rfl
          · exact upd_ne _ _ h1
          · exact upd_ne _ _ (fun e => h3 (e ▸ h2))
        have hF1 : Fresh ρ' n := by
          intro j c hj
          by_cases e : j = n0 + y
          · have := I1.hn; omega
          · rw [h6 j e] at hj; exact I1.hF j c hj
        have hC1 : Clean (eff.app H) n := eff_clean I1.hC hs2 (fun k hk => by have := cop_slot hc hk; have := I1.hn; omega)
        have I2 := I1.sync F hw (v := v) (v' := v') (H1 := eff.app H) (n1 := n) (ρ1 := ρ') (w1 := w') (Nat.le_refl _) h5 h4 hF1 hC1 h3 (fun j _ hne h => by rw [h6 _ (by omega)]; exact h)
          (by
            intro j hj ad bb off had hev hHb
            rcases hblk with rfl | ⟨x, rfl⟩ | ⟨bs, x, rfl, hst, h3⟩
            · rfl
            · refine upd_ne _ _ (fun e => ?_)
              rw [e] at hHb; exact hHb hsl0
            · have hmem := I1.unordered F hj had
              have : (dOp P ops y).ap = aparts (csOf P ops) (msOf ops) y := by unfold dOp; rw [apLike_of hst]; rfl
              rw [this] at hap'
              simp only [apartOK, List.all_eq_true] at hap'
              have h7 := hap' ad hmem
              rw [hev] at h7
              simp only [blkNe, Bool.not_eq_true', beq_eq_false_iff_ne] at h7
              exact upd_ne _ _ h7)
          (fun j _ hne h => happ _ (by omega) h)
        refine Runs.step (step_value (nd_sim hc (by intro f args h; first | cases h | (rw [h] at hs; simp [sim] at hs) | simp_all)) ho hwant h1 h2) (Runs.later (n1 := n0) h5 (Nat.le_refl _) ?_)
        rw [← hdst]
        exact (ih b cs C _).2 _ s _ ops ord F rfl ρ' w' _ m L1 l1 _ I2 hm (by cases (cOper0 P ops y).dst <;> exact ha1)
  | @call res0 n0 d o aops k tm H n R f args g first cap Q hg hop hf hcall hdraw _ hpan ih =>
    intro b cs C df
    refine ⟨?_, ?_⟩
    · intro ρ w a k' hH hF hC ht hk ha
      cases d with
      | true => exact hk.elim
      | false =>
      obtain ⟨ops, todo, m, rfl, hl, hnd, hn0, hslot, hm⟩ := hk
      cases todo with
      | nil => simp at hl
      | cons i todo =>
      simp only [List.map_cons, List.cons.injEq] at hl; obtain ⟨rfl, rfl⟩ := hl
      obtain ⟨o, ho, hc, hdst, hgd⟩ := cOper_op (P := P) (ops := ops) (i := i) hop (by simp)
      have hw := gOK_wanted ht hgd hg
      obtain ⟨f', args', ts, ho2, hf', hargs'⟩ := cop_call hc
      have e := cOpd_ev ht hf'
      rw [hf] at e; simp only [VRel] at e; obtain ⟨fn', first', cap', e1, e2, e3, e4⟩ := e
      subst e2
      rw [ARel_iff] at e3 e4
      have hrun := exec_call (P := P) (w := w) ho2 e1
      have hall : LRel ρ (first.toList ++ args.map (Opd.ev tm) ++ cap.toList) (first' ++ args'.map a.eval ++ cap').toList := by
        simp only [Array.toList_append, Array.toList_map]
        exact (e3.append (cOpds_ev ht hargs')).append e4
      have hCC := hcall hC ρ w _ hH hF hall
      simp only [Array.toArray_toList] at hCC
      have cont : ∀ (v : Value) (ρ1 : Ren) (w1 : World) (v1 : Value) (H1 : Heap) (n1 : Nat), VRel ρ1 v v1 → Q (.returned v) H1 n1 → HRel ρ1 H1 w1 → Fresh ρ1 n1 → Clean H1 n1 → n ≤ n1 → Ext n ρ w ρ1 w1 →
          Runs C n0 ρ w df (lone (b.atR (a.put o.dst v1) (.inRegion ops todo :: m)) cs w1) := by
        intro v ρ1 w1 v1 H1 n1 hv hQ hH1 hF1 hC1 hn1 hE
        refine Runs.later (n1 := n0) (hE.weaken hn0) (Nat.le_refl _) ((ih v H1 n1 hQ hn1 b cs C df).1 ρ1 w1 (a.put o.dst v1) _ hH1 hF1 hC1 (by rw [hdst]; exact put_rel (LRel.mono hE.le _ _ ht) hv)
          ⟨ops, todo, m, rfl, rfl, (List.nodup_cons.1 hnd).2, by omega, fun j hj => ?_, hm⟩ (by cases o.dst <;> exact ha))
        have hj' := hslot j (by simp [hj])
        refine ⟨?_, by omega⟩
        cases hx : ρ1 (n0 + j) with
        | none => rfl
        | some c =>
          rcases hE.new _ _ hx with h | ⟨h, _⟩
          · rw [hj'.1] at h; cases h
          · omega
      unfold Enters at hCC
      split at hCC
      · rename_i g' xs w1 hx
        obtain ⟨e', w2, fr, ⟨e0, ρ1, H1, n1, k1, k2, k3, k4, k7, k5, k6⟩, hcomes, _, hleave⟩ := hCC (b.atR a (.inRegion ops (i :: todo) :: m) :: cs)
        have hent := step_enter (b := b) (k := m) (cs := cs) (rest := todo) (nd_sim hc (by intro f args h; first | cases h | (rw [h] at hs; simp [sim] at hs) | simp_all)) ho hw (hrun.trans hx)
        cases e0 with
        | returned v =>
          obtain ⟨v1, rfl, hv⟩ := k1
          refine Runs.step hent (Runs.steps hcomes (Runs.step (step_leave_returned hleave) ?_))
          rw [fin_at ho]
          exact cont v ρ1 w2 v1 H1 n1 hv k2 k3 k4 k7 k5 k6
        | panicked c =>
          obtain ⟨c1, rfl, hcr⟩ := k1
          obtain ⟨_, hRp⟩ := hpan c H1 n1 k2 k5
          refine Runs.step hent (Runs.steps hcomes (Runs.step (step_leave_panicked hleave) ?_))
          rw [Frame.raise_atR]
          intro q1 q2 q3; subst ha
          have q1 : C.n0 ≤ n0 := q1
          exact C.die ρ1 w2 a _ c c1 H1 n1 k3 k4 k7 (by omega) (q2.trans k6 (Nat.le_trans q1 hn0)) (q3.later k6) hcr hRp
        | outgrown => exact k1.elim
      · rename_i v1 w1 hx
        obtain ⟨e0, ρ1, H1, n1, k1, k2, k3, k4, k7, k5, k6⟩ := hCC
        cases e0 with
        | returned v =>
          obtain ⟨v2, hv2, hv⟩ := k1
          cases hv2
          exact Runs.step (step_value (nd_sim hc (by intro f args h; first | cases h | (rw [h] at hs; simp [sim] at hs) | simp_all)) ho hw (hrun.trans hx) (.inl rfl)) (cont v ρ1 w1 v1 H1 n1 hv k2 k3 k4 k7 k5 k6)
        | panicked c => obtain ⟨c1, h, _⟩ := k1; cases h
        | outgrown => exact k1.elim
      · exact hCC.elim
    · intro n0' s k1 ops ord F he ρ w a m L l D I hm ha
      cases d with
      | false => simp at he
      | true =>
      cases s with
      | nil => simp at he
      | cons y s =>
      simp only [List.map_cons, List.cons.injEq, AItem.inReg.injEq, true_and] at he
      obtain ⟨⟨rfl, rfl, rfl⟩, rfl⟩ := he
      rw [dOp_guard] at hg
      rw [dOp_dst] at ih
      rw [dOp_op] at hop
      have hw : mw P ops y = false := by
        cases h : mw P ops y with
        | false => rfl
        | true => have := (F.wait y (I.head_out F).2.2.1 h).1; rw [hop] at this; simp [lazyOp] at this
      refine DInv.lock F hw l L D ρ w a ha I fun ρ1 w1 a1 L1 l1 D1 ha1 I1 => ?_
      have hrd := I1.reads_out F
      have hmask := I1.masked
      have hev := ev_mask (tm := tm) hrd
      rw [hop] at hev
      obtain ⟨hyD, hyL, hlt, hys⟩ := I1.head_out F
      obtain ⟨o, ho, hc, hdst, hgd⟩ := cOper_op (P := P) (ops := ops) (i := y) hop (by simp)
      have hwant := gOK_wanted (a := a1) hmask hgd (by rw [gOK_mask hrd]; exact hg)
      obtain ⟨hsl0, hsl⟩ := I1.slots y (by simp)
      obtain ⟨f', args', ts, ho2, hf', hargs'⟩ := cop_call hc
      have e := cOpd_ev hmask hf'
      rw [hev f (by simp [opds]), hf] at e; simp only [VRel] at e; obtain ⟨fn', first', cap', e1, e2, e3, e4⟩ := e
      subst e2
      rw [ARel_iff] at e3 e4
      have hrun := exec_call (P := P) (w := w1) ho2 e1
      have hall : LRel ρ1 (first.toList ++ args.map (Opd.ev tm) ++ cap.toList) (first' ++ args'.map a1.eval ++ cap').toList := by
        simp only [Array.toList_append, Array.toList_map]
        have h := cOpds_ev hmask hargs'
        rw [List.map_congr_left (fun x hx => hev x (by simp [opds, hx]))] at h
        exact (e3.append h).append e4
      have hCC := hcall I1.hC ρ1 w1 _ I1.hH I1.hF hall
      simp only [Array.toArray_toList] at hCC
      have cont : ∀ (v : Value) (ρ2 : Ren) (w2 : World) (v1 : Value) (H1 : Heap) (n1 : Nat), VRel ρ2 v v1 → Q (.returned v) H1 n1 → HRel ρ2 H1 w2 → Fresh ρ2 n1 → Clean H1 n1 → n ≤ n1 → Ext n ρ1 w1 ρ2 w2 →
          Runs C n0 ρ1 w1 df (lone (b.atR (a1.put o.dst v1) (.inRegion ops l1 :: m)) cs w2) := by
        intro v ρ2 w2 v1 H1 n1 hv hQ hH1 hF1 hC1 hn1 hE
        have hkeep := hdraw v H1 n1 hQ hn1 rfl
        have hn := I1.hn
        have hap : (dOp P ops y).ap = aparts (csOf P ops) (msOf ops) y := by unfold dOp; rw [hop]; rfl
        have hlow : ∀ b, H b ≠ none → b < n := by
          intro b hb
          by_cases h : b < n
          · exact h
          · exact absurd (I1.hC b (by omega)) hb
        have hE0 : Ext n0 ρ1 w1 ρ2 w2 := hE.weaken (by omega)
        have I2 := I1.sync F hw (v := v) (v' := v1) (H1 := H1) (n1 := n1) (ρ1 := ρ2) (w1 := w2) hn1 hE0 hH1 hF1 hC1 hv (fun j hj hne h => by
            cases hx : ρ2 (n0 + j) with
            | none => rfl
            | some c =>
              rcases hE.new _ _ hx with h' | ⟨h', _⟩
              · rw [h] at h'; cases h'
              · omega)
          (fun j hj ad bb off had hev hHb => hkeep.2 ad (by rw [hap]; exact I1.unordered F hj had) bb off hev (hlow bb hHb)) (fun j hj hne _ => hkeep.1 _ (by omega) (by omega))
        refine Runs.later (n1 := n0) hE0 (Nat.le_refl _) ?_
        rw [← hdst]
        exact (ih v H1 n1 hQ hn1 b cs C _).2 _ s _ ops ord F rfl ρ2 w2 _ m L1 l1 _ I2 hm (by cases (cOper0 P ops y).dst <;> exact ha1)
      unfold Enters at hCC
      split at hCC
      · rename_i g' xs w2 hx
        obtain ⟨e', w3, fr, ⟨e0, ρ2, H1, n1, k1, k2, k3, k4, k7, k5, k6⟩, hcomes, _, hleave⟩ := hCC (b.atR a1 (.inRegion ops (y :: l1) :: m) :: cs)
        have hent := step_enter (b := b) (k := m) (cs := cs) (rest := l1) (nd_sim hc (by intro f args h; first | cases h | (rw [h] at hs; simp [sim] at hs) | simp_all)) ho hwant (hrun.trans hx)
        cases e0 with
        | returned v =>
          obtain ⟨v1, rfl, hv⟩ := k1
          refine Runs.step hent (Runs.steps hcomes (Runs.step (step_leave_returned hleave) ?_))
          rw [fin_at ho]
          exact cont v ρ2 w3 v1 H1 n1 hv k2 k3 k4 k7 k5 k6
        | panicked c => have := (hpan c H1 n1 k2 k5).1; cases this
        | outgrown => exact k1.elim
      · rename_i v1 w2 hx
        obtain ⟨e0, ρ2, H1, n1, k1, k2, k3, k4, k7, k5, k6⟩ := hCC
        cases e0 with
        | returned v =>
          obtain ⟨v2, hv2, hv⟩ := k1
          cases hv2
          exact Runs.step (step_value (nd_sim hc (by intro f args h; first | cases h | (rw [h] at hs; simp [sim] at hs) | simp_all)) ho hwant (hrun.trans hx) (.inl rfl)) (cont v ρ2 w2 v1 H1 n1 hv k2 k3 k4 k7 k5 k6)
        | panicked c => obtain ⟨c1, h, _⟩ := k1; cases h
        | outgrown => exact k1.elim
      · exact hCC.elim
  | @yield res0 n0 d o aops k tm H n R f args l first cap Q hg hop hf hcall hdraw _ ih =>
    intro b cs C df
    refine ⟨?_, ?_⟩
    · intro ρ w a k' hH hF hC ht hk ha
      cases d with
      | true => exact hk.elim
      | false =>
      obtain ⟨ops, todo, m, rfl, hl, hnd, hn0, hslot, hm⟩ := hk
      cases todo with
      | nil => simp at hl
      | cons i todo =>
      simp only [List.map_cons, List.cons.injEq] at hl; obtain ⟨rfl, rfl⟩ := hl
      obtain ⟨o, ho, hc, hdst, hgd⟩ := cOper_op (P := P) (ops := ops) (i := i) hop (by simp)
      have hw := gOK_wanted ht hgd hg
      obtain ⟨f', args', ts, ho2, hf', hargs'⟩ := cop_call hc
      have e := cOpd_ev ht hf'
      rw [hf] at e; simp only [VRel] at e; obtain ⟨fn', first', cap', e1, ⟨l', e2, e5⟩, e3, e4⟩ := e
      subst e2
      rw [ARel_iff] at e3 e4
      have hrun := exec_yield (P := P) (w := w) ho2 e1
      have hall : LRel ρ (first.toList ++ args.map (Opd.ev tm)) (first' ++ args'.map a.eval).toList := by
        simp only [Array.toList_append, Array.toList_map]
        exact e3.append (cOpds_ev ht hargs')
      have hCC := hcall hC ρ w _ l' hH hF e5 hall
      simp only [Array.toArray_toList] at hCC
      have cont : ∀ (v : Value) (ρ1 : Ren) (w1 : World) (v1 : Value) (H1 : Heap) (n1 : Nat), VRel ρ1 v v1 → Q (.returned v) H1 n1 → HRel ρ1 H1 w1 → Fresh ρ1 n1 → Clean H1 n1 → n ≤ n1 → Ext n ρ w ρ1 w1 →
          Runs C n0 ρ w df (lone (b.atR (a.put o.dst v1) (.inRegion ops todo :: m)) cs w1) := by
        intro v ρ1 w1 v1 H1 n1 hv hQ hH1 hF1 hC1 hn1 hE
        refine Runs.later (n1 := n0) (hE.weaken hn0) (Nat.le_refl _) ((ih v H1 n1 hQ hn1 b cs C df).1 ρ1 w1 (a.put o.dst v1) _ hH1 hF1 hC1 (by rw [hdst]; exact put_rel (LRel.mono hE.le _ _ ht) hv)
          ⟨ops, todo, m, rfl, rfl, (List.nodup_cons.1 hnd).2, by omega, fun j hj => ?_, hm⟩ (by cases o.dst <;> exact ha))
        have hj' := hslot j (by simp [hj])
        refine ⟨?_, by omega⟩
        cases hx : ρ1 (n0 + j) with
        | none => rfl
        | some c =>
          rcases hE.new _ _ hx with h | ⟨h, _⟩
          · rw [hj'.1] at h; cases h
          · omega
      obtain ⟨fn2, tmps2, as2, bd2, hy, hG⟩ := hCC
      have hent := step_round (b := b) (k := m) (cs := cs) (rest := todo) (nd_sim hc (by intro f args h; cases h)) ho hw (hrun.trans hy)
      intro q1 q2 q3
      refine C.closed _ _ hent (hG C.G _ cs C.closed ?_)
      rintro v1 w2 ⟨e0, ρ1, H1, n1, k1, k2, k3, k4, k7, k5, k6⟩
      cases e0 with
      | returned v =>
        obtain ⟨v2, hv2, hv⟩ := k1
        cases hv2
        rw [fin_at ho]
        exact cont v ρ1 w2 v1 H1 n1 hv k2 k3 k4 k7 k5 k6 q1 q2 q3
      | panicked c => obtain ⟨c1, h, _⟩ := k1; cases h
      | outgrown => exact k1.elim
    · intro n0' s k1 ops ord F he ρ w a m L l D I hm ha
      cases d with
      | false => simp at he
      | true =>
      cases s with
      | nil => simp at he
      | cons y s =>
      simp only [List.map_cons, List.cons.injEq, AItem.inReg.injEq, true_and] at he
      obtain ⟨⟨rfl, rfl, rfl⟩, rfl⟩ := he
      rw [dOp_guard] at hg
      rw [dOp_dst] at ih
      rw [dOp_op] at hop
      have hw : mw P ops y = false := by
        cases h : mw P ops y with
        | false => rfl
        | true => have := (F.wait y (I.head_out F).2.2.1 h).1; rw [hop] at this; simp [lazyOp] at this
      refine DInv.lock F hw l L D ρ w a ha I fun ρ1 w1 a1 L1 l1 D1 ha1 I1 => ?_
      have hrd := I1.reads_out F
      have hmask := I1.masked
      have hev := ev_mask (tm := tm) hrd
      rw [hop] at hev
      obtain ⟨hyD, hyL, hlt, hys⟩ := I1.head_out F
      obtain ⟨o, ho, hc, hdst, hgd⟩ := cOper_op (P := P) (ops := ops) (i := y) hop (by simp)
      have hwant := gOK_wanted (a := a1) hmask hgd (by rw [gOK_mask hrd]; exact hg)
      obtain ⟨hsl0, hsl⟩ := I1.slots y (by simp)
      obtain ⟨f', args', ts, ho2, hf', hargs'⟩ := cop_call hc
      have e := cOpd_ev hmask hf'
      rw [hev f (by simp [opds]), hf] at e; simp only [VRel] at e; obtain ⟨fn', first', cap', e1, ⟨l', e2, e5⟩, e3, e4⟩ := e
      subst e2
      rw [ARel_iff] at e3 e4
      have hrun := exec_yield (P := P) (w := w1) ho2 e1
      have hall : LRel ρ1 (first.toList ++ args.map (Opd.ev tm)) (first' ++ args'.map a1.eval).toList := by
        simp only [Array.toList_append, Array.toList_map]
        have h := cOpds_ev hmask hargs'
        rw [List.map_congr_left (fun x hx => hev x (by simp [opds, hx]))] at h
        exact e3.append h
      have hCC := hcall I1.hC ρ1 w1 _ l' I1.hH I1.hF e5 hall
      simp only [Array.toArray_toList] at hCC
      have cont : ∀ (v : Value) (ρ2 : Ren) (w2 : World) (v1 : Value) (H1 : Heap) (n1 : Nat), VRel ρ2 v v1 → Q (.returned v) H1 n1 → HRel ρ2 H1 w2 → Fresh ρ2 n1 → Clean H1 n1 → n ≤ n1 → Ext n ρ1 w1 ρ2 w2 →
          Runs C n0 ρ1 w1 df (lone (b.atR (a1.put o.dst v1) (.inRegion ops l1 :: m)) cs w2) := by
        intro v ρ2 w2 v1 H1 n1 hv hQ hH1 hF1 hC1 hn1 hE
        have hkeep := hdraw v H1 n1 hQ hn1 rfl
        have hn := I1.hn
        have hap : (dOp P ops y).ap = aparts (csOf P ops) (msOf ops) y := by unfold dOp; rw [hop]; rfl
        have hlow : ∀ b, H b ≠ none → b < n := by
          intro b hb
          by_cases h : b < n
          · exact h
          · exact absurd (I1.hC b (by omega)) hb
        have hE0 : Ext n0 ρ1 w1 ρ2 w2 := hE.weaken (by omega)
        have I2 := I1.sync F hw (v := v) (v' := v1) (H1 := H1) (n1 := n1) (ρ1 := ρ2) (w1 := w2) hn1 hE0 hH1 hF1 hC1 hv (fun j hj hne h => by
            cases hx : ρ2 (n0 + j) with
            | none => rfl
            | some c =>
              rcases hE.new _ _ hx with h' | ⟨h', _⟩
              · rw [h] at h'; cases h'
              · omega)
          (fun j hj ad bb off had hev hHb => hkeep.2 ad (by rw [hap]; exact I1.unordered F hj had) bb off hev (hlow bb hHb)) (fun j hj hne _ => hkeep.1 _ (by omega) (by omega))
        refine Runs.later (n1 := n0) hE0 (Nat.le_refl _) ?_
        rw [← hdst]
        exact (ih v H1 n1 hQ hn1 b cs C _).2 _ s _ ops ord F rfl ρ2 w2 _ m L1 l1 _ I2 hm (by cases (cOper0 P ops y).dst <;> exact ha1)
      obtain ⟨fn2, tmps2, as2, bd2, hy, hG⟩ := hCC
      have hent := step_round (b := b) (k := m) (cs := cs) (rest := l1) (nd_sim hc (by intro f args h; cases h)) ho hwant (hrun.trans hy)
      intro q1 q2 q3
      refine C.closed _ _ hent (hG C.G _ cs C.closed ?_)
      rintro v1 w3 ⟨e0, ρ2, H1, n1, k1, k2, k3, k4, k7, k5, k6⟩
      cases e0 with
      | returned v =>
        obtain ⟨v2, hv2, hv⟩ := k1
        cases hv2
        rw [fin_at ho]
        exact cont v ρ2 w3 v1 H1 n1 hv k2 k3 k4 k7 k5 k6 q1 q2 q3
      | panicked c => obtain ⟨c1, h, _⟩ := k1; cases h
      | outgrown => exact k1.elim
  | @appIn res0 n0 d o aops k tm H n R i0 e z bytes s0 x v eff hg hop hap hap0 _ ih =>
    intro b cs C df
    refine ⟨?_, ?_⟩
    · intro ρ w a k' hH hF hC ht hk ha
      cases d with
      | true => exact hk.elim
      | false =>
      obtain ⟨ops, todo, m, rfl, hl, hnd, hn0, hslot, hm⟩ := hk
      cases todo with
      | nil => simp at hl
      | cons i todo =>
      simp only [List.map_cons, List.cons.injEq] at hl; obtain ⟨rfl, rfl⟩ := hl
      obtain ⟨o, ho, hc, hdst, hgd⟩ := cOper_op (P := P) (ops := ops) (i := i) hop (by simp)
      have hw := gOK_wanted ht hgd hg
      obtain ⟨s', x', t, u, ti, dd, ho2, rfl, hu, hd, hni, hti, hz, hs0, hzs, hb0, rfl, h1, h2⟩ := cop_append hc
      obtain ⟨hsl, hsn⟩ := hslot i0 (by simp)
      obtain ⟨r, v', ρ', w', h1, h2, h3, h4, h5, h6⟩ := ok_append (n0 := n0) (i := i0) hH ht ho2 hu hd hni hti hz hs0 hzs h1 h2 hap
      have ih1 := (ih b cs C df).1
      refine Runs.step (step_value (nd_sim hc (by intro f args h; first | cases h | (rw [h] at hs; simp [sim] at hs) | simp_all)) ho hw h1 h2) (Runs.later (n1 := n0) h5 (Nat.le_refl _) (ih1 ρ' w' (a.put o.dst v') _ h4 ?_ ?_ ?_ ⟨ops, todo, m, rfl, rfl, (List.nodup_cons.1 hnd).2, hn0, ?_, hm⟩ (by
        cases o.dst <;> exact ha)))
      · intro j c hj
        by_cases e : j = n0 + i0
        · omega
        · rw [h6 j e] at hj; exact hF j c hj
      · exact appIn_clean hC hap
      · rw [hdst]; exact put_rel (LRel.mono h5.le _ _ ht) h3
      · intro j hj
        have hne : j ≠ i0 := fun e => (List.nodup_cons.1 hnd).1 (e ▸ hj)
        have := hslot j (by simp [hj])
        exact ⟨by rw [h6 _ (by omega)]; exact this.1, this.2⟩
    · intro n0' s k1 ops ord F he ρ w a m L l D I hm ha
      cases d with
      | false => simp at he
      | true =>
      cases s with
      | nil => simp at he
      | cons y s =>
      simp only [List.map_cons, List.cons.injEq, AItem.inReg.injEq, true_and] at he
      obtain ⟨⟨rfl, rfl, rfl⟩, rfl⟩ := he
      rw [dOp_guard] at hg
      rw [dOp_dst] at ih
      rw [dOp_op] at hop
      have hw : mw P ops y = false := by
        cases h : mw P ops y with
        | false => rfl
        | true => have := (F.wait y (I.head_out F).2.2.1 h).1; rw [hop] at this; simp [lazyOp] at this
      refine DInv.lock F hw l L D ρ w a ha I fun ρ1 w1 a1 L1 l1 D1 ha1 I1 => ?_
      have hrd := I1.reads_out F
      have hmask := I1.masked
      have hev := ev_mask (tm := tm) hrd
      rw [hop] at hev
      obtain ⟨hyD, hyL, hlt, hys⟩ := I1.head_out F
      obtain ⟨o, ho, hc, hdst, hgd⟩ := cOper_op (P := P) (ops := ops) (i := y) hop (by simp)
      have hwant := gOK_wanted (a := a1) hmask hgd (by rw [gOK_mask hrd]; exact hg)
      obtain ⟨hsl0, hsl⟩ := I1.slots y (by simp)
      obtain ⟨s', x', t, u, ti, dd, ho2, rfl, hu, hd, hni, hti, hz, hs0, hzs, hb0, rfl, hs1, hx1⟩ := cop_append hc
      have hap2 : appIn H z.length (s0.ev (mask (L1.map fun j => (cOper0 P ops j).dst) tm)) (x.ev (mask (L1.map fun j => (cOper0 P ops j).dst) tm)) = some (v, eff) := by
        rw [hev s0 (by simp [opds]), hev x (by simp [opds])]; exact hap
      obtain ⟨r, v', ρ', w', h1, h2, h3, h4, h5, h6⟩ := ok_append (n0 := n0) (i := i0) I1.hH hmask ho2 hu hd hni hti hz hs0 hzs hs1 hx1 hap2
      have hap' := hap0 rfl
      have hblk : eff = none ∨ ∃ bb x, eff = some (bb, x) ∧ ρ1 bb ≠ none := by
        rcases appIn_blk hap with h | ⟨bb, off, nn, c, x0, e1, e2⟩
        · exact .inl h
        · right
          refine ⟨bb, x0, e2, ?_⟩
          have hrel := cOpd_ev hmask hs1
          rw [hev s0 (by simp [opds]), e1] at hrel
          simp only [VRel] at hrel
          obtain ⟨b', _, _, hb'⟩ := hrel
          rw [hb']; simp
      have hF1 : Fresh ρ' n := by
        intro j c hj
        by_cases e : j = n0 + i0
        · have := I1.hn; omega
        · rw [h6 j e] at hj; exact I1.hF j c hj
      have I2 := I1.sync F hw (v := v) (v' := v') (H1 := eff.app H) (n1 := n) (ρ1 := ρ') (w1 := w') (Nat.le_refl _) h5 h4 hF1 (appIn_clean I1.hC hap) h3 (fun j _ hne h => by rw [h6 _ (by omega)]; exact h)
        (by
          intro j hj ad bb off had hev hHb
          rcases hblk with rfl | ⟨bs, x, rfl, h3⟩
          · rfl
          · have hmem := I1.unordered F hj had
            have : (dOp P ops i0).ap = aparts (csOf P ops) (msOf ops) i0 := by unfold dOp; rw [hop]; rfl
            rw [this] at hap'
            simp only [apartOK, List.all_eq_true] at hap'
            have h7 := hap' ad hmem
            rw [hev] at h7
            simp only [blkNe, Bool.not_eq_true', beq_eq_false_iff_ne] at h7
            exact upd_ne _ _ h7) (by
          intro j hj hne h
          rcases hblk with rfl | ⟨bb, x, rfl, hbb⟩
          · rfl
          · exact upd_ne _ _ (fun e => hbb (e ▸ h)))
      refine Runs.step (step_value (nd_sim hc (by intro f args h; first | cases h | (rw [h] at hs; simp [sim] at hs) | simp_all)) ho hwant h1 h2) (Runs.later (n1 := n0) h5 (Nat.le_refl _) ?_)
      rw [← hdst]
      exact (ih b cs C _).2 _ s _ ops ord F rfl ρ' w' _ m L1 l1 _ I2 hm (by cases (cOper0 P ops i0).dst <;> exact ha1)
  | @appNew res0 n0 d o aops k tm H n R i0 e z bytes s0 x hg hop hf hsome _ ih =>
    intro b cs C df
    refine ⟨?_, ?_⟩
    · intro ρ w a k' hH hF hC ht hk ha
      cases d with
      | true => exact hk.elim
      | false =>
      obtain ⟨ops, todo, m, rfl, hl, hnd, hn0, hslot, hm⟩ := hk
      cases todo with
      | nil => simp at hl
      | cons i todo =>
      simp only [List.map_cons, List.cons.injEq] at hl; obtain ⟨rfl, rfl⟩ := hl
      obtain ⟨o, ho, hc, hdst, hgd⟩ := cOper_op (P := P) (ops := ops) (i := i) hop (by simp)
      have hw := gOK_wanted ht hgd hg
      obtain ⟨s', x', t, u, ti, dd, ho2, rfl, hu, hd, hni, hti, hz, hs0, hzs, hb0, rfl, h1, h2⟩ := cop_append hc
      obtain ⟨hsl, hsn⟩ := hslot i0 (by simp)
      obtain ⟨cap, c1, c2, hcap⟩ := ok_appNew (n0 := n0) (i := i0) hH hsl ht ho2 hu hd hni hti hz hs0 hzs hb0 h1 h2 hf
      obtain ⟨⟨v, eff⟩, hve⟩ := Option.isSome_iff_exists.1 (hsome cap c1 c2)
      obtain ⟨r, v', ρ', w', h1, h2, h3, h4, h5, h6⟩ := hcap v eff hve
      have ih1 := (ih cap v eff c1 c2 hve b cs C df).1
      refine Runs.step (step_value (nd_sim hc (by intro f args h; first | cases h | (rw [h] at hs; simp [sim] at hs) | simp_all)) ho hw h1 h2) (Runs.later (n1 := n0) h5 (Nat.le_refl _) (ih1 ρ' w' (a.put o.dst v') _ h4 ?_ ?_ ?_ ⟨ops, todo, m, rfl, rfl, (List.nodup_cons.1 hnd).2, hn0, ?_, hm⟩ (by
        cases o.dst <;> exact ha)))
      · intro j c hj
        by_cases e : j = n0 + i0
        · omega
        · rw [h6 j e] at hj; exact hF j c hj
      · exact appNew_clean hC hve hsn
      · rw [hdst]; exact put_rel (LRel.mono h5.le _ _ ht) h3
      · intro j hj
        have hne : j ≠ i0 := fun e => (List.nodup_cons.1 hnd).1 (e ▸ hj)
        have := hslot j (by simp [hj])
        exact ⟨by rw [h6 _ (by omega)]; exact this.1, this.2⟩
    · intro n0' s k1 ops ord F he ρ w a m L l D I hm ha
      cases d with
      | false => simp at he
      | true =>
      cases s with
      | nil => simp at he
      | cons y s =>
      simp only [List.map_cons, List.cons.injEq, AItem.inReg.injEq, true_and] at he
      obtain ⟨⟨rfl, rfl, rfl⟩, rfl⟩ := he
      rw [dOp_guard] at hg
      rw [dOp_dst] at ih
      rw [dOp_op] at hop
      have hw : mw P ops y = false := by
        cases h : mw P ops y with
        | false => rfl
        | true => have := (F.wait y (I.head_out F).2.2.1 h).1; rw [hop] at this; simp [lazyOp] at this
      refine DInv.lock F hw l L D ρ w a ha I fun ρ1 w1 a1 L1 l1 D1 ha1 I1 => ?_
      have hrd := I1.reads_out F
      have hmask := I1.masked
      have hev := ev_mask (tm := tm) hrd
      rw [hop] at hev
      obtain ⟨hyD, hyL, hlt, hys⟩ := I1.head_out F
      obtain ⟨o, ho, hc, hdst, hgd⟩ := cOper_op (P := P) (ops := ops) (i := y) hop (by simp)
      have hwant := gOK_wanted (a := a1) hmask hgd (by rw [gOK_mask hrd]; exact hg)
      obtain ⟨hsl0, hsl⟩ := I1.slots y (by simp)
      obtain ⟨s', x', t, u, ti, dd, ho2, rfl, hu, hd, hni, hti, hz, hs0, hzs, hb0, rfl, hs1, hx1⟩ := cop_append hc
      have es : s0.ev (mask (L1.map fun j => (cOper0 P ops j).dst) tm) = s0.ev tm := hev s0 (by simp [opds])
      have ex : x.ev (mask (L1.map fun j => (cOper0 P ops j).dst) tm) = x.ev tm := hev x (by simp [opds])
      obtain ⟨cap, c1, c2, hcap⟩ := ok_appNew (n0 := n0) (i := i0) I1.hH hsl hmask ho2 hu hd hni hti hz hs0 hzs hb0 hs1 hx1 (by rw [es, ex]; exact hf)
      rw [es, ex] at c1 hcap
      obtain ⟨⟨v, eff⟩, hve⟩ := Option.isSome_iff_exists.1 (hsome cap c1 c2)
      obtain ⟨r, v', ρ', w', h1, h2, h3, h4, h5, h6⟩ := hcap v eff hve
      obtain ⟨xo, rfl⟩ := appNew_eff hve
      have hF1 : Fresh ρ' n := by
        intro j c hj
        by_cases e : j = n0 + i0
        · have := I1.hn; omega
        · rw [h6 j e] at hj; exact I1.hF j c hj
      have I2 := I1.sync F hw (v := v) (v' := v') (H1 := upd H (n0 + i0) xo) (n1 := n) (ρ1 := ρ') (w1 := w') (Nat.le_refl _) h5 h4 hF1 (appNew_clean I1.hC hve (by have := I1.hn; omega)) h3 (fun j _ hne h => by rw [h6 _ (by omega)]; exact h)
        (by
          intro j hj ad bb off had hev hHb
          refine upd_ne _ _ (fun e => ?_)
          rw [e] at hHb; exact hHb hsl0) (fun j _ hne _ => upd_ne _ _ (by omega))
      refine Runs.step (step_value (nd_sim hc (by intro f args h; first | cases h | (rw [h] at hs; simp [sim] at hs) | simp_all)) ho hwant h1 h2) (Runs.later (n1 := n0) h5 (Nat.le_refl _) ?_)
      rw [← hdst]
      exact (ih cap v _ c1 c2 hve b cs C _).2 _ s _ ops ord F rfl ρ' w' _ m L1 l1 _ I2 hm (by cases (cOper0 P ops i0).dst <;> exact ha1)
  | @strBytes res0 n0 d o aops k tm H n R i0 e x t hg hop hx hts _ ih =>
    intro b cs C df
    refine ⟨?_, ?_⟩
    · intro ρ w a k' hH hF hC ht hk ha
      cases d with
      | true => exact hk.elim
      | false =>
      obtain ⟨ops, todo, m, rfl, hl, hnd, hn0, hslot, hm⟩ := hk
      cases todo with
      | nil => simp at hl
      | cons i todo =>
      simp only [List.map_cons, List.cons.injEq] at hl; obtain ⟨rfl, rfl⟩ := hl
      obtain ⟨o, ho, hc, hdst, hgd⟩ := cOper_op (P := P) (ops := ops) (i := i) hop (by simp)
      have hw := gOK_wanted ht hgd hg
      obtain ⟨ts, dd, x', ho2, rfl, hu, hd, he, h1⟩ := cop_strBytes hc
      obtain ⟨hsl, hsn⟩ := hslot i0 (by simp)
      obtain ⟨cap, c1, c2, r, v', ρ', w', h1, h2, h3, h4, h5, h6⟩ := ok_strBytes (n0 := n0) (i := i0) hH hsl ht ho2 hu hd he h1 hx hts
      have ih1 := (ih cap c1 c2 b cs C df).1
      refine Runs.step (step_value (nd_sim hc (by intro f args h; first | cases h | (rw [h] at hs; simp [sim] at hs) | simp_all)) ho hw h1 h2) (Runs.later (n1 := n0) h5 (Nat.le_refl _) (ih1 ρ' w' (a.put o.dst v') _ h4 ?_ ?_ ?_ ⟨ops, todo, m, rfl, rfl, (List.nodup_cons.1 hnd).2, hn0, ?_, hm⟩ (by
        cases o.dst <;> exact ha)))
      · intro j c hj
        by_cases e : j = n0 + i0
        · omega
        · rw [h6 j e] at hj; exact hF j c hj
      · exact clean_upd hC hsn
      · rw [hdst]; exact put_rel (LRel.mono h5.le _ _ ht) h3
      · intro j hj
        have hne : j ≠ i0 := fun e => (List.nodup_cons.1 hnd).1 (e ▸ hj)
        have := hslot j (by simp [hj])
        exact ⟨by rw [h6 _ (by omega)]; exact this.1, this.2⟩
    · intro n0' s k1 ops ord F he ρ w a m L l D I hm ha
      cases d with
      | false => simp at he
      | true =>
      cases s with
      | nil => simp at he
      | cons y s =>
      simp only [List.map_cons, List.cons.injEq, AItem.inReg.injEq, true_and] at he
      obtain ⟨⟨rfl, rfl, rfl⟩, rfl⟩ := he
      rw [dOp_guard] at hg
      rw [dOp_dst] at ih
      rw [dOp_op] at hop
      have hw : mw P ops y = false := by
        cases h : mw P ops y with
        | false => rfl
        | true => have := (F.wait y (I.head_out F).2.2.1 h).1; rw [hop] at this; simp [lazyOp] at this
      refine DInv.lock F hw l L D ρ w a ha I fun ρ1 w1 a1 L1 l1 D1 ha1 I1 => ?_
      have hrd := I1.reads_out F
      have hmask := I1.masked
      have hev := ev_mask (tm := tm) hrd
      rw [hop] at hev
      obtain ⟨hyD, hyL, hlt, hys⟩ := I1.head_out F
      obtain ⟨o, ho, hc, hdst, hgd⟩ := cOper_op (P := P) (ops := ops) (i := y) hop (by simp)
      have hwant := gOK_wanted (a := a1) hmask hgd (by rw [gOK_mask hrd]; exact hg)
      obtain ⟨hsl0, hsl⟩ := I1.slots y (by simp)
      obtain ⟨ts, dd, x', ho2, rfl, hu, hd, he, hx1⟩ := cop_strBytes hc
      obtain ⟨cap, c1, c2, r, v', ρ', w', h1, h2, h3, h4, h5, h6⟩ := ok_strBytes (n0 := n0) (i := i0) I1.hH hsl hmask ho2 hu hd he hx1 (by rw [hev x (by simp [opds])]; exact hx) hts
      have hF1 : Fresh ρ' n := by
        intro j c hj
        by_cases e : j = n0 + i0
        · have := I1.hn; omega
        · rw [h6 j e] at hj; exact I1.hF j c hj
      have I2 := I1.sync F hw (v' := v') (n1 := n) (ρ1 := ρ') (w1 := w') (Nat.le_refl _) h5 h4 hF1 (clean_upd I1.hC (by have := I1.hn; omega)) h3 (fun j _ hne h => by rw [h6 _ (by omega)]; exact h)
        (by
          intro j hj ad bb off had hev hHb
          refine upd_ne _ _ (fun e => ?_)
          rw [e] at hHb; exact hHb hsl0) (fun j _ hne _ => upd_ne _ _ (by omega))
      refine Runs.step (step_value (nd_sim hc (by intro f args h; first | cases h | (rw [h] at hs; simp [sim] at hs) | simp_all)) ho hwant h1 h2) (Runs.later (n1 := n0) h5 (Nat.le_refl _) ?_)
      rw [← hdst]
      exact (ih cap c1 c2 b cs C _).2 _ s _ ops ord F rfl ρ' w' _ m L1 l1 _ I2 hm (by cases (cOper0 P ops i0).dst <;> exact ha1)
  | @panic res0 n0 o aops k tm H n R x hg hop hx hRp =>
    intro b cs C df
    refine ⟨?_, ?_⟩
    · intro ρ w a k' hH hF hC ht hk ha
      obtain ⟨ops, todo, m, rfl, hl, hnd, hn0, hslot, hm⟩ := hk
      cases todo with
      | nil => simp at hl
      | cons i todo =>
      simp only [List.map_cons, List.cons.injEq] at hl; obtain ⟨rfl, rfl⟩ := hl
      obtain ⟨o, ho, hc, hdst, hgd⟩ := cOper_op (P := P) (ops := ops) (i := i) hop (by simp)
      have hw := gOK_wanted ht hgd hg
      obtain ⟨x', hx', ho2⟩ := cop_panic hc
      have e := cOpd_ev ht hx'
      obtain ⟨t, v, htv⟩ := hx
      have e0 := e
      rw [htv] at e; simp only [VRel] at e; obtain ⟨u, e1, _⟩ := e
      have hrun : (execOp a.eval o).run P w = .halt (.panic (a.eval x')) w := by
        rcases ho2 with ho2 | ⟨ts, ho2⟩
        · simp [execOp, ho2, Instr.panic, e1, Result.andThen]
        · simp [execOp, ho2, resolve, invoke, builtin, Instr.panic, e1, Result.andThen]
      refine Runs.step (step_panic (nd_sim hc (by intro f args h; cases h)) ho hw hrun) ?_
      intro q1 q2 q3; subst ha
      exact C.die ρ w a _ _ _ H n hH hF hC (Nat.le_trans q1 hn0) q2 q3 (by simp only [PRel]; exact ⟨_, _, rfl, e0, rfl, rfl, rfl⟩) hRp
    · intro n0' s k1 ops ord F he; simp at he
end sound
end Go.Ab

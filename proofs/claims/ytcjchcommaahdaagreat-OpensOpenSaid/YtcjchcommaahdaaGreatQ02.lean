/- The other operations that call nothing. Slices, literals, and the rest that calls nothing; then all of them together. No conditions. -/
import Derived.Test.YtcjchcommaahdaaGreatQ01
set_option maxRecDepth 20000
set_option maxHeartbeats 4000000
set_option linter.all false
namespace Go.Ab
section ops
variable {P : Program} {n0 i : Nat} {ρ : Ren} {H : Heap} {w : World} {tm : List Value} {a : Act} {o : Oper} {p : AOp} {v : Value} {eff : Eff}

theorem int_rel {k : IntKind} {n : Int} {u : Value} (h : VRel ρ (.int k n) u) : u = .int k n := by simpa only [VRel] using h

theorem run_binInt {op : BinOp} {t : TypeId} {k k' : IntKind} {x y : Int} {r : Value} (h : binInt op k x k' y = some r) : (binOp op t (.int k x) (.int k' y)).run P w = .ok r w := by
  unfold binInt at h
  cases op <;> simp only at h
  case shl => split at h <;> first | (simp at h; done) | (cases h; rename_i hb; simp [binOp, Op.shift, show ¬ y < 0 by omega])
  case shr => split at h <;> first | (simp at h; done) | (cases h; rename_i hb; simp [binOp, Op.shift, show ¬ y < 0 by omega])
  case quo =>
    split at h <;> first | (simp at h; done) | skip
    rename_i hk
    split at h <;> first | (simp at h; done) | skip
    rename_i hb
    cases h; simp [binOp, hk, Op.intDiv, hb]
  case rem =>
    split at h <;> first | (simp at h; done) | skip
    rename_i hk
    split at h <;> first | (simp at h; done) | skip
    rename_i hb
    cases h; simp [binOp, hk, Op.intDiv, hb]
  all_goals
    split at h <;> first | (simp at h; done) | skip
    rename_i hk
    cases h
    subst hk
    simp [binOp, Op.intArith, Op.intBits, Op.intCmp]

theorem run_eqGuard_int {op : BinOp} {t : TypeId} {x y : Operand} {k k' : IntKind} {a b : Int} : (eqGuard op t x y (.int k a) (.int k' b)).run P w = .ok () w := by
  cases op <;> simp [eqGuard]

theorem ok_bin (hH : HRel ρ H w) (ht : LRel ρ tm a.tmps.toList) {op : BinOp} {t yt : TypeId} {x z : Operand} {y q : Opd} (ho : o.op = .binOp op t x z yt) (hx : cOpd x = some y) (hz : cOpd z = some q)
    (h : sim n0 tm H (.bin op y q) = some (v, eff)) : OpOK P n0 i ρ H w a o v eff := by
  have e1 := cOpd_ev ht hx; have e2 := cOpd_ev ht hz
  simp only [sim] at h
  split at h <;> first | (simp at h; done) | skip
  rename_i k n k' n' h1 h2
  rw [h1] at e1; rw [h2] at e2
  have e1 := int_rel e1; have e2 := int_rel e2
  cases hb : binInt op k n k' n' with
  | none => simp [hb] at h
  | some r =>
    simp [hb] at h; obtain ⟨rfl, rfl⟩ := h
    refine OpOK.pure (v' := r) hH ?_ ?_
    · simp [execOp, ho, e1, e2, run_eqGuard_int, run_binInt hb]
    · unfold binInt at hb
      cases op <;> simp only at hb
      case quo => split at hb <;> first | (simp at hb; done) | (split at hb <;> first | (simp at hb; done) | (cases hb; simp [VRel]))
      case rem => split at hb <;> first | (simp at hb; done) | (split at hb <;> first | (simp at hb; done) | (cases hb; simp [VRel]))
      all_goals split at hb <;> first | (simp at hb; done) | (cases hb; simp [VRel])

theorem cellEq_rel {s : Nat} {x y x' y' : Value} {r : Bool} (h : cellEq s x y = some r) (hx : VRel ρ x x') (hy : VRel ρ y y') : cellEq s x' y' = some r := by
  unfold cellEq at h
  split at h <;> first | (simp at h; done) | skip
  all_goals (simp only [VRel] at hx hy; subst hx; subst hy; simpa [cellEq] using h)
theorem cellsEq_rel : ∀ {s : List Nat} {x y x' y' : List Value} {r : Bool}, cellsEq s x y = some r → LRel ρ x x' → LRel ρ y y' → cellsEq s x' y' = some r
  | [], [], [], x', y', r, h, hx, hy => by simp only [LRel] at hx hy; subst hx; subst hy; exact h
  | s :: ss, a :: l, b :: m, x', y', r, h, hx, hy => by
    simp only [LRel] at hx hy; obtain ⟨u, k, rfl, h1, h2⟩ := hx; obtain ⟨u', k', rfl, h3, h4⟩ := hy
    simp only [cellsEq] at h
    split at h <;> first | (simp at h; done) | skip
    rename_i r1 r2 g1 g2
    simp only [cellsEq, cellEq_rel g1 h1 h3, cellsEq_rel g2 h2 h4]; exact h
  | [], [], _ :: _, _, _, _, h, _, _ => by simp [cellsEq] at h
  | [], _ :: _, _, _, _, _, h, _, _ => by simp [cellsEq] at h
  | _ :: _, [], _, _, _, _, h, _, _ => by simp [cellsEq] at h
  | _ :: _, _ :: _, [], _, _, _, h, _, _ => by simp [cellsEq] at h

theorem ok_eqv (hH : HRel ρ H w) (ht : LRel ρ tm a.tmps.toList) {neg : Bool} {t yt : TypeId} {x z : Operand} {y q : Opd} {sh : List Nat} (ho : o.op = .binOp (if neg then .neq else .eql) t x z yt)
    (hx : cOpd x = some y) (hz : cOpd z = some q) (hsh : shapeT P 30 t = some sh) (hg : aggB P t = some true) (hgd : P.eqGuardType P.depth t = false)
    (h : sim n0 tm H (.eqv neg sh y q) = some (v, eff)) : OpOK P n0 i ρ H w a o v eff := by
  have e1 := cOpd_ev ht hx; have e2 := cOpd_ev ht hz
  simp only [sim] at h
  split at h <;> first | (simp at h; done) | skip
  rename_i xs ys h1 h2
  rw [h1] at e1; rw [h2] at e2
  simp only [VRel] at e1 e2; obtain ⟨xs', e1, g1⟩ := e1; obtain ⟨ys', e2, g2⟩ := e2
  rw [ARel_iff] at g1 g2
  split at h <;> first | (simp at h; done) | skip
  rename_i r hr
  simp only [Option.some.injEq, Prod.mk.injEq] at h; obtain ⟨rfl, rfl⟩ := h
  have hr' := cellsEq_rel hr g1 g2
  obtain ⟨_, g, hg', _, hE⟩ := shapeT_ok 30 t sh hsh
  rw [hg] at hg'; cases hg'
  have hrun := hE 10000 (by omega) w _ _ r hr'
  simp only [valOf, if_true] at hrun
  refine OpOK.pure (v' := .bool (bif neg then !r else r)) hH ?_ (by simp [VRel])
  cases neg
  · simp only [execOp, ho, Bool.false_eq_true, if_false, Sem.run_bind, e1, e2, run_eqGuard_agg w _ t x z xs' ys' hgd, Result.andThen_ok, run_eql_struct, cond_false]
    simp only [Array.toArray_toList] at hrun
    simp [hrun]
  · simp only [execOp, ho, if_true, Sem.run_bind, e1, e2, run_eqGuard_agg w _ t x z xs' ys' hgd, Result.andThen_ok, run_neq_struct, cond_true]
    simp only [Array.toArray_toList] at hrun
    simp [hrun]

theorem ok_eqS (hH : HRel ρ H w) (ht : LRel ρ tm a.tmps.toList) {neg : Bool} {t yt : TypeId} {x z : Operand} {y q : Opd} {s : Nat} (ho : o.op = .binOp (if neg then .neq else .eql) t x z yt)
    (hx : cOpd x = some y) (hz : cOpd z = some q) (hs : (s = 1 ∧ P.underlying t = some .bool) ∨ (s = 2 ∧ P.underlying t = some .string))
    (h : sim n0 tm H (.eqS neg s y q) = some (v, eff)) : OpOK P n0 i ρ H w a o v eff := by
  have e1 := cOpd_ev ht hx; have e2 := cOpd_ev ht hz
  simp only [sim] at h
  split at h <;> first | (simp at h; done) | skip
  rename_i r hr
  simp only [Option.some.injEq, Prod.mk.injEq] at h; obtain ⟨rfl, rfl⟩ := h
  have hr' := cellEq_rel hr e1 e2
  rcases hs with ⟨rfl, hu⟩ | ⟨rfl, hu⟩
  · cases h1 : a.eval x <;> cases h2 : a.eval z <;> simp only [h1, h2, cellEq] at hr' <;> first | (simp at hr'; done) | skip
    rename_i b1 b2
    cases hr'
    refine OpOK.pure (v' := .bool (bif neg then !(b1 == b2) else (b1 == b2))) hH ?_ (by simp only [VRel])
    cases neg <;> simp [execOp, ho, h1, h2, eqGuard, binOp, Op.equal, Op.maxDepth, run_equalIn_bool' w 9999 t _ _ hu]
  · cases h1 : a.eval x <;> cases h2 : a.eval z <;> simp only [h1, h2, cellEq] at hr' <;> first | (simp at hr'; done) | skip
    rename_i b1 b2
    cases hr'
    refine OpOK.pure (v' := .bool (bif neg then !(b1 == b2) else (b1 == b2))) hH ?_ (by simp only [VRel])
    cases neg <;> simp [execOp, ho, h1, h2, eqGuard, binOp, Op.stringOp, beq_toListBytes]

theorem ok_un (hH : HRel ρ H w) (ht : LRel ρ tm a.tmps.toList) {op : UnOp} {t : TypeId} {x : Operand} {y : Opd} (ho : o.op = .unOp op t x) (hx : cOpd x = some y)
    (h : sim n0 tm H (.un op y) = some (v, eff)) : OpOK P n0 i ρ H w a o v eff := by
  have e1 := cOpd_ev ht hx
  simp only [sim] at h
  split at h <;> first | (simp at h; done) | skip
  all_goals
    rename_i h1
    rw [h1] at e1; simp only [VRel] at e1
    simp only [Option.some.injEq, Prod.mk.injEq] at h; obtain ⟨rfl, rfl⟩ := h
  · exact OpOK.pure hH (by simp only [execOp, ho, e1, Op.unary, Op.intArith, Sem.run_bind, Sem.run_pure, Result.andThen_ok]; rfl) (by simp only [VRel])
  · exact OpOK.pure hH (by simp only [execOp, ho, e1, Op.unary, Op.intBits, Sem.run_bind, Sem.run_pure, Result.andThen_ok]; rfl) (by simp only [VRel])
  · exact OpOK.pure hH (by simp only [execOp, ho, e1, Op.unary, Sem.run_bind, Sem.run_pure, Result.andThen_ok]; rfl) (by simp only [VRel])

theorem ok_conv (hH : HRel ρ H w) (ht : LRel ρ tm a.tmps.toList) {s d : TypeId} {ks k : IntKind} {x : Operand} {y : Opd} (ho : o.op = .convert s d x) (hs : P.underlying s = some (.int ks)) (hd : P.underlying d = some (.int k)) (hx : cOpd x = some y)
    (h : sim n0 tm H (.conv k y) = some (v, eff)) : OpOK P n0 i ρ H w a o v eff := by
  have e1 := cOpd_ev ht hx
  simp only [sim] at h
  split at h <;> first | (simp at h; done) | skip
  rename_i k0 n h1
  rw [h1] at e1; have e1 := int_rel e1
  simp only [Option.some.injEq, Prod.mk.injEq] at h; obtain ⟨rfl, rfl⟩ := h
  refine OpOK.pure (v' := .int k (k.wrap n)) hH ?_ (by simp [VRel])
  simp [execOp, ho, convert, run_underlying' hs, run_underlying' hd, e1, Conv.intToInt]

theorem ok_mkIface (hH : HRel ρ H w) (ht : LRel ρ tm a.tmps.toList) {t : TypeId} {d : TypeDesc} {x : Operand} {y : Opd} (ho : o.op = .makeInterface t x) (hu : P.underlying t = some d) (hd : ∀ ms, d ≠ .interface ms) (hx : cOpd x = some y)
    (h : sim n0 tm H (.mkIface t y) = some (v, eff)) : OpOK P n0 i ρ H w a o v eff := by
  have e1 := cOpd_ev ht hx
  simp only [sim, Option.some.injEq, Prod.mk.injEq] at h; obtain ⟨rfl, rfl⟩ := h
  refine OpOK.pure (v' := .iface t (a.eval x)) hH ?_ (by simp only [VRel]; exact ⟨_, rfl, e1⟩)
  simp only [execOp, ho, Instr.makeInterface, Sem.run_bind, run_underlying' hu, Result.andThen_ok]
  cases d <;> first | exact absurd rfl (hd _) | simp

theorem ok_mkFunc (hH : HRel ρ H w) (ht : LRel ρ tm a.tmps.toList) {f : FuncId} {xs zs : Array Operand} {ys qs : List Opd} (ho : o.op = .makeFunc (.func f) xs zs) (hx : cOpds xs.toList = some ys) (hz : cOpds zs.toList = some qs)
    (h : sim n0 tm H (.mkFunc (.func f) ys qs) = some (v, eff)) : OpOK P n0 i ρ H w a o v eff := by
  simp only [sim, Option.some.injEq, Prod.mk.injEq] at h; obtain ⟨rfl, rfl⟩ := h
  refine OpOK.pure (v' := .func (.func f) (xs.map a.eval) (zs.map a.eval)) hH ?_ ?_
  · simp [execOp, ho, Instr.makeFunc]
  · simp only [VRel]
    refine ⟨_, _, _, rfl, rfl, ?_, ?_⟩
    · rw [ARel_iff]; simpa using cOpds_ev ht hx
    · rw [ARel_iff]; simpa using cOpds_ev ht hz

theorem ok_indexAddr (hH : HRel ρ H w) (ht : LRel ρ tm a.tmps.toList) {t e : TypeId} {x z : Operand} {y q : Opd} {arr : Option Nat} {s : Nat} (ho : o.op = .indexAddr t x z)
    (hu : (match arr with | some n => P.underlying t = some (.array n e) | none => P.underlying t = some (.slice e))) (hs : szOf P e = some s) (hx : cOpd x = some y) (hz : cOpd z = some q)
    (h : sim n0 tm H (.indexAddr arr s y q) = some (v, eff)) : OpOK P n0 i ρ H w a o v eff := by
  have e1 := cOpd_ev ht hx; have e2 := cOpd_ev ht hz
  simp only [sim] at h
  split at h <;> first | (simp at h; done) | skip
  rename_i k j hj
  rw [hj] at e2; have e2 := int_rel e2
  split at h <;> first | (simp at h; done) | skip
  · rename_i n b off hv
    split at h <;> first | (simp at h; done) | skip
    rename_i hc
    simp only [Option.some.injEq, Prod.mk.injEq] at h; obtain ⟨rfl, rfl⟩ := h
    rw [hv] at e1; simp only [VRel] at e1; obtain ⟨b', h1, _, h3⟩ := e1
    refine OpOK.pure (v' := .pointer (some ⟨b', off + j.toNat * s, none⟩)) hH ?_ (by simp only [VRel]; exact ⟨b', rfl, trivial, h3⟩)
    simp only at hu
    simp [execOp, ho, Instr.indexAt, run_underlying' hu, h1, e2, asIntOf, Instr.sureAddr, hc, run_sizeOf' hs, add_addr]
  · rename_i b off n c hv
    split at h <;> first | (simp at h; done) | skip
    rename_i hc
    simp only [Option.some.injEq, Prod.mk.injEq] at h; obtain ⟨rfl, rfl⟩ := h
    rw [hv] at e1; simp only [VRel] at e1; obtain ⟨b', h1, _, h3⟩ := e1
    refine OpOK.pure (v' := .pointer (some ⟨b', off + j.toNat * s, none⟩)) hH ?_ (by simp only [VRel]; exact ⟨b', rfl, trivial, h3⟩)
    simp only at hu
    simp [execOp, ho, Instr.indexAt, run_underlying' hu, h1, e2, asIntOf, hc, run_sizeOf' hs, add_addr]

theorem ok_index (hH : HRel ρ H w) (ht : LRel ρ tm a.tmps.toList) {t e : TypeId} {x z : Operand} {y q : Opd} {n s : Nat} {g : Bool} (ho : o.op = .index t x z)
    (hu : P.underlying t = some (.array n e)) (hs : szOf P e = some s) (hg : aggB P e = some g) (hx : cOpd x = some y) (hz : cOpd z = some q)
    (h : sim n0 tm H (.index n s g y q) = some (v, eff)) : OpOK P n0 i ρ H w a o v eff := by
  have e1 := cOpd_ev ht hx; have e2 := cOpd_ev ht hz
  simp only [sim] at h
  split at h <;> first | (simp at h; done) | skip
  rename_i cs k j hv hj
  rw [hj] at e2; have e2 := int_rel e2
  rw [hv] at e1; simp only [VRel] at e1; obtain ⟨cs', h1, h2⟩ := e1
  rw [ARel_iff] at h2
  split at h <;> first | (simp at h; done) | skip
  rename_i hc
  cases g with
  | true =>
    simp only [if_true, Option.some.injEq, Prod.mk.injEq] at h; obtain ⟨rfl, rfl⟩ := h
    refine OpOK.pure (v' := .agg ((cs'.toList.drop (j.toNat * s)).take s).toArray) hH ?_ (by simp only [VRel]; exact ⟨_, rfl, by rw [ARel_iff]; exact (h2.drop _).take _⟩)
    simp [execOp, ho, Instr.index, run_underlying' hu, h1, e2, asIntOf, hc, run_sizeOf' hs, part_run hg hs]
  | false =>
    simp only [Bool.false_eq_true, if_false] at h
    split at h <;> first | (simp at h; done) | skip
    rename_i u hu'
    simp only [Option.some.injEq, Prod.mk.injEq] at h; obtain ⟨rfl, rfl⟩ := h
    obtain ⟨u', h3, h4⟩ := h2.get hu'
    refine OpOK.pure (v' := u') hH ?_ h4
    simp only [execOp, ho, Instr.index, run_underlying' hu, Sem.run_bind, Result.andThen_ok, h1, e2, asIntOf, Sem.run_pure, hc, and_self, if_true, run_sizeOf' hs]
    rw [part_run hg hs cs' u' (by simpa using h3)]
    rfl
end ops
end Go.Ab
namespace Go.Ab
section ops
variable {P : Program} {n0 i : Nat} {ρ : Ren} {H : Heap} {w : World} {tm : List Value} {a : Act} {o : Oper} {p : AOp} {v : Value} {eff : Eff}

theorem run_equal_at {t : TypeId} {x y : Value} {r : Bool} (h : ∀ d, (Op.equalIn (d + 1) t x y).run P w = .ok r w) : (Op.equal t x y).run P w = .ok r w := h 9999

theorem run_eq_ne {neg : Bool} {t : TypeId} {x z : Operand} {yt : TypeId} {p q : Value} {r : Bool} (ho : o.op = .binOp (if neg then .neq else .eql) t x z yt) (hx : a.eval x = p) (hz : a.eval z = q)
    (hg : (eqGuard (if neg then .neq else .eql) t x z p q).run P w = .ok () w) (he : (Op.equal t p q).run P w = .ok r w)
    (hp : (binOp .eql t p q) = (do pure (.bool (← Op.equal t p q)))) (hq : (binOp .neq t p q) = (do pure (.bool (!(← Op.equal t p q))))) :
    (execOp a.eval o).run P w = .ok (.value (.bool (bif neg then !r else r))) w := by
  cases neg
  · simp only [execOp, ho, Bool.false_eq_true, if_false, hx, hz, Sem.run_bind] at hg ⊢
    simp [hg, hp, he]
  · simp only [execOp, ho, if_true, hx, hz, Sem.run_bind] at hg ⊢
    simp [hg, hq, he]

theorem ok_eqNil (hH : HRel ρ H w) (ht : LRel ρ tm a.tmps.toList) {neg : Bool} {t yt : TypeId} {x z : Operand} {y : Opd} {d : TypeDesc} {u : Value} {kd : Nat} (ho : o.op = .binOp (if neg then .neq else .eql) t x z yt)
    (hx : cOpd x = some y) (hz : z = .const u) (hu : P.underlying t = some d) (hk : nilKind d u = some kd)
    (h : sim n0 tm H (.eqNil neg kd y) = some (v, eff)) : OpOK P n0 i ρ H w a o v eff := by
  have e1 := cOpd_ev ht hx
  have ez : a.eval z = u := by subst hz; rfl
  unfold nilKind at hk
  have fin : ∀ r r' : Bool, v = .bool r → eff = none → r = r' → (execOp a.eval o).run P w = .ok (.value (.bool r')) w → OpOK P n0 i ρ H w a o v eff := by
    rintro r r' rfl rfl rfl h1; exact OpOK.pure hH h1 (by simp [VRel])
  have g1 : ∀ (op : BinOp) (b : Option Addr), (eqGuard op t x z (.pointer b) (.pointer none)).run P w = .ok () w := by intro op b; cases op <;> simp [eqGuard]
  have g2 : ∀ (op : BinOp) (b : Option Addr) (m n k l : Nat), (eqGuard op t x z (.slice b m n) (.slice none k l)).run P w = .ok () w := by intro op b m n k l; cases op <;> simp [eqGuard]
  have g3 : ∀ (op : BinOp) (b : Option Nat), (eqGuard op t x z (.map b) (.map none)).run P w = .ok () w := by intro op b; cases op <;> simp [eqGuard]
  have g4 : ∀ (op : BinOp) (p : Value), (∀ cs, p ≠ .agg cs) → p ≠ .nilIface → (eqGuard op t x z p .nilFunc).run P w = .ok () w := by intro op p h1 h2; cases op <;> simp [eqGuard] <;> cases p <;> simp_all
  split at hk <;> first | (simp at hk; done) | skip
  · cases hk
    cases hv : y.ev tm <;> simp only [sim, hv] at h <;> first | (simp at h; done) | skip
    all_goals
      simp only [Option.some.injEq, Prod.mk.injEq] at h
      rw [hv] at e1
    rename_i q
    cases q with
    | none =>
      simp only [VRel] at e1
      refine fin _ _ h.1.symm h.2.symm ?_ (run_eq_ne (r := true) ho e1 ez (g1 _ _) (run_equal_at fun d => ?_) rfl rfl)
      · cases neg <;> rfl
      · rw [Op.equalIn]; simp [run_underlying' hu]
    | some q =>
      simp only [VRel] at e1; obtain ⟨b, e1, _⟩ := e1
      refine fin _ _ h.1.symm h.2.symm ?_ (run_eq_ne (r := false) ho e1 ez (g1 _ _) (run_equal_at fun d => ?_) rfl rfl)
      · cases neg <;> rfl
      · rw [Op.equalIn]; simp [run_underlying' hu]
  · cases hk
    cases hv : y.ev tm <;> simp only [sim, hv] at h <;> first | (simp at h; done) | skip
    all_goals
      simp only [Option.some.injEq, Prod.mk.injEq] at h
      rw [hv] at e1
    rename_i q _ _
    cases q with
    | none =>
      simp only [VRel] at e1
      refine fin _ _ h.1.symm h.2.symm ?_ (run_eq_ne (r := true) ho e1 ez (g2 _ _ _ _ _ _) (run_equal_at fun d => ?_) rfl rfl)
      · cases neg <;> rfl
      · rw [Op.equalIn]; simp [run_underlying' hu]
    | some q =>
      simp only [VRel] at e1; obtain ⟨b, e1, _⟩ := e1
      refine fin _ _ h.1.symm h.2.symm ?_ (run_eq_ne (r := false) ho e1 ez (g2 _ _ _ _ _ _) (run_equal_at fun d => ?_) rfl rfl)
      · cases neg <;> rfl
      · rw [Op.equalIn]; simp [run_underlying' hu]
  · cases hk
    cases hv : y.ev tm <;> simp only [sim, hv] at h <;> first | (simp at h; done) | skip
    all_goals
      simp only [Option.some.injEq, Prod.mk.injEq] at h
      rw [hv] at e1
    rename_i q
    cases q with
    | none =>
      simp only [VRel] at e1
      refine fin _ _ h.1.symm h.2.symm ?_ (run_eq_ne (r := true) ho e1 ez (g3 _ _) (run_equal_at fun d => ?_) rfl rfl)
      · cases neg <;> rfl
      · rw [Op.equalIn]; simp [run_underlying' hu]
    | some q =>
      simp only [VRel] at e1; obtain ⟨b, e1, _⟩ := e1
      refine fin _ _ h.1.symm h.2.symm ?_ (run_eq_ne (r := false) ho e1 ez (g3 _ _) (run_equal_at fun d => ?_) rfl rfl)
      · cases neg <;> rfl
      · rw [Op.equalIn]; simp [run_underlying' hu]
  · cases hk
    cases hv : y.ev tm <;> simp only [sim, hv] at h <;> first | (simp at h; done) | skip
    all_goals
      simp only [Option.some.injEq, Prod.mk.injEq] at h
      rw [hv] at e1
      simp only [VRel] at e1
    · obtain ⟨_, _, _, e1, _⟩ := e1
      refine fin _ _ h.1.symm h.2.symm ?_ (run_eq_ne (r := false) ho e1 ez (g4 _ _ (by simp) (by simp)) (run_equal_at fun d => ?_) rfl rfl)
      · cases neg <;> rfl
      · rw [Op.equalIn]; simp [run_underlying' hu]
    · refine fin _ _ h.1.symm h.2.symm ?_ (run_eq_ne (r := true) ho e1 ez (g4 _ _ (by simp) (by simp)) (run_equal_at fun d => ?_) rfl rfl)
      · cases neg <;> rfl
      · rw [Op.equalIn]; simp [run_underlying' hu]
  · cases hk
    cases hv : y.ev tm <;> simp only [sim, hv] at h <;> first | (simp at h; done) | skip
    all_goals
      simp only [Option.some.injEq, Prod.mk.injEq] at h
      rw [hv] at e1
      simp only [VRel] at e1
    · obtain ⟨_, e1, _⟩ := e1
      refine fin _ _ h.1.symm h.2.symm ?_ (run_eq_ne (r := false) ho e1 ez ?_ (run_equal_at fun d => ?_) rfl rfl)
      · cases neg <;> rfl
      · cases neg <;> simp [eqGuard]
      · rw [Op.equalIn]; simp [run_underlying' hu]
    · refine fin _ _ h.1.symm h.2.symm ?_ (run_eq_ne (r := true) ho e1 ez ?_ (run_equal_at fun d => ?_) rfl rfl)
      · cases neg <;> rfl
      · cases neg <;> simp [eqGuard, hz]
      · rw [Op.equalIn]; simp [run_underlying' hu]

theorem run_sliceBound {x : Opd} {y : Operand} {m n : Nat} {code : BoundsCode} (ht : LRel ρ tm a.tmps.toList) (hx : cOpd y = some x) (h : bound (x.ev tm) m = some n) :
    (Instr.sliceBound (a.eval y) m code).run P w = .ok n w := by
  have e := cOpd_ev ht hx
  unfold bound at h
  split at h <;> first | (simp at h; done) | skip
  rename_i k j hj
  rw [hj] at e; have e := int_rel e
  split at h <;> first | (simp at h; done) | skip
  rename_i hc
  cases h
  simp [Instr.sliceBound, e, asIntOf, hc]

theorem run_sliceBounds {isS : Bool} {len cap : Nat} {lo hi mx : Option Operand} {lo' hi' mx' : Option Opd} {l u m : Nat} (ht : LRel ρ tm a.tmps.toList) (h1 : cOpt lo = some lo') (h2 : cOpt hi = some hi')
    (h3 : cOpt mx = some mx') (h : bounds tm len cap lo' hi' mx' = some (l, u, m)) :
    (Instr.sliceBounds isS len cap (lo.map a.eval) (hi.map a.eval) (mx.map a.eval)).run P w = .ok (l, u, m) w := by
  have c0 : ∀ {x : Option Operand}, cOpt x = some none → x = none := by
    intro x hx; cases x with
    | none => rfl
    | some x => simp [cOpt] at hx
  have c1 : ∀ {x : Option Operand} {y : Opd}, cOpt x = some (some y) → ∃ z, x = some z ∧ cOpd z = some y := by
    intro x y hx; cases x with
    | none => simp [cOpt] at hx
    | some x => simp [cOpt] at hx; exact ⟨x, rfl, hx⟩
  unfold bounds at h
  cases mx' with
  | none =>
    have := c0 h3; subst this
    simp only at h
    cases hi' with
    | none =>
      have := c0 h2; subst this
      simp only at h
      cases lo' with
      | none =>
        have := c0 h1; subst this
        simp only [Option.some.injEq, Prod.mk.injEq] at h; obtain ⟨rfl, rfl, rfl⟩ := h
        simp [Instr.sliceBounds]
      | some lo' =>
        obtain ⟨z, rfl, hz⟩ := c1 h1
        simp only at h
        split at h <;> first | (simp at h; done) | skip
        rename_i l' hl
        cases h
        simp [Instr.sliceBounds, run_sliceBound ht hz hl]
    | some hi' =>
      obtain ⟨q, rfl, hq⟩ := c1 h2
      simp only at h
      split at h <;> first | (simp at h; done) | skip
      rename_i u' hu
      cases lo' with
      | none =>
        have := c0 h1; subst this
        simp only [Option.some.injEq, Prod.mk.injEq] at h; obtain ⟨rfl, rfl, rfl⟩ := h
        simp [Instr.sliceBounds, run_sliceBound ht hq hu]
      | some lo' =>
        obtain ⟨z, rfl, hz⟩ := c1 h1
        simp only at h
        split at h <;> first | (simp at h; done) | skip
        rename_i l' hl
        cases h
        simp [Instr.sliceBounds, run_sliceBound ht hz hl, run_sliceBound ht hq hu]
  | some mx' =>
    obtain ⟨x, rfl, hx⟩ := c1 h3
    simp only at h
    split at h <;> first | (simp at h; done) | skip
    rename_i m' hm
    cases hi' with
    | none => simp at h
    | some hi' =>
      obtain ⟨q, rfl, hq⟩ := c1 h2
      simp only at h
      split at h <;> first | (simp at h; done) | skip
      rename_i u' hu
      cases lo' with
      | none =>
        have := c0 h1; subst this
        simp only [Option.some.injEq, Prod.mk.injEq] at h; obtain ⟨rfl, rfl, rfl⟩ := h
        simp [Instr.sliceBounds, run_sliceBound ht hx hm, run_sliceBound ht hq hu]
      | some lo' =>
        obtain ⟨z, rfl, hz⟩ := c1 h1
        simp only at h
        split at h <;> first | (simp at h; done) | skip
        rename_i l' hl
        cases h
        simp [Instr.sliceBounds, run_sliceBound ht hz hl, run_sliceBound ht hx hm, run_sliceBound ht hq hu]

theorem ok_slice (hH : HRel ρ H w) (ht : LRel ρ tm a.tmps.toList) {t e : TypeId} {x : Operand} {y : Opd} {lo hi mx : Option Operand} {lo' hi' mx' : Option Opd} {arr : Option Nat} {s : Nat} (ho : o.op = .slice t x lo hi mx)
    (hu : (match arr with | some n => P.underlying t = some (.array n e) | none => P.underlying t = some (.slice e))) (hs : szOf P e = some s) (hs0 : s ≠ 0) (hx : cOpd x = some y)
    (h1 : cOpt lo = some lo') (h2 : cOpt hi = some hi') (h3 : cOpt mx = some mx')
    (h : sim n0 tm H (.slice arr s y lo' hi' mx') = some (v, eff)) : OpOK P n0 i ρ H w a o v eff := by
  have e1 := cOpd_ev ht hx
  simp only [sim] at h
  split at h <;> first | (simp at h; done) | skip
  · rename_i n b off hv
    split at h <;> first | (simp at h; done) | skip
    rename_i l u m hb
    simp only [Option.some.injEq, Prod.mk.injEq] at h; obtain ⟨rfl, rfl⟩ := h
    rw [hv] at e1; simp only [VRel] at e1; obtain ⟨b', g1, _, g3⟩ := e1
    simp only at hu
    refine OpOK.pure (v' := .slice (some (if m = l then ⟨b', off, none⟩ else ⟨b', off + l * s, none⟩)) (u - l) (m - l)) hH ?_ ?_
    · simp [execOp, ho, Instr.sliceAt, run_underlying' hu, g1, Instr.sureAddr, run_sliceBounds ht h1 h2 h3 hb, run_sizeOf' hs, add_addr]
    · split <;> simp only [VRel] <;> exact ⟨b', rfl, trivial, g3⟩
  · rename_i b off n c hv
    split at h <;> first | (simp at h; done) | skip
    rename_i l u m hb
    simp only [Option.some.injEq, Prod.mk.injEq] at h; obtain ⟨rfl, rfl⟩ := h
    rw [hv] at e1; simp only [VRel] at e1; obtain ⟨b', g1, _, g3⟩ := e1
    simp only at hu
    refine OpOK.pure (v' := .slice (some (if m = l then ⟨b', off, none⟩ else ⟨b', off + l * s, none⟩)) (u - l) (m - l)) hH ?_ ?_
    · simp only [execOp, ho, Instr.sliceAt, Sem.run_bind, run_underlying' hu, Result.andThen_ok, Instr.slice, g1, run_sliceBounds ht h1 h2 h3 hb, run_sizeOf' hs, Sem.run_pure, Option.map_some, add_addr]
      split <;> rfl
    · split <;> simp only [VRel] <;> exact ⟨b', rfl, trivial, g3⟩
  · rename_i n c hv
    split at h <;> first | (simp at h; done) | skip
    rename_i l u m hb
    simp only [Option.some.injEq, Prod.mk.injEq] at h; obtain ⟨rfl, rfl⟩ := h
    rw [hv] at e1; simp only [VRel] at e1
    simp only at hu
    refine OpOK.pure (v' := .slice none (u - l) (m - l)) hH ?_ (by simp [VRel])
    simp only [execOp, ho, Instr.sliceAt, Sem.run_bind, run_underlying' hu, Result.andThen_ok, Instr.slice, e1, run_sliceBounds ht h1 h2 h3 hb, run_sizeOf' hs, Sem.run_pure, Option.map_none]
    split <;> rfl

theorem ok_len (hH : HRel ρ H w) (ht : LRel ρ tm a.tmps.toList) {t e : TypeId} {ts : Array TypeId} {str : Bool} {x : Operand} {y : Opd} (ho : o.op = .call { callee := .builtin .len, args := #[x], argTypes := #[t] })
    (hu : P.underlying t = some (if str then .string else .slice e)) (hx : cOpd x = some y)
    (h : sim n0 tm H (.len str y) = some (v, eff)) : OpOK P n0 i ρ H w a o v eff := by
  have e1 := cOpd_ev ht hx
  cases str
  · cases hv : y.ev tm <;> simp only [sim, hv] at h <;> first | (simp at h; done) | skip
    rename_i b n c
    simp only [Option.some.injEq, Prod.mk.injEq] at h; obtain ⟨rfl, rfl⟩ := h
    rw [hv] at e1
    obtain ⟨b', e1⟩ : ∃ b', a.eval x = .slice b' n c := by
      cases b with
      | none => simp only [VRel] at e1; exact ⟨_, e1⟩
      | some b => simp only [VRel] at e1; obtain ⟨_, e1, _⟩ := e1; exact ⟨_, e1⟩
    simp only [Bool.false_eq_true, if_false] at hu
    refine OpOK.pure (v' := .int .i64 n) hH ?_ (by simp [VRel])
    simp [execOp, ho, resolve, invoke, builtin, Builtin.len_, run_underlying' hu, e1, goInt]
  · cases hv : y.ev tm <;> simp only [sim, hv] at h <;> first | (simp at h; done) | skip
    rename_i s
    simp only [Option.some.injEq, Prod.mk.injEq] at h; obtain ⟨rfl, rfl⟩ := h
    rw [hv] at e1; simp only [VRel] at e1
    simp only [if_true] at hu
    refine OpOK.pure (v' := .int .i64 s.size) hH ?_ (by simp [VRel])
    simp [execOp, ho, resolve, invoke, builtin, Builtin.len_, run_underlying' hu, e1, goInt]

theorem ok_lenArr (hH : HRel ρ H w) {t e : TypeId} {n : Nat} {x : Operand} (ho : o.op = .call { callee := .builtin .len, args := #[x], argTypes := #[t] })
    (hu : P.underlying t = some (.array n e))
    (h : sim n0 tm H (.mv (.v (.int .i64 n))) = some (v, eff)) : OpOK P n0 i ρ H w a o v eff := by
  simp only [sim, Option.some.injEq, Prod.mk.injEq, Opd.ev] at h; obtain ⟨rfl, rfl⟩ := h
  refine OpOK.pure (v' := .int .i64 n) hH ?_ (by simp [VRel])
  simp [execOp, ho, resolve, invoke, builtin, Builtin.len_, run_underlying' hu, goInt]

theorem ok_cap (hH : HRel ρ H w) (ht : LRel ρ tm a.tmps.toList) {t e : TypeId} {x : Operand} {y : Opd} (ho : o.op = .call { callee := .builtin .cap, args := #[x], argTypes := #[t] })
    (hu : P.underlying t = some (.slice e)) (hx : cOpd x = some y)
    (h : sim n0 tm H (.cap y) = some (v, eff)) : OpOK P n0 i ρ H w a o v eff := by
  have e1 := cOpd_ev ht hx
  cases hv : y.ev tm <;> simp only [sim, hv] at h <;> first | (simp at h; done) | skip
  rename_i b n c
  simp only [Option.some.injEq, Prod.mk.injEq] at h; obtain ⟨rfl, rfl⟩ := h
  rw [hv] at e1
  obtain ⟨b', e1⟩ : ∃ b', a.eval x = .slice b' n c := by
    cases b with
    | none => simp only [VRel] at e1; exact ⟨_, e1⟩
    | some b => simp only [VRel] at e1; obtain ⟨_, e1, _⟩ := e1; exact ⟨_, e1⟩
  refine OpOK.pure (v' := .int .i64 c) hH ?_ (by simp [VRel])
  simp [execOp, ho, resolve, invoke, builtin, Builtin.cap_, run_underlying' hu, e1, goInt]

theorem ok_nilCheck (hH : HRel ρ H w) (ht : LRel ρ tm a.tmps.toList) {x : Operand} {y : Opd} (ho : o.op = .nilCheck x) (hx : cOpd x = some y)
    (h : sim n0 tm H (.nilCheck y) = some (v, eff)) : OpOK P n0 i ρ H w a o v eff := by
  have e1 := cOpd_ev ht hx
  simp only [sim] at h
  split at h <;> first | (simp at h; done) | skip
  · rename_i q hv
    simp only [Option.some.injEq, Prod.mk.injEq] at h; obtain ⟨rfl, rfl⟩ := h
    rw [hv] at e1; have e0 := e1; simp only [VRel] at e1; obtain ⟨b, e1, _⟩ := e1
    refine OpOK.pure (v' := a.eval x) hH ?_ e0
    simp [execOp, ho, e1]
  · rename_i f p q hv
    simp only [Option.some.injEq, Prod.mk.injEq] at h; obtain ⟨rfl, rfl⟩ := h
    rw [hv] at e1; have e0 := e1; simp only [VRel] at e1; obtain ⟨fn', f', c', e1, e2, _⟩ := e1
    subst e2
    refine OpOK.pure (v' := a.eval x) hH ?_ e0
    simp [execOp, ho, e1]

theorem run_minmax {isMax : Bool} {k : IntKind} : ∀ {l m : List Value} {x : Int} {r : Value}, minInt isMax k x l = some r → LRel ρ l m →
    (m.foldlM (if isMax then Builtin.max2 else Builtin.min2) (.int k x)).run P w = .ok r w ∧ VRel ρ r r
  | [], m, x, r, h, hm => by
    simp only [minInt, Option.some.injEq] at h; simp only [LRel] at hm; subst hm; subst h
    exact ⟨by simp [List.foldlM], by simp [VRel]⟩
  | v :: l, m, x, r, h, hm => by
    simp only [LRel] at hm; obtain ⟨u, k', rfl, h1, h2⟩ := hm
    cases v <;> simp only [minInt] at h <;> first | (simp at h; done) | skip
    rename_i k2 y
    split at h <;> first | (simp at h; done) | skip
    rename_i hk; subst hk
    have h1 := int_rel h1; subst h1
    have ih := run_minmax h h2
    refine ⟨?_, ih.2⟩
    simp only [List.foldlM_cons, Sem.run_bind]
    cases isMax
    · simp only [Bool.false_eq_true, if_false, Builtin.min2, Sem.run_pure, Result.andThen_ok] at ih ⊢; exact ih.1
    · simp only [if_true, Builtin.max2, Sem.run_pure, Result.andThen_ok] at ih ⊢; exact ih.1

theorem ok_minmax (hH : HRel ρ H w) (ht : LRel ρ tm a.tmps.toList) {isMax : Bool} {xs : Array Operand} {ts : Array TypeId} {ys : List Opd} (ho : o.op = .call { callee := .builtin (if isMax then .max else .min), args := xs, argTypes := ts })
    (hx : cOpds xs.toList = some ys) (h : sim n0 tm H (.minmax isMax ys) = some (v, eff)) : OpOK P n0 i ρ H w a o v eff := by
  have e1 := cOpds_ev ht hx
  simp only [sim] at h
  split at h <;> first | (simp at h; done) | skip
  rename_i k x r hv
  rw [hv] at e1; simp only [LRel] at e1; obtain ⟨u, m, h1, h2, h3⟩ := e1
  have h2 := int_rel h2; subst h2
  cases hm : minInt isMax k x r with
  | none => simp [hm] at h
  | some q =>
    simp [hm] at h; obtain ⟨rfl, rfl⟩ := h
    have hr := run_minmax (P := P) (w := w) hm h3
    refine OpOK.pure (v' := q) hH ?_ hr.2
    cases isMax
    · simp only [Bool.false_eq_true, if_false] at ho hr
      simp [execOp, ho, resolve, invoke, builtin, Builtin.min_, h1, hr.1]
    · simp only [if_true] at ho hr
      simp [execOp, ho, resolve, invoke, builtin, Builtin.max_, h1, hr.1]

theorem ok_tassert (hH : HRel ρ H w) (ht : LRel ρ tm a.tmps.toList) {t xt : TypeId} {x : Operand} {y : Opd} {ok : Bool} {z : Option Value} {d : TypeDesc} (ho : o.op = .typeAssert x xt t ok) (hx : cOpd x = some y)
    (hu : P.underlying t = some d) (hd : ∀ ms, d ≠ .interface ms) (hz : (ok = false ∧ z = none) ∨ (ok = true ∧ ∃ ti z', P.info? t = some ti ∧ ti.zero = some z' ∧ flatC z' = true ∧ z = some z'))
    (h : sim n0 tm H (.tassert t z y) = some (v, eff)) : OpOK P n0 i ρ H w a o v eff := by
  have e1 := cOpd_ev ht hx
  have hnot : ∀ {β : Type} (f : Array (String × TypeId) → β) (g : β), (match d with | .interface ms => f ms | _ => g) = g := by
    intro β f g; cases d <;> first | exact absurd rfl (hd _) | rfl
  simp only [sim] at h
  split at h <;> first | (simp at h; done) | skip
  · rename_i u q hv
    rw [hv] at e1; simp only [VRel] at e1; obtain ⟨q', e1, e2⟩ := e1
    split at h
    · rename_i hut; subst hut
      simp only [Option.some.injEq, Prod.mk.injEq] at h; obtain ⟨rfl, rfl⟩ := h
      rcases hz with ⟨rfl, rfl⟩ | ⟨rfl, ti, z', h1, h2, h3, rfl⟩
      · refine OpOK.pure (v' := q') hH ?_ e2
        simp only [execOp, ho, Instr.typeAssert, Sem.run_bind, run_underlying' hu, Result.andThen_ok, e1]
        cases d <;> first | exact absurd rfl (hd _) | simp
      · refine OpOK.pure (v' := .tuple #[q', .bool true]) hH ?_ ?_
        · simp only [execOp, ho, Instr.typeAssert, Sem.run_bind, run_underlying' hu, Result.andThen_ok, e1]
          cases d <;> first | exact absurd rfl (hd _) | simp
        · simp only [VRel]; exact .inr (.inr ⟨_, rfl, by rw [ARel_iff]; simp only [LRel]; exact ⟨_, _, rfl, e2, _, _, rfl, by simp [VRel], rfl⟩⟩)
    · rename_i hut
      split at h <;> first | (simp at h; done) | skip
      rename_i z0
      simp only [Option.some.injEq, Prod.mk.injEq] at h; obtain ⟨rfl, rfl⟩ := h
      rcases hz with ⟨rfl, h0⟩ | ⟨rfl, ti, z', h1, h2, h3, h0⟩ <;> cases h0
      refine OpOK.pure (v' := .tuple #[z0, .bool false]) hH ?_ ?_
      · simp only [execOp, ho, Instr.typeAssert, Sem.run_bind, run_underlying' hu, Result.andThen_ok, e1]
        cases d <;> first | exact absurd rfl (hd _) | simp [hut, zeroValue, run_typeInfo' h1, h2]
      · simp only [VRel]; exact .inr (.inr ⟨_, rfl, by rw [ARel_iff]; simp only [LRel]; exact ⟨_, _, rfl, flatC_rel h3, _, _, rfl, by simp [VRel], rfl⟩⟩)
  · rename_i hv
    rw [hv] at e1; simp only [VRel] at e1
    split at h <;> first | (simp at h; done) | skip
    rename_i z0
    simp only [Option.some.injEq, Prod.mk.injEq] at h; obtain ⟨rfl, rfl⟩ := h
    rcases hz with ⟨rfl, h0⟩ | ⟨rfl, ti, z', h1, h2, h3, h0⟩ <;> cases h0
    refine OpOK.pure (v' := .tuple #[z0, .bool false]) hH ?_ ?_
    · simp only [execOp, ho, Instr.typeAssert, Sem.run_bind, run_underlying' hu, Result.andThen_ok, e1]
      cases d <;> first | exact absurd rfl (hd _) | simp [zeroValue, run_typeInfo' h1, h2]
    · simp only [VRel]; exact .inr (.inr ⟨_, rfl, by rw [ARel_iff]; simp only [LRel]; exact ⟨_, _, rfl, flatC_rel h3, _, _, rfl, by simp [VRel], rfl⟩⟩)

theorem foldl_splice : ∀ (l : List Value) (off j : Nat) (c : Array Value), off + j + l.length ≤ c.size →
    (l.zipIdx j).foldl (fun cs (x : Value × Nat) => cs.setIfInBounds (off + x.2) x.1) c = (splice c.toList (off + j) l).toArray
  | [], off, j, c, _ => by simp [splice]
  | x :: l, off, j, c, h => by
    simp only [List.length_cons] at h
    simp only [List.zipIdx_cons, List.foldl_cons]
    rw [foldl_splice l off (j + 1) _ (by simp; omega)]
    congr 1
    have hlt : off + j < c.toList.length := by simp; omega
    unfold splice
    simp only [Array.toList_setIfInBounds, List.length_cons]
    rw [List.drop_set_of_lt (by omega)]
    rw [show off + (j + 1) = (off + j) + 1 by omega, List.take_succ_eq_append_getElem (by simpa using hlt)]
    simp [List.take_set_of_le, Nat.add_assoc, Nat.add_comm, Nat.add_left_comm]

theorem run_fill (ht : LRel ρ tm a.tmps.toList) {place f : Nat → Option (Nat × Nat)} (hpf : ∀ j q, f j = some q → place j = some q) : ∀ {parts : List (Nat × Operand)} {ps : List (Nat × Nat × Opd)} {c d : List Value} {c' : Array Value},
    cParts f parts = some ps → fillA tm c ps = some d → LRel ρ c c'.toList → ∃ d' : Array Value, Instr.fill place c' (parts.map fun (j, x) => (j, a.eval x)) = some d' ∧ LRel ρ d d'.toList
  | [], ps, c, d, c', h1, h2, h3 => by
    simp only [cParts, Option.some.injEq] at h1; subst h1
    simp only [fillA, Option.some.injEq] at h2; subst h2
    exact ⟨c', by simp [Instr.fill], h3⟩
  | (j, x) :: r, ps, c, d, c', h1, h2, h3 => by
    simp only [cParts] at h1
    split at h1 <;> first | (simp at h1; done) | skip
    rename_i off size y m g1 g2 g3
    cases h1
    simp only [fillA] at h2
    split at h2 <;> first | (simp at h2; done) | skip
    rename_i hc
    obtain ⟨k1, k2, k3⟩ := hc
    have hcells := vcells_rel (cOpd_ev ht g2) k1
    have hl := hcells.length
    have hl3 := h3.length
    simp only [Array.length_toList] at hl hl3
    have hsp : LRel ρ (splice c off (vcells (y.ev tm))) (splice c'.toList off (a.eval x).cells.toList) := h3.splice off hcells
    obtain ⟨d', q1, q2⟩ := run_fill ht hpf (c' := (splice c'.toList off (a.eval x).cells.toList).toArray) g3 h2 (by simpa using hsp)
    refine ⟨d', ?_, q2⟩
    simp only [List.map_cons, Instr.fill, hpf _ _ g1]
    rw [if_neg (by simp; omega)]
    have := foldl_splice (a.eval x).cells.toList off 0 c' (by simp; omega)
    simp only [Nat.add_zero] at this
    rw [← q1]
    congr 1
    rw [← this, ← Array.foldl_toList]
    simp

theorem run_mapM_fields {fs : List Field} {P : Program} {w : World} (h : ∀ f, f ∈ fs → (szOf P f.type).isSome = true) :
    (fs.mapM (fun f => do pure (f.offset, ← sizeOf f.type)) : Sem (List (Nat × Nat))).run P w = .ok (fs.map fun f => (f.offset, (szOf P f.type).getD 0)) w := by
  induction fs with
  | nil => simp
  | cons f fs ih =>
    have h1 := h f (by simp)
    obtain ⟨s, hs⟩ := Option.isSome_iff_exists.1 h1
    simp only [List.mapM_cons, Sem.run_bind, run_sizeOf' hs, Result.andThen_ok, Sem.run_pure, ih (fun g hg => h g (by simp [hg])), List.map_cons, hs, Option.getD_some]

theorem ok_build (hH : HRel ρ H w) (ht : LRel ρ tm a.tmps.toList) {t : TypeId} {parts : Array (Nat × Operand)} {z : List Value} {ps : List (Nat × Nat × Opd)} (ho : o.op = .build t parts) (hz : zeroL P t = some z)
    (hu : (∃ fs : Array Field, P.underlying t = some (.struct fs) ∧ (∀ f, f ∈ fs.toList → (szOf P f.type).isSome = true) ∧
        cParts (fun j => match fs[j]? with | some f => (szOf P f.type).map fun s => (f.offset, s) | none => none) parts.toList = some ps) ∨
      (∃ n e s, P.underlying t = some (.array n e) ∧ szOf P e = some s ∧ cParts (fun j => some (j * s, s)) parts.toList = some ps))
    (h : sim n0 tm H (.build z ps) = some (v, eff)) : OpOK P n0 i ρ H w a o v eff := by
  simp only [sim] at h
  split at h <;> first | (simp at h; done) | skip
  rename_i c hc
  simp only [Option.some.injEq, Prod.mk.injEq] at h; obtain ⟨rfl, rfl⟩ := h
  obtain ⟨u, z1, z2, z3⟩ := run_zeroValue' (ρ := ρ) (w := w) hz
  have hparts : (parts.map fun (x : Nat × Operand) => (x.1, a.eval x.2)).toList = parts.toList.map fun (j, x) => (j, a.eval x) := by simp
  rcases hu with ⟨fs, hu, hall, hp⟩ | ⟨n, e, s, hu, hs, hp⟩
  · obtain ⟨d', q1, q2⟩ := run_fill (c' := u.cells) ht (place := fun j => (fs.map fun f => (f.offset, (szOf P f.type).getD 0))[j]?) (by
      intro j q hq
      cases hf : fs[j]? with
      | none => simp [hf] at hq
      | some f =>
        simp only [hf] at hq
        cases hsz : szOf P f.type with
        | none => simp [hsz] at hq
        | some s => simp [hsz] at hq; subst hq; simp [hf, hsz]) hp hc (z2.symm ▸ z3)
    refine OpOK.pure (v' := .agg d') hH ?_ (by simp only [VRel]; exact ⟨_, rfl, by rw [ARel_iff]; exact q2⟩)
    have hm : (fs.mapM (fun f => do pure (f.offset, ← sizeOf f.type)) : Sem (Array (Nat × Nat))).run P w = .ok (fs.map fun f => (f.offset, (szOf P f.type).getD 0)) w := by
      rw [Array.mapM_eq_mapM_toList]
      simp only [Sem.run_map, run_mapM_fields hall, Result.andThen_ok]
      congr 1
      apply Array.toList_inj.1; simp
    simp only [execOp, ho, Instr.build, Sem.run_bind, z1, Result.andThen_ok, run_underlying' hu]
    simp only [bind_pure_comp] at hm ⊢
    rw [hm]
    simp only [Result.andThen_ok]
    rw [hparts]
    simp only [q1, Sem.run_pure, Result.andThen_ok, Sem.run_map]
  · obtain ⟨d', q1, q2⟩ := run_fill (c' := u.cells) ht (place := fun j => some (j * s, s)) (fun j q hq => hq) hp hc (z2.symm ▸ z3)
    refine OpOK.pure (v' := .agg d') hH ?_ (by simp only [VRel]; exact ⟨_, rfl, by rw [ARel_iff]; exact q2⟩)
    simp only [execOp, ho, Instr.build, Sem.run_bind, z1, Result.andThen_ok, run_underlying' hu, run_sizeOf' hs]
    rw [hparts]
    simp only [q1, Sem.run_pure, Result.andThen_ok, Sem.run_map]
end ops
end Go.Ab

/- Slices that are made, and copied; then all operations that call nothing, together. No conditions. -/
import Derived.Test.YtcjchcommaahdaaGreatQ02
set_option maxRecDepth 20000
set_option maxHeartbeats 4000000
set_option linter.all false
namespace Go.Ab

theorem range_zero (z : Array Value) (s : Nat) (hs : z.size = s) (hs0 : 0 < s) : ∀ n, ((List.range (n * s)).map fun i => z[i % z.size]!) = (List.replicate n z.toList).flatten
  | 0 => by simp
  | n + 1 => by
    rw [Nat.add_mul, Nat.one_mul, List.range_add, List.map_append, range_zero z s hs hs0 n, List.replicate_succ', List.flatten_append]
    congr 1
    simp only [List.flatten_cons, List.flatten_nil, List.append_nil, List.map_map]
    apply List.ext_getElem?
    intro i
    simp only [List.getElem?_map]
    by_cases hi : i < s
    · rw [List.getElem?_range hi]
      simp only [Option.map_some, Function.comp, hs]
      rw [Nat.mul_comm, Nat.mul_add_mod, Nat.mod_eq_of_lt hi]
      rw [Array.getElem?_toList]
      have : i < z.size := by omega
      simp [this]
    · rw [List.getElem?_eq_none (by simp; omega), List.getElem?_eq_none (by simp; omega)]; rfl

theorem range_zero' (z : Array Value) (s n : Nat) (hs : z.size = s) (hs0 : 0 < s) : ((Array.range (n * s)).map fun i => z[i % z.size]!) = ((List.replicate n z.toList).flatten).toArray := by
  apply Array.toList_inj.1
  simp only [Array.toList_map, Array.toList_range]
  exact range_zero z s hs hs0 n

theorem LRel.flatten_replicate {ρ : Ren} {z z' : List Value} (h : LRel ρ z z') : ∀ n, LRel ρ (List.replicate n z).flatten (List.replicate n z').flatten
  | 0 => by simp [LRel]
  | n + 1 => by simp only [List.replicate_succ, List.flatten_cons]; exact h.append (LRel.flatten_replicate h n)

theorem wrap64_id {x : Int} (h0 : 0 ≤ x) (h : x < 9223372036854775808) : IntKind.i64.wrap x = x := by
  have e : x % 18446744073709551616 = x := Int.emod_eq_of_lt h0 (by omega)
  have e2 : IntKind.i64.wrap x = if decide (x % 18446744073709551616 ≥ 9223372036854775808) = true then x % 18446744073709551616 - 18446744073709551616 else x % 18446744073709551616 := rfl
  rw [e2, if_neg (by simp; omega), e]

section ops
variable {P : Program} {n0 i : Nat} {ρ : Ren} {H : Heap} {w : World} {tm : List Value} {a : Act} {o : Oper} {p : AOp} {v : Value} {eff : Eff}

theorem ok_mkSlice (hH : HRel ρ H w) (hs : ρ (n0 + i) = none) (ht : LRel ρ tm a.tmps.toList) {t e : TypeId} {len s : Nat} {parts : Array (Nat × Operand)} {z : List Value} {ps : List (Nat × Nat × Opd)} (ho : o.op = .buildSlice t len parts)
    (hu : P.underlying t = some (.slice e)) (hsz : szOf P e = some s) (hz : zeroL P e = some z) (hs0 : 0 < s) (hzs : z.length = s) (hle : len * s ≤ 2 ^ 24) (hp : cParts (fun j => some (j * s, s)) parts.toList = some ps)
    (h : sim n0 tm H (.mkSlice i e (List.replicate len z).flatten len ps) = some (v, eff)) : OpOK P n0 i ρ H w a o v eff := by
  simp only [sim] at h
  split at h <;> first | (simp at h; done) | skip
  rename_i c hc
  simp only [Option.some.injEq, Prod.mk.injEq] at h; obtain ⟨rfl, rfl⟩ := h
  obtain ⟨u, z1, z2, z3⟩ := run_zeroValue' (ρ := ρ) (w := w) hz
  have hus : u.cells.size = s := by rw [← Array.length_toList, z2, hzs]
  have hrep : ((Array.range (len * s)).map (u.cells[· % u.cells.size]!)) = ((List.replicate len z).flatten).toArray := by
    rw [range_zero' u.cells s len hus hs0, z2]
  have hparts : (parts.map fun (x : Nat × Operand) => (x.1, a.eval x.2)).toList = parts.toList.map fun (j, x) => (j, a.eval x) := by simp
  obtain ⟨d', q1, q2⟩ := run_fill (c' := ((List.replicate len z).flatten).toArray) ht (place := fun j => some (j * s, s)) (fun j q hq => hq) hp hc (by simpa using z3.flatten_replicate len)
  refine OpOK.new (v' := .slice (some ⟨w.heap.size, 0, none⟩) len len) (y := .cells d' e) hH hs ?_ ⟨_, rfl, q2⟩ (by simp [VRel, Ren.put])
  simp only [execOp, ho, Instr.buildSlice, Sem.run_bind, run_underlying' hu, Result.andThen_ok, run_sizeOf' hsz]
  rw [if_neg (by omega)]
  by_cases h0 : len * s = 0
  · have : len = 0 := by rcases Nat.mul_eq_zero.1 h0 with h | h <;> omega
    subst this
    simp only [Nat.zero_mul, if_true, Sem.run_bind, Sem.run_pure, Result.andThen_ok]
    rw [hparts]
    simp only [List.replicate_zero, List.flatten_nil] at q1
    have hr0 : Array.range 0 = #[] := rfl
    simp [q1, newRow, hr0]
  · rw [if_neg h0]
    simp only [Sem.run_bind, z1, Sem.run_pure, Result.andThen_ok]
    rw [hrep, hparts]
    simp [q1, newRow]

theorem ok_makeSlice (hH : HRel ρ H w) (hs : ρ (n0 + i) = none) (ht : LRel ρ tm a.tmps.toList) {t e : TypeId} {ti : TypeInfo} {l c : Operand} {l' c' : Opd} {z : List Value} (ho : o.op = .makeSlice t l c)
    (hu : P.underlying t = some (.slice e)) (hi : P.info? e = some ti) (hz : zeroL P e = some z) (hs0 : 0 < ti.size) (hzs : z.length = ti.size) (hl : cOpd l = some l') (hc : cOpd c = some c')
    (h : sim n0 tm H (.makeSlice i e z ti.bytes l' c') = some (v, eff)) : OpOK P n0 i ρ H w a o v eff := by
  have e1 := cOpd_ev ht hl; have e2 := cOpd_ev ht hc
  simp only [sim] at h
  split at h <;> first | (simp at h; done) | skip
  rename_i k1 x k2 y h1 h2
  rw [h1] at e1; rw [h2] at e2; have e1 := int_rel e1; have e2 := int_rel e2
  split at h <;> first | (simp at h; done) | skip
  rename_i hcond
  obtain ⟨hx0, hxy, hy, hb⟩ := hcond
  simp only [Option.some.injEq, Prod.mk.injEq] at h; obtain ⟨rfl, rfl⟩ := h
  obtain ⟨u, z1, z2, z3⟩ := run_zeroValue' (ρ := ρ) (w := w) hz
  have hus : u.cells.size = ti.size := by rw [← Array.length_toList, z2, hzs]
  have wx : IntKind.i64.wrap x = x := wrap64_id hx0 (by omega)
  have wy : IntKind.i64.wrap y = y := wrap64_id (by omega) (by omega)
  have hsz : szOf P e = some ti.size := by simp [szOf, hi]
  refine OpOK.new (v' := .slice (some ⟨w.heap.size, 0, none⟩) x.toNat y.toNat) (y := .cells ((List.replicate y.toNat z).flatten).toArray e) hH hs ?_ ⟨_, rfl, by simpa using z3.flatten_replicate y.toNat⟩ (by simp [VRel, Ren.put])
  have hrep : ((Array.range (y.toNat * ti.size)).map (u.cells[· % u.cells.size]!)) = ((List.replicate y.toNat z).flatten).toArray := by
    rw [range_zero' u.cells ti.size y.toNat hus hs0, z2]
  simp only [execOp, ho, Instr.makeSlice, Sem.run_bind, run_underlying' hu, Result.andThen_ok, e1, e2, asInt, asIntOf, Sem.run_pure, run_typeInfo' hi, wx, wy]
  rw [if_neg (by simp; omega)]
  simp only [Sem.run_bind, Sem.run_pure, Result.andThen_ok, run_askRoom, run_sizeOf' hsz]
  by_cases h0 : y.toNat * ti.size = 0
  · have h1 : y.toNat = 0 := by rcases Nat.mul_eq_zero.1 h0 with h | h <;> omega
    have hr0 : Array.range 0 = #[] := rfl
    simp [h1, newRow, hr0]
  · rw [if_neg h0]
    simp only [Sem.run_bind, z1, Sem.run_pure, Result.andThen_ok]
    rw [hrep]
    simp [newRow]

theorem slice_rel {x : Option Addr} {n c : Nat} {u : Value} (h : VRel ρ (.slice x n c) u) : ∃ x', u = .slice x' n c ∧ (x = none → x' = none) ∧ ∀ q, x = some q → ∃ b, x' = some ⟨b, q.off, none⟩ ∧ q.spot = none ∧ ρ q.block = some b := by
  cases x with
  | none => simp only [VRel] at h; exact ⟨none, h, fun _ => rfl, fun q hq => by simp at hq⟩
  | some q => simp only [VRel] at h; obtain ⟨b, h1, h2, h3⟩ := h; exact ⟨_, h1, fun hq => by simp at hq, fun q' hq => by cases hq; exact ⟨b, rfl, h2, h3⟩⟩

theorem run_srcCells (hH : HRel ρ H w) {k m : Nat} {x : Value} {u : Value} {l : List Value} (h : srcCells H (k * m) x = some l) (hr : VRel ρ x u) (hz : ∀ a b, x = .slice none a b → k * m = 0 ∨ True) :
    ∃ l' : Array Value, (Builtin.firstCells m k u).run P w = .ok l' w ∧ LRel ρ l l'.toList := by
  unfold srcCells at h
  split at h <;> first | (simp at h; done) | skip
  · rename_i b off n c
    obtain ⟨x', rfl, _, h2⟩ := slice_rel hr
    obtain ⟨b', rfl, _, h3⟩ := h2 _ rfl
    split at h <;> first | (simp at h; done) | skip
    rename_i cs e fz hob
    split at h <;> first | (simp at h; done) | skip
    rename_i hle
    cases h
    obtain ⟨ob, ob', g1, g2, g3⟩ := hH.obj _ _ h3
    simp only [hob, Option.some.injEq] at g1; subst g1
    obtain ⟨cs', rfl, g4⟩ := g3
    have hl := g4.length
    refine ⟨((cs'.toList.drop off).take (k * m)).toArray, ?_, by simpa using (g4.drop off).take _⟩
    simp only [Builtin.firstCells]
    exact run_loadCells P w b' off (k * m) cs' e fz g2 (by rw [← Array.length_toList, hl]; exact hle)
  · simp only [VRel] at hr; subst hr; cases h
    exact ⟨#[], by simp [Builtin.firstCells], by simp [LRel]⟩

theorem ok_copy (hH : HRel ρ H w) (ht : LRel ρ tm a.tmps.toList) {t e : TypeId} {ts : List TypeId} {x z : Operand} {y q : Opd} {s : Nat} (ho : o.op = .call { callee := .builtin .copy, args := #[x, z], argTypes := (t :: ts).toArray })
    (hu : P.underlying t = some (.slice e)) (hs : szOf P e = some s) (hx : cOpd x = some y) (hz : cOpd z = some q)
    (h : sim n0 tm H (.copy s y q) = some (v, eff)) : OpOK P n0 i ρ H w a o v eff := by
  have e1 := cOpd_ev ht hx; have e2 := cOpd_ev ht hz
  simp only [sim] at h
  split at h <;> first | (simp at h; done) | skip
  · rename_i b off n c sa m sc hv hq
    rw [hv] at e1; rw [hq] at e2
    split at h <;> first | (simp at h; done) | skip
    rename_i cs ty hob
    split at h <;> first | (simp at h; done) | skip
    rename_i l hl
    split at h <;> first | (simp at h; done) | skip
    rename_i hc
    simp only [Option.some.injEq, Prod.mk.injEq] at h; obtain ⟨rfl, rfl⟩ := h
    obtain ⟨l', g1, g2⟩ := run_srcCells (P := P) hH hl e2 (fun _ _ _ => .inr trivial)
    obtain ⟨x', k1, _, k2⟩ := slice_rel e1
    obtain ⟨b', rfl, _, k3⟩ := k2 _ rfl
    obtain ⟨z', k4, _, _⟩ := slice_rel e2
    obtain ⟨ob, ob', j1, j2, j3⟩ := hH.obj _ _ k3
    simp only [hob, Option.some.injEq] at j1; subst j1
    obtain ⟨cs', rfl, j4⟩ := j3
    have hll := g2.length; have hlc := j4.length
    simp only [Array.length_toList] at hll hlc
    refine ⟨.value (.int .i64 (Nat.min m n)), .int .i64 (Nat.min m n), ρ, { w with heap := w.heap.setIfInBounds b' (.cells (splice cs'.toList (off + 0) l'.toList).toArray ty (0, 0)) }, ?_, .inl rfl, by simp only [VRel],
      hH.write k3 ⟨_, rfl, by simpa using j4.splice off g2⟩, Ext.write k3 _, fun _ _ => rfl⟩
    rw [k4] at g1
    simp only [execOp, ho, resolve, Sem.run_bind, Sem.run_pure, Result.andThen_ok, invoke, builtin, Builtin.copy_, List.map_toArray, List.map_cons, List.map_nil, List.getElem?_toArray, List.getElem?_cons_zero, List.getElem?_cons_succ, run_underlying' hu, k1, k4, Builtin.lenOf,
      run_sizeOf' hs, g1]
    rw [run_storeCells P b' off ty l'.toList 0 w cs' j2 (by simp; omega) (oneCells_rel g2 hc.2)]
    simp [goInt]
  · rename_i n c sa m sc hv hq
    rw [hv] at e1; rw [hq] at e2
    split at h <;> first | (simp at h; done) | skip
    rename_i l hl
    simp only [Option.some.injEq, Prod.mk.injEq] at h; obtain ⟨rfl, rfl⟩ := h
    obtain ⟨l', g1, g2⟩ := run_srcCells (P := P) hH hl e2 (fun _ _ _ => .inr trivial)
    obtain ⟨x', k1, k2, _⟩ := slice_rel e1
    have := k2 rfl; subst this
    obtain ⟨z', k4, _, _⟩ := slice_rel e2
    refine OpOK.pure (v' := .int .i64 (Nat.min m n)) hH ?_ (by simp only [VRel])
    rw [k4] at g1
    simp only [execOp, ho, resolve, Sem.run_bind, Sem.run_pure, Result.andThen_ok, invoke, builtin, Builtin.copy_, List.map_toArray, List.map_cons, List.map_nil, List.getElem?_toArray, List.getElem?_cons_zero, List.getElem?_cons_succ, run_underlying' hu, k1, k4, Builtin.lenOf,
      run_sizeOf' hs, g1, goInt]

theorem cOpds_one {xs : Array Operand} {y : Opd} (h : cOpds xs.toList = some [y]) : ∃ x, xs = #[x] ∧ cOpd x = some y := by
  cases xs with
  | mk l =>
    cases l with
    | nil => simp [cOpds] at h
    | cons x l =>
      simp only [cOpds] at h
      split at h <;> first | (simp at h; done) | skip
      rename_i y' m h1 h2
      simp only [Option.some.injEq, List.cons.injEq] at h
      obtain ⟨rfl, rfl⟩ := h
      cases l with
      | nil => exact ⟨x, rfl, h1⟩
      | cons x2 l => simp only [cOpds] at h2; split at h2 <;> simp at h2
theorem cOpds_two {xs : Array Operand} {y q : Opd} (h : cOpds xs.toList = some [y, q]) : ∃ x z, xs = #[x, z] ∧ cOpd x = some y ∧ cOpd z = some q := by
  cases xs with
  | mk l =>
    cases l with
    | nil => simp [cOpds] at h
    | cons x l =>
      simp only [cOpds] at h
      split at h <;> first | (simp at h; done) | skip
      rename_i y' m h1 h2
      simp only [Option.some.injEq, List.cons.injEq] at h
      obtain ⟨rfl, rfl⟩ := h
      obtain ⟨z, h3, h4⟩ := cOpds_one (xs := ⟨l⟩) h2
      cases h3
      exact ⟨x, z, rfl, h1, h4⟩

theorem ok_toArr (hH : HRel ρ H w) (ht : LRel ρ tm a.tmps.toList) {t e : TypeId} {n : Nat} {x : Operand} {y : Opd} (ho : o.op = .sliceToArrayPointer t x) (hu : P.underlying t = some (.array n e)) (hx : cOpd x = some y)
    (h : sim n0 tm H (.toArr n y) = some (v, eff)) : OpOK P n0 i ρ H w a o v eff := by
  have e1 := cOpd_ev ht hx
  simp only [sim] at h
  split at h <;> first | (simp at h; done) | skip
  rename_i b off m c hv
  split at h <;> first | (simp at h; done) | skip
  rename_i hle
  simp only [Option.some.injEq, Prod.mk.injEq] at h; obtain ⟨rfl, rfl⟩ := h
  rw [hv] at e1
  simp only [VRel] at e1; obtain ⟨b', h1, _, h3⟩ := e1
  refine OpOK.pure (v' := .pointer (some ⟨b', off, none⟩)) hH ?_ (by simp only [VRel]; exact ⟨b', rfl, trivial, h3⟩)
  simp [execOp, ho, Instr.arrayAt, run_underlying' hu, h1, show ¬ m < n by omega]

theorem ok_indexS (hH : HRel ρ H w) (ht : LRel ρ tm a.tmps.toList) {t : TypeId} {x z : Operand} {y q : Opd} (ho : o.op = .index t x z) (hu : P.underlying t = some .string) (hx : cOpd x = some y) (hz : cOpd z = some q)
    (h : sim n0 tm H (.indexS y q) = some (v, eff)) : OpOK P n0 i ρ H w a o v eff := by
  have e1 := cOpd_ev ht hx; have e2 := cOpd_ev ht hz
  simp only [sim] at h
  split at h <;> first | (simp at h; done) | skip
  rename_i s k j hv hj
  rw [hj] at e2; have e2 := int_rel e2
  rw [hv] at e1; simp only [VRel] at e1
  split at h <;> first | (simp at h; done) | skip
  rename_i h0
  split at h <;> first | (simp at h; done) | skip
  rename_i b hb
  simp only [Option.some.injEq, Prod.mk.injEq] at h; obtain ⟨rfl, rfl⟩ := h
  refine OpOK.pure (v' := .int .u8 b.toNat) hH ?_ (by simp only [VRel])
  simp [execOp, ho, Instr.index, run_underlying' hu, e1, e2, asIntOf, h0, hb]

theorem map_some_eq {α β : Type} {f : α → β} {x : Option α} {y : β} (h : x.map f = some y) : ∃ z, x = some z ∧ f z = y := by
  cases x with
  | none => simp at h
  | some z => exact ⟨z, rfl, by simpa using h⟩

theorem sim_ok (hH : HRel ρ H w) (hs : ρ (n0 + i) = none) (ht : LRel ρ tm a.tmps.toList) (hc : cop P i o.op = some p) (h : sim n0 tm H p = some (v, eff)) : OpOK P n0 i ρ H w a o v eff := by
  generalize ho : o.op = op at hc
  cases op with
  | move x => simp only [cop] at hc; obtain ⟨y, hy, rfl⟩ := map_some_eq hc; exact ok_mv hH ht (.inl ho) hy h
  | assign x => simp only [cop] at hc; obtain ⟨y, hy, rfl⟩ := map_some_eq hc; exact ok_mv hH ht (.inr ho) hy h
  | pick c x y =>
    simp only [cop] at hc; split at hc <;> first | (simp at hc; done) | skip
    cases hc; exact ok_pick hH ht ho ‹_› ‹_› ‹_› h
  | alloc e => simp only [cop] at hc; obtain ⟨y, hy, rfl⟩ := map_some_eq hc; exact ok_alloc hH hs ho hy h
  | box e x => simp only [cop] at hc; obtain ⟨y, hy, rfl⟩ := map_some_eq hc; exact ok_box hH hs ht ho hy h
  | build t parts =>
    simp only [cop] at hc
    split at hc <;> first | (simp at hc; done) | skip
    · rename_i z fs hz hu
      split at hc <;> first | (simp at hc; done) | skip
      rename_i ps hp
      split at hc <;> first | (simp at hc; done) | skip
      rename_i hall
      cases hc
      exact ok_build hH ht ho hz (.inl ⟨fs, hu, fun f hf => by simpa using (List.all_eq_true.1 hall f hf), hp⟩) h
    · rename_i z n e hz hu
      split at hc <;> first | (simp at hc; done) | skip
      rename_i s hsz
      obtain ⟨y, hy, rfl⟩ := map_some_eq hc
      exact ok_build hH ht ho hz (.inr ⟨n, e, s, hu, hsz, hy⟩) h
  | buildSlice t len parts =>
    simp only [cop] at hc
    split at hc <;> first | (simp at hc; done) | skip
    rename_i e hu
    split at hc <;> first | (simp at hc; done) | skip
    rename_i s z hsz hz
    split at hc <;> first | (simp at hc; done) | skip
    rename_i hcond
    obtain ⟨y, hy, rfl⟩ := map_some_eq hc
    exact ok_mkSlice hH hs ht ho hu hsz hz hcond.1 hcond.2.1 hcond.2.2 hy h
  | load t x =>
    simp only [cop] at hc; split at hc <;> first | (simp at hc; done) | skip
    cases hc; exact ok_load hH ht ho ‹_› ‹_› ‹_› h
  | store t x z =>
    simp only [cop] at hc; split at hc <;> first | (simp at hc; done) | skip
    cases hc; exact ok_store hH ht ho ‹_› ‹_› ‹_› h
  | nilCheck x => simp only [cop] at hc; obtain ⟨y, hy, rfl⟩ := map_some_eq hc; exact ok_nilCheck hH ht ho hy h
  | binOp op t x z yt =>
    simp only [cop] at hc
    split at hc <;> first | (simp at hc; done) | skip
    · cases hc; exact ok_bin hH ht ho ‹_› ‹_› h
    · rename_i hu hx hz
      split at hc <;> first | (simp at hc; done) | skip
      · cases hc; exact ok_eqS (neg := false) hH ht ho hx hz (.inl ⟨rfl, hu⟩) h
      · cases hc; exact ok_eqS (neg := true) hH ht ho hx hz (.inl ⟨rfl, hu⟩) h
    · rename_i hu hx hz
      split at hc <;> first | (simp at hc; done) | skip
      · cases hc; exact ok_eqS (neg := false) hH ht ho hx hz (.inr ⟨rfl, hu⟩) h
      · cases hc; exact ok_eqS (neg := true) hH ht ho hx hz (.inr ⟨rfl, hu⟩) h
    · rename_i hu hx hz
      split at hc <;> first | (simp at hc; done) | skip
      rename_i sh hsh
      split at hc <;> first | (simp at hc; done) | skip
      rename_i hgd
      split at hc <;> first | (simp at hc; done) | skip
      · cases hc; exact ok_eqv (neg := false) hH ht ho hx hz hsh (by simp [aggB, hu]) hgd h
      · cases hc; exact ok_eqv (neg := true) hH ht ho hx hz hsh (by simp [aggB, hu]) hgd h
    · rename_i hu hx hz
      split at hc <;> first | (simp at hc; done) | skip
      rename_i sh hsh
      split at hc <;> first | (simp at hc; done) | skip
      rename_i hgd
      split at hc <;> first | (simp at hc; done) | skip
      · cases hc; exact ok_eqv (neg := false) hH ht ho hx hz hsh (by simp [aggB, hu]) hgd h
      · cases hc; exact ok_eqv (neg := true) hH ht ho hx hz hsh (by simp [aggB, hu]) hgd h
    · rename_i dd y u _ _ _ _ _ hu hx hz
      have hzc : z = .const u ∨ ∃ f, z = .func f := by
        cases z with
        | tmp i => simp [cOpd] at hz
        | const v => simp only [cOpd] at hz; split at hz <;> simp at hz; subst hz; exact .inl rfl
        | func f => exact .inr ⟨f, rfl⟩
        | global g => simp [cOpd] at hz
      split at hc <;> first | (simp at hc; done) | skip
      · rename_i k hk
        rcases hzc with rfl | ⟨f, rfl⟩
        · cases hc; exact ok_eqNil (neg := false) hH ht ho hx rfl hu hk h
        · simp only [cOpd, Option.some.injEq, Opd.v.injEq] at hz; subst hz; cases dd <;> simp [nilKind] at hk
      · rename_i k hk
        rcases hzc with rfl | ⟨f, rfl⟩
        · cases hc; exact ok_eqNil (neg := true) hH ht ho hx rfl hu hk h
        · simp only [cOpd, Option.some.injEq, Opd.v.injEq] at hz; subst hz; cases dd <;> simp [nilKind] at hk
  | unOp op t x => simp only [cop] at hc; obtain ⟨y, hy, rfl⟩ := map_some_eq hc; exact ok_un hH ht ho hy h
  | convert s d x =>
    simp only [cop] at hc; split at hc <;> first | (simp at hc; done) | skip
    · cases hc; exact ok_conv hH ht ho ‹_› ‹_› ‹_› h
    · split at hc <;> first | (simp at hc; done) | skip
      cases hc; simp [sim] at h
  | makeInterface t x =>
    simp only [cop] at hc; split at hc <;> first | (simp at hc; done) | skip
    rename_i hni hu
    obtain ⟨y, hy, rfl⟩ := map_some_eq hc
    exact ok_mkIface hH ht ho hu (fun ms hm => hni ms hm) hy h
  | makeFunc fn first cap =>
    simp only [cop] at hc; split at hc <;> first | (simp at hc; done) | skip
    cases hc; exact ok_mkFunc hH ht ho ‹_› ‹_› h
  | fieldAddr t x j =>
    simp only [cop] at hc; split at hc <;> first | (simp at hc; done) | skip
    rename_i fs y hu hx
    split at hc <;> first | (simp at hc; done) | skip
    rename_i f hf
    split at hc <;> first | (simp at hc; done) | skip
    rename_i s hsz
    split at hc <;> first | (simp at hc; done) | skip
    rename_i hs0
    cases hc; exact ok_fieldAddr hH ht ho hu hf hsz hs0 hx h
  | field t x j =>
    simp only [cop] at hc; split at hc <;> first | (simp at hc; done) | skip
    rename_i fs y hu hx
    split at hc <;> first | (simp at hc; done) | skip
    rename_i f hf
    split at hc <;> first | (simp at hc; done) | skip
    rename_i s g hsz hg
    cases hc; exact ok_field hH ht ho hu hf hsz hg hx h
  | indexAddr t x z =>
    simp only [cop] at hc; split at hc <;> first | (simp at hc; done) | skip
    · obtain ⟨s, hsz, rfl⟩ := map_some_eq hc; exact ok_indexAddr hH ht ho (by simpa using ‹_›) hsz ‹_› ‹_› h
    · obtain ⟨s, hsz, rfl⟩ := map_some_eq hc; exact ok_indexAddr hH ht ho (by simpa using ‹_›) hsz ‹_› ‹_› h
  | sliceToArrayPointer t x =>
    simp only [cop] at hc; split at hc <;> first | (simp at hc; done) | skip
    cases hc; exact ok_toArr hH ht ho ‹_› ‹_› h
  | index t x z =>
    simp only [cop] at hc; split at hc <;> first | (simp at hc; done) | skip
    · rename_i hu hx hz
      split at hc <;> first | (simp at hc; done) | skip
      cases hc; exact ok_index hH ht ho hu ‹_› ‹_› hx hz h
    · rename_i hu hx hz
      cases hc; exact ok_indexS hH ht ho hu hx hz h
  | extract x j => simp only [cop] at hc; obtain ⟨y, hy, rfl⟩ := map_some_eq hc; exact ok_extract hH ht ho hy h
  | slice t x lo hi mx =>
    simp only [cop] at hc; split at hc <;> first | (simp at hc; done) | skip
    · rename_i hu hx h1 h2 h3
      split at hc <;> first | (simp at hc; done) | skip
      split at hc <;> first | (simp at hc; done) | skip
      cases hc; exact ok_slice hH ht ho (by simpa using hu) ‹_› ‹_› hx h1 h2 h3 h
    · rename_i hu hx h1 h2 h3
      split at hc <;> first | (simp at hc; done) | skip
      split at hc <;> first | (simp at hc; done) | skip
      cases hc; exact ok_slice hH ht ho (by simpa using hu) ‹_› ‹_› hx h1 h2 h3 h
  | makeSlice t l c =>
    simp only [cop] at hc; split at hc <;> first | (simp at hc; done) | skip
    rename_i hu hl hcc
    split at hc <;> first | (simp at hc; done) | skip
    rename_i ti z hti hz
    split at hc <;> first | (simp at hc; done) | skip
    rename_i hcond
    cases hc; exact ok_makeSlice hH hs ht ho hu hti hz hcond.1 hcond.2 hl hcc h
  | panic x => simp only [cop] at hc; obtain ⟨y, hy, rfl⟩ := map_some_eq hc; simp [sim] at h
  | typeAssert x xt t ok =>
    simp only [cop] at hc
    split at hc <;> first | (simp at hc; done) | skip
    rename_i hni hu hx
    split at hc
    · rename_i hok
      split at hc <;> first | (simp at hc; done) | skip
      rename_i ti hti
      split at hc <;> first | (simp at hc; done) | skip
      rename_i z hz
      split at hc <;> first | (simp at hc; done) | skip
      rename_i hf
      cases hc
      exact ok_tassert hH ht ho hx hu (fun ms hm => hni ms hm) (.inr ⟨hok, ti, z, hti, hz, hf, rfl⟩) h
    · rename_i hok
      cases hc
      exact ok_tassert hH ht ho hx hu (fun ms hm => hni ms hm) (.inl ⟨by simpa using hok, rfl⟩) h
  | call c =>
    obtain ⟨callee, args, argTypes⟩ := c
    cases callee with
    | value f =>
      simp only [cop] at hc; split at hc <;> first | (simp at hc; done) | skip
      cases hc; simp [sim] at h
    | invoke r m => simp [cop] at hc
    | builtin b =>
      simp only [cop] at hc
      split at hc <;> first | (simp at hc; done) | skip
      · rename_i y t hxs hts
        obtain ⟨x, rfl, hx⟩ := cOpds_one hxs
        have hts' : argTypes = #[t] := by apply Array.toList_inj.1; simpa using hts
        subst hts'
        split at hc <;> first | (simp at hc; done) | skip
        · cases hc; exact ok_len (str := false) (ts := #[]) hH ht ho (by simpa using ‹_›) hx h
        · cases hc; exact ok_len (str := true) (e := 0) (ts := #[]) hH ht ho (by simpa using ‹_›) hx h
        · cases hc; exact ok_lenArr hH ho ‹_› h
      · rename_i y t hxs hts
        obtain ⟨x, rfl, hx⟩ := cOpds_one hxs
        have hts' : argTypes = #[t] := by apply Array.toList_inj.1; simpa using hts
        subst hts'
        split at hc <;> first | (simp at hc; done) | skip
        cases hc; exact ok_cap hH ht ho ‹_› hx h
      · rename_i y q t ts hxs hts
        obtain ⟨x, z, rfl, hx, hz⟩ := cOpds_two hxs
        have hts' : argTypes = (t :: ts).toArray := by apply Array.toList_inj.1; simpa using hts
        subst hts'
        split at hc <;> first | (simp at hc; done) | skip
        rename_i e hu
        obtain ⟨s, hsz, rfl⟩ := map_some_eq hc
        exact ok_copy hH ht ho hu hsz hx hz h
      · cases hc; exact ok_minmax (isMax := false) hH ht ho ‹_› h
      · cases hc; exact ok_minmax (isMax := true) hH ht ho ‹_› h
      · split at hc <;> first | (simp at hc; done) | skip
        split at hc <;> first | (simp at hc; done) | skip
        split at hc <;> first | (simp at hc; done) | skip
        cases hc; simp [sim] at h
      · cases hc; simp [sim] at h
      · cases hc; simp [sim] at h
  | defer c =>
    obtain ⟨callee, args, argTypes⟩ := c
    cases callee with
    | value f =>
      simp only [cop] at hc; split at hc <;> first | (simp at hc; done) | skip
      cases hc; simp [sim] at h
    | invoke r m => simp [cop] at hc
    | builtin b => simp [cop] at hc
  | _ => simp [cop] at hc
end ops
end Go.Ab

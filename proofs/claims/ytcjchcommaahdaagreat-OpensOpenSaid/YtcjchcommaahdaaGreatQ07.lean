/- Regions that draw their order: the steps. No conditions. -/
import Derived.Test.YtcjchcommaahdaaGreatQ06
set_option maxRecDepth 20000
set_option maxHeartbeats 4000000
set_option linter.all false
namespace Go.Ab
section draw
variable {P : Program} {ops : Array Oper} {ord : List Nat} {n0 n : Nat} {tm : List Value} {H : Heap} {ρ : Ren} {w : World} {a : Act} {s L l D : List Nat}

theorem HRel.upd_out (h : HRel ρ H w) {b : Nat} (hb : ρ b = none) (o : AObj) : HRel ρ (upd H b o) w := by
  refine ⟨h.inj, fun i c hi => ?_⟩
  obtain ⟨x, x', h1, h2, h3⟩ := h.obj i c hi
  have : i ≠ b := fun e => by rw [e, hb] at hi; cases hi
  exact ⟨x, x', by rw [upd_ne _ _ this]; exact h1, h2, h3⟩

theorem DInv.inD (F : Facts P ops ord) {j : Nat} (I : DInv (P := P) (ops := ops) ord n0 n tm H ρ w a s L (j :: l) D) {i : Nat} (h : bf ops i j = true) : i ∈ D := by
  obtain ⟨h1, h2, h3, h4⟩ := I.sch
  exact Sch.bef F.deps I.closed h1 h3 i h

theorem DInv.next_closed {j : Nat} (I : DInv (P := P) (ops := ops) ord n0 n tm H ρ w a s L (j :: l) D) : ∀ i, i ∈ j :: D → i < ops.size ∧ ∀ e, e ∈ depsOf ops i → e ∈ j :: D := by
  obtain ⟨h1, h2, h3, h4⟩ := I.sch
  intro i hi
  rcases List.mem_cons.1 hi with rfl | hi
  · exact ⟨h1, fun e he => by simp [h3 e he]⟩
  · exact ⟨(I.closed i hi).1, fun e he => by simp [(I.closed i hi).2 e he]⟩

/-- What stands at the head of the text's order is not done, nor waiting. -/
theorem DInv.head_out (F : Facts P ops ord) {y : Nat} (I : DInv (P := P) (ops := ops) ord n0 n tm H ρ w a (y :: s) L l D) : y ∉ D ∧ y ∉ L ∧ y < ops.size ∧ y ∉ s := by
  obtain ⟨p, hp, hm⟩ := I.split
  have hnd := F.nodup
  rw [hp] at hnd
  have h1 := List.nodup_append.1 hnd
  have hy : y ∉ p := fun h => h1.2.2 y h y (by simp) rfl
  refine ⟨fun h => hy ((hm y).2 (.inl h)), fun h => hy ((hm y).2 (.inr h)), F.lt y (by rw [hp]; simp), (List.nodup_cons.1 h1.2.1).1⟩

/-- Nobody who waits is named by the operation that is next in time. -/
theorem DInv.not_named (F : Facts P ops ord) {j : Nat} (I : DInv (P := P) (ops := ops) ord n0 n tm H ρ w a s L (j :: l) D) {i : Nat} (hi : i ∈ L) (hne : j ≠ i) {t : Nat} (hd : (cOper0 P ops i).dst = some t) : names (cOper0 P ops j) t = false := by
  cases hn : names (cOper0 P ops j) t with
  | false => rfl
  | true =>
    have Pi := I.pend i hi
    have := ((F.wait i Pi.lt Pi.wait).2 t hd).2 j I.sch.1 hne hn
    exact absurd (I.inD F this) (I.disj i hi)

theorem reads_names {o : AOper} {t : Nat} (h : names o t = false) : reads o t = false := by
  unfold names at h; simp only [Bool.or_eq_false_iff] at h; exact h.1
theorem names_dst {o : AOper} {t : Nat} (h : names o t = false) : o.dst ≠ some t := by
  unfold names at h; simp only [Bool.or_eq_false_iff, beq_eq_false_iff_ne] at h; exact h.2

/-- The abstract machine goes on by an operation that may wait. -/
theorem DInv.lazy (F : Facts P ops ord) {i : Nat} (I : DInv (P := P) (ops := ops) ord n0 n tm H ρ w a (i :: s) L l D) (hw : mw P ops i = true) {v : Value} {eff : Eff}
    (hr : (gOK tm (cOper0 P ops i).guard = some false ∧ v = junk ∧ eff = none) ∨ (gOK tm (cOper0 P ops i).guard = some true ∧ sim n0 tm H (cOper0 P ops i).op = some (v, eff))) :
    DInv (P := P) (ops := ops) ord n0 n (put tm (cOper0 P ops i).dst v) (eff.app H) ρ w a s (i :: L) l D := by
  obtain ⟨hiD, hiL, hlt, his⟩ := I.head_out F
  obtain ⟨hlazy, hdst⟩ := F.wait i hlt hw
  obtain ⟨p, hp, hm⟩ := I.split
  obtain ⟨hHi, hρi⟩ := I.slots i (by simp)
  have heff : eff = none ∨ ∃ o, eff = some (n0 + i, o) := by
    rcases hr with ⟨_, _, h⟩ | ⟨_, h⟩
    · exact .inl h
    · rcases sim_eff hlazy h with h1 | ⟨k, o, hk, h1⟩
      · exact .inl h1
      · right
        obtain ⟨o', ho', hc, _, _⟩ := cOper_op (P := P) (ops := ops) (i := i) (p := (cOper0 P ops i).op) rfl (by intro hb; rw [hb] at hlazy; simp [lazyOp] at hlazy)
        have := cop_slot hc hk
        subst this; exact ⟨o, h1⟩
  have happ : ∀ b, b ≠ n0 + i → (eff.app H) b = H b := by
    intro b hb
    rcases heff with rfl | ⟨o, rfl⟩
    · rfl
    · exact upd_ne _ _ hb
  -- who waits already does not name what this one gives
  have hnn : ∀ j, j ∈ L → ∀ t, (cOper0 P ops i).dst = some t → names (cOper0 P ops j) t = false := by
    intro j hj t ht
    cases hn : names (cOper0 P ops j) t with
    | false => rfl
    | true =>
      have hne : j ≠ i := fun e => hiL (e ▸ hj)
      have h1 := (hdst t ht).2 j (I.pend j hj).lt hne hn
      have h2 := (F.pair p (i :: s) j i hp ((hm j).2 (.inr hj)) (by simp)).1
      rw [h1] at h2; cases h2
  have hheapj : ∀ j, j < ops.size → mw P ops j = true → ∀ (tm' : List Value) v' eff', sim n0 tm' H (cOper0 P ops j).op = some (v', eff') → sim n0 tm' (eff.app H) (cOper0 P ops j).op = some (v', eff') := by
    intro j hj hwj tm' v' eff' h
    have hlz := (F.wait j hj hwj).1
    rw [sim_heap hlz]
    · exact h
    · intro ad b off had hev
      apply happ
      intro e
      subst e
      -- the block read is there, the new one is not
      cases hop : (cOper0 P ops j).op <;> rw [hop] at had <;> simp only [addrOf] at had <;> first | (simp at had; done) | skip
      cases had
      rw [hop] at h
      simp only [sim, hev, hHi] at h
      cases h
  refine ⟨?_, I.hF, ?_, I.hn, ?_, ?_, ⟨p ++ [i], by simp [hp], ?_⟩, ?_, List.nodup_cons.2 ⟨hiL, I.nd⟩, I.sch, I.closed, ?_, ?_⟩
  · rcases heff with rfl | ⟨o, rfl⟩
    · exact I.hH
    · exact I.hH.upd_out hρi o
  · intro b hb
    rw [happ b (by have := I.hn; omega)]; exact I.hC b hb
  · rw [put_length]; exact I.size
  · intro t ht
    have hne : (cOper0 P ops i).dst ≠ some t := ht i (by simp)
    rw [put_getD, if_neg (fun h => hne h.1)]
    exact I.tms t fun j hj => ht j (by simp [hj])
  · intro j
    simp only [List.mem_append, hm j, List.mem_cons, List.not_mem_nil, or_false]
    constructor
    · rintro ((h | h) | h)
      · exact .inl h
      · exact .inr (.inr h)
      · exact .inr (.inl h)
    · rintro (h | h | h)
      · exact .inl (.inl h)
      · exact .inr h
      · exact .inl (.inr h)
  · intro j hj
    rcases List.mem_cons.1 hj with rfl | hj
    · exact hiD
    · exact I.disj j hj
  · intro j hj
    rcases List.mem_cons.1 hj with rfl | hj
    · refine ⟨hlt, hw, hρi, ?_⟩
      have hown : ∀ t, (cOper0 P ops j).dst = some t → reads (cOper0 P ops j) t = false := fun t ht => (hdst t ht).1
      rcases hr with ⟨h1, rfl, rfl⟩ | ⟨h1, h2⟩
      · left
        refine ⟨by rw [put_gOK hown]; exact h1, fun d hd => ?_⟩
        rw [put_getD]
        split
        · rfl
        · rename_i hc
          rw [List.getD_eq_getElem?_getD, List.getElem?_eq_none]
          · rfl
          · simp only [not_and, Nat.not_lt] at hc; exact hc hd
      · right
        refine ⟨by rw [put_gOK hown]; exact h1, v, eff, ?_, fun d hd => ?_, ?_⟩
        · rw [sim_congr (put_ev hown)]; exact hheapj j hlt hw tm v eff h2
        · rw [put_getD, put_length]
          by_cases hc : d < tm.length
          · left; rw [if_pos ⟨hd, hc⟩]
          · right; omega
        · rcases heff with rfl | ⟨o, rfl⟩
          · exact .inl rfl
          · exact .inr ⟨o, rfl, upd_same _ _ _⟩
    · have Pj := I.pend j hj
      have hne : j ≠ i := fun e => hiL (e ▸ hj)
      have hown : ∀ t, (cOper0 P ops i).dst = some t → reads (cOper0 P ops j) t = false := fun t ht => reads_names (hnn j hj t ht)
      have hget : ∀ d, (cOper0 P ops j).dst = some d → (put tm (cOper0 P ops i).dst v).getD d junk = tm.getD d junk := by
        intro d hd
        rw [put_getD, if_neg]
        rintro ⟨h, _⟩
        exact names_dst (hnn j hj d h) hd
      refine ⟨Pj.lt, Pj.wait, Pj.slot, ?_⟩
      rcases Pj.run with ⟨h1, h2⟩ | ⟨h1, v', eff', h2, h3, h4⟩
      · exact .inl ⟨by rw [put_gOK hown]; exact h1, fun d hd => by rw [hget d hd]; exact h2 d hd⟩
      · refine .inr ⟨by rw [put_gOK hown]; exact h1, v', eff', ?_, fun d hd => ?_, ?_⟩
        · rw [sim_congr (put_ev hown)]; exact hheapj j Pj.lt Pj.wait tm v' eff' h2
        · rw [hget d hd, put_length]; exact h3 d hd
        · rcases h4 with h4 | ⟨o, h4, h5⟩
          · exact .inl h4
          · exact .inr ⟨o, h4, by rw [happ _ (by omega)]; exact h5⟩
  · intro j hj
    have hne : j ≠ i := fun e => his (e ▸ hj)
    obtain ⟨h1, h2⟩ := I.slots j (by simp [hj])
    exact ⟨by rw [happ _ (by omega)]; exact h1, h2⟩

variable {b : Frame} {m : List Item} {cs : List Frame} {R : Post} {res : ALeave} {C : Ctx P res R b cs} {df : List Deferred}

/-- One who waits is done. -/
theorem DInv.pend_step (F : Facts P ops ord) {j : Nat} (I : DInv (P := P) (ops := ops) ord n0 n tm H ρ w a s L (j :: l) D) (hj : j ∈ L) (ha : a.defers = df)
    (next : ∀ ρ1 w1 a1, a1.defers = df → DInv (P := P) (ops := ops) ord n0 n tm H ρ1 w1 a1 s (L.erase j) l (j :: D) → Runs C n0 ρ1 w1 df (lone (b.atR a1 (.inRegion ops l :: m)) cs w1)) :
    Runs C n0 ρ w df (lone (b.atR a (.inRegion ops (j :: l) :: m)) cs w) := by
  have Pj := I.pend j hj
  obtain ⟨hlazy, hdst⟩ := F.wait j Pj.lt Pj.wait
  obtain ⟨h1, h2, h3, h4⟩ := I.sch
  obtain ⟨p, hp, hm⟩ := I.split
  have hjs : j ∉ s := by
    intro h
    have hnd := F.nodup
    rw [hp] at hnd
    exact (List.nodup_append.1 hnd).2.2 j ((hm j).2 (.inr hj)) j h rfl
  -- its operands are there
  have hrd : ∀ t, reads (cOper0 P ops j) t = true → ∀ i, i ∈ L → (cOper0 P ops i).dst ≠ some t := by
    intro t ht i hi hd
    by_cases e : j = i
    · subst e
      have := (hdst t hd).1
      rw [ht] at this; cases this
    · have := reads_names (I.not_named F hi e hd)
      rw [ht] at this; cases this
  have hmask := I.masked
  have build : ∀ (v v' : Value) (ρ1 : Ren) (w1 : World), VRel ρ1 v v' → (∀ d, (cOper0 P ops j).dst = some d → tm.getD d junk = v ∨ tm.length ≤ d) → HRel ρ1 H w1 → Ext n0 ρ w ρ1 w1 → (∀ i, i ≠ n0 + j → ρ1 i = ρ i) →
      DInv (P := P) (ops := ops) ord n0 n tm H ρ1 w1 (a.put (cOper0 P ops j).dst v') s (L.erase j) l (j :: D) := by
    intro v v' ρ1 w1 hv hd hH1 hE hρ
    refine ⟨hH1, ?_, I.hC, I.hn, ?_, ?_, ⟨p, hp, ?_⟩, ?_, I.nd.erase j, h4, I.next_closed, ?_, ?_⟩
    · intro i c hi
      by_cases e : i = n0 + j
      · have := I.hn; have := Pj.lt; omega
      · rw [hρ i e] at hi; exact I.hF i c hi
    · have := I.size
      cases (cOper0 P ops j).dst <;> simpa [Act.put] using this
    · intro t ht
      have key : ∀ i, i ∈ L → i ≠ j → (cOper0 P ops i).dst ≠ some t := fun i hi hne => ht i ((I.nd.mem_erase_iff).2 ⟨hne, hi⟩)
      cases hdj : (cOper0 P ops j).dst with
      | none => exact (I.tms t fun i hi => by
          by_cases e : i = j
          · subst e; rw [hdj]; simp
          · exact key i hi e).mono hE.le
      | some d =>
        by_cases e : d = t
        · subst e
          have hsz := I.size
          rcases hd d hdj with h | h
          · rw [h]
            by_cases hlt : d < a.tmps.size
            · simp only [Act.put, Array.getD_eq_getD_getElem?, Array.getElem?_setIfInBounds, hlt, if_true, Option.getD_some]; exact hv
            · have hju : v = junk := by
                rw [← h, List.getD_eq_getElem?_getD, List.getElem?_eq_none (by omega)]; rfl
              rw [hju]; exact VRel.undef _ _
          · have : tm.getD d junk = junk := by rw [List.getD_eq_getElem?_getD, List.getElem?_eq_none h]; rfl
            rw [this]; exact VRel.undef _ _
        · have : (a.put (some d) v').tmps.getD t Go.undef = a.tmps.getD t Go.undef := by
            simp only [Act.put, Array.getD_eq_getD_getElem?, Array.getElem?_setIfInBounds, e, if_false]
          rw [this]
          exact (I.tms t fun i hi => by
            by_cases e2 : i = j
            · subst e2; rw [hdj]; simpa using e
            · exact key i hi e2).mono hE.le
    · intro i
      rw [hm i, I.nd.mem_erase_iff]
      simp only [List.mem_cons]
      by_cases e : i = j
      · subst e; simp [hj]
      · simp [e]
    · intro i hi
      have := (I.nd.mem_erase_iff).1 hi
      simp only [List.mem_cons, not_or]
      exact ⟨this.1, I.disj i this.2⟩
    · intro i hi
      have hi' := (I.nd.mem_erase_iff).1 hi
      have Pi := I.pend i hi'.2
      exact ⟨Pi.lt, Pi.wait, by rw [hρ _ (by have := hi'.1; omega)]; exact Pi.slot, Pi.run⟩
    · intro i hi
      have hne : i ≠ j := fun e => hjs (e ▸ hi)
      have := I.slots i hi
      exact ⟨this.1, by rw [hρ _ (by omega)]; exact this.2⟩
  have hda : ∀ v', (a.put (cOper0 P ops j).dst v').defers = df := by intro v'; cases (cOper0 P ops j).dst <;> exact ha
  obtain ⟨o, ho, hc, hod, hog⟩ := cOper_op (P := P) (ops := ops) (i := j) (p := (cOper0 P ops j).op) rfl (by intro hb; rw [hb] at hlazy; simp [lazyOp] at hlazy)
  rcases Pj.run with ⟨g1, g2⟩ | ⟨g1, v, eff, g2, g3, g4⟩
  · have hw : Region.wanted o (yielded ops a.tmps) = false := gOK_wanted (a := a) hmask hog (by rw [gOK_mask hrd]; exact g1)
    have hst := stepR_op_skip (P := P) (b := b) (a := a) (k := m) (cs := cs) (w := w) (ops := ops) (i := j) (rest := l) (by simp [ho, hw])
    refine Runs.step hst ?_
    simp only [ho, Option.bind_some]
    rw [← hod]
    exact next ρ w _ (hda _) (build junk Go.undef ρ w (VRel.undef _ _) (fun d hd => .inl (g2 d hd)) I.hH (Ext.refl _ _ _) (fun _ _ => rfl))
  · have hw : Region.wanted o (yielded ops a.tmps) = true := gOK_wanted (a := a) hmask hog (by rw [gOK_mask hrd]; exact g1)
    have hs2 : sim n0 (mask (L.map fun j => (cOper0 P ops j).dst) tm) H (cOper0 P ops j).op = some (v, eff) := by rw [sim_congr (ev_mask hrd)]; exact g2
    obtain ⟨r, v', ρ1, w1, k1, k2, k3, k4, k5, k6⟩ := sim_ok (o := o) I.hH Pj.slot hmask hc hs2
    have happ : eff.app H = H := by
      rcases g4 with rfl | ⟨x, rfl, hx⟩
      · rfl
      · funext i; simp only [Eff.app, upd]; split
        · rename_i e; rw [e]; exact hx.symm
        · rfl
    rw [happ] at k4
    refine Runs.step (step_value (nd_sim hc (by intro f args h; rw [h] at hlazy; simp [lazyOp] at hlazy)) ho hw k1 k2) (Runs.later (n1 := n0) k5 (Nat.le_refl _) ?_)
    rw [← hod]
    exact next ρ1 w1 _ (hda _) (build v v' ρ1 w1 k3 g3 k4 k5 k6)

/-- One that others may hang on is done, in both machines at once. -/
theorem DInv.sync (F : Facts P ops ord) {y : Nat} (I : DInv (P := P) (ops := ops) ord n0 n tm H ρ w a (y :: s) L (y :: l) D) (hw : mw P ops y = false) {v v' : Value} {H1 : Heap} {n1 : Nat} {ρ1 : Ren} {w1 : World} (hn : n ≤ n1)
    (hE : Ext n0 ρ w ρ1 w1) (hH1 : HRel ρ1 H1 w1) (hF1 : Fresh ρ1 n1) (hC1 : Clean H1 n1) (hv : VRel ρ1 v v') (hslot : ∀ j, j < ops.size → j ≠ y → ρ (n0 + j) = none → ρ1 (n0 + j) = none)
    (hload : ∀ j, j ∈ L → ∀ ad b off, addrOf (cOper0 P ops j).op = some ad → ad.ev tm = .pointer (some ⟨b, off, none⟩) → H b ≠ none → H1 b = H b)
    (hkeep : ∀ j, j < ops.size → j ≠ y → ρ (n0 + j) = none → H1 (n0 + j) = H (n0 + j)) :
    DInv (P := P) (ops := ops) ord n0 n1 (put tm (cOper0 P ops y).dst v) H1 ρ1 w1 (a.put (cOper0 P ops y).dst v') s L l (y :: D) := by
  obtain ⟨hyD, hyL, hlt, hys⟩ := I.head_out F
  obtain ⟨h1, h2, h3, h4⟩ := I.sch
  obtain ⟨p, hp, hm⟩ := I.split
  have hnn : ∀ j, j ∈ L → ∀ t, (cOper0 P ops y).dst = some t → names (cOper0 P ops j) t = false := by
    intro j hj t ht
    cases hn : names (cOper0 P ops j) t with
    | false => rfl
    | true =>
      have hne : j ≠ y := fun e => hyL (e ▸ hj)
      rcases (F.last y hlt hw).1 t ht j (I.pend j hj).lt hne hn with h | h
      · have := (F.pair p (y :: s) j y hp ((hm j).2 (.inr hj)) (by simp)).1
        rw [h] at this; cases this
      · exact absurd (I.inD F h) (I.disj j hj)
  refine ⟨hH1, hF1, hC1, by have := I.hn; omega, ?_, ?_, ⟨p ++ [y], by simp [hp], ?_⟩, ?_, I.nd, h4, I.next_closed, ?_, ?_⟩
  · rw [put_length]
    have := I.size
    cases (cOper0 P ops y).dst <;> simpa [Act.put] using this
  · intro t ht
    cases hd : (cOper0 P ops y).dst with
    | none => exact (I.tms t ht).mono hE.le
    | some d =>
      rw [put_getD]
      by_cases e : d = t
      · subst e
        have hsz := I.size
        by_cases hlt : d < tm.length
        · rw [if_pos ⟨rfl, hlt⟩]
          have : d < a.tmps.size := by omega
          simp only [Act.put, Array.getD_eq_getD_getElem?, Array.getElem?_setIfInBounds, this, if_true, Option.getD_some]; exact hv
        · rw [if_neg (fun h => hlt h.2), List.getD_eq_getElem?_getD, List.getElem?_eq_none (by omega)]; exact VRel.undef _ _
      · rw [if_neg (fun h => e (by simpa using h.1))]
        have : (a.put (some d) v').tmps.getD t Go.undef = a.tmps.getD t Go.undef := by
          simp only [Act.put, Array.getD_eq_getD_getElem?, Array.getElem?_setIfInBounds, e, if_false]
        rw [this]; exact (I.tms t ht).mono hE.le
  · intro j
    simp only [List.mem_append, hm j, List.mem_cons, List.not_mem_nil, or_false]
    constructor
    · rintro ((h | h) | h)
      · exact .inl (.inr h)
      · exact .inr h
      · exact .inl (.inl h)
    · rintro ((h | h) | h)
      · exact .inr h
      · exact .inl (.inl h)
      · exact .inl (.inr h)
  · intro j hj
    simp only [List.mem_cons, not_or]
    exact ⟨fun e => hyL (e ▸ hj), I.disj j hj⟩
  · intro j hj
    have Pj := I.pend j hj
    have hne : j ≠ y := fun e => hyL (e ▸ hj)
    have hown : ∀ t, (cOper0 P ops y).dst = some t → reads (cOper0 P ops j) t = false := fun t ht => reads_names (hnn j hj t ht)
    have hget : ∀ d, (cOper0 P ops j).dst = some d → (put tm (cOper0 P ops y).dst v).getD d junk = tm.getD d junk := by
      intro d hd
      rw [put_getD, if_neg]
      rintro ⟨h, _⟩
      exact names_dst (hnn j hj d h) hd
    refine ⟨Pj.lt, Pj.wait, hslot j Pj.lt hne Pj.slot, ?_⟩
    rcases Pj.run with ⟨g1, g2⟩ | ⟨g1, v0, eff', g2, g3, g4⟩
    · exact .inl ⟨by rw [put_gOK hown]; exact g1, fun d hd => by rw [hget d hd]; exact g2 d hd⟩
    · refine .inr ⟨by rw [put_gOK hown]; exact g1, v0, eff', ?_, fun d hd => ?_, ?_⟩
      · rw [sim_congr (put_ev hown), sim_heap (F.wait j Pj.lt Pj.wait).1]
        · exact g2
        · intro ad b off had hev
          refine hload j hj ad b off had hev ?_
          intro hb
          cases hop : (cOper0 P ops j).op <;> rw [hop] at had <;> simp only [addrOf] at had <;> first | (simp at had; done) | skip
          cases had
          rw [hop] at g2
          simp only [sim, hev, hb] at g2
          cases g2
      · rw [hget d hd, put_length]; exact g3 d hd
      · rcases g4 with g4 | ⟨o, g4, g5⟩
        · exact .inl g4
        · exact .inr ⟨o, g4, by rw [hkeep j Pj.lt hne Pj.slot]; exact g5⟩
  · intro j hj
    have hne : j ≠ y := fun e => hys (e ▸ hj)
    have hjl : j < ops.size := F.lt j (by rw [hp]; simp [hj])
    obtain ⟨g1, g2⟩ := I.slots j (by simp [hj])
    exact ⟨by rw [hkeep j hjl hne g2]; exact g1, hslot j hjl hne g2⟩

/-- Who is next in time, if nobody waits at the head. -/
theorem DInv.next (F : Facts P ops ord) {y : Nat} (I : DInv (P := P) (ops := ops) ord n0 n tm H ρ w a (y :: s) L l D) (hw : mw P ops y = false) : (∃ j l', l = j :: l' ∧ j ∈ L) ∨ ∃ l', l = y :: l' := by
  obtain ⟨hyD, hyL, hlt, hys⟩ := I.head_out F
  obtain ⟨p, hp, hm⟩ := I.split
  cases l with
  | nil => exact absurd (I.sch y hlt) hyD
  | cons j l' =>
    by_cases hj : j ∈ L
    · exact .inl ⟨j, l', rfl, hj⟩
    · right
      obtain ⟨h1, h2, h3, h4⟩ := I.sch
      have hjo := F.mem j h1
      rw [hp] at hjo
      rcases List.mem_append.1 hjo with h | h
      · rcases (hm j).1 h with h | h
        · exact absurd h h2
        · exact absurd h hj
      · rcases List.mem_cons.1 h with rfl | h
        · exact ⟨l', rfl⟩
        · exfalso
          have := (F.pair (p ++ [y]) s y j (by simp [hp]) (by simp) h).2
          rcases this with h5 | h5
          · rw [hw] at h5; cases h5
          · exact hyD (I.inD F h5)

/-- All who wait are done till the next one's turn comes. -/
theorem DInv.lock (F : Facts P ops ord) {y : Nat} (hw : mw P ops y = false) : ∀ (l : List Nat) (L D : List Nat) (ρ : Ren) (w : World) (a : Act), a.defers = df → DInv (P := P) (ops := ops) ord n0 n tm H ρ w a (y :: s) L l D →
    (∀ ρ1 w1 a1 L1 l1 D1, a1.defers = df → DInv (P := P) (ops := ops) ord n0 n tm H ρ1 w1 a1 (y :: s) L1 (y :: l1) D1 → Runs C n0 ρ1 w1 df (lone (b.atR a1 (.inRegion ops (y :: l1) :: m)) cs w1)) →
    Runs C n0 ρ w df (lone (b.atR a (.inRegion ops l :: m)) cs w)
  | [], L, D, ρ, w, a, ha, I, hl => by rcases I.next F hw with ⟨_, _, h, _⟩ | ⟨_, h⟩ <;> cases h
  | j :: l, L, D, ρ, w, a, ha, I, hl => by
    rcases I.next F hw with ⟨j', l', h, hj⟩ | ⟨l', h⟩
    · cases h
      exact I.pend_step F hj ha fun ρ1 w1 a1 ha1 I1 => DInv.lock F hw l (L.erase j) (j :: D) ρ1 w1 a1 ha1 I1 hl
    · cases h
      exact hl ρ w a L l D ha I

/-- At the end all who wait are done. -/
theorem DInv.finish (F : Facts P ops ord) : ∀ (l : List Nat) (L D : List Nat) (ρ : Ren) (w : World) (a : Act), a.defers = df → DInv (P := P) (ops := ops) ord n0 n tm H ρ w a [] L l D →
    (∀ ρ1 w1 a1, a1.defers = df → HRel ρ1 H w1 → Fresh ρ1 n → LRel ρ1 tm a1.tmps.toList → Runs C n0 ρ1 w1 df (lone (b.atR a1 m) cs w1)) →
    Runs C n0 ρ w df (lone (b.atR a (.inRegion ops l :: m)) cs w)
  | [], L, D, ρ, w, a, ha, I, hl => by
    have hL : L = [] := by
      cases L with
      | nil => rfl
      | cons j L => exact absurd (I.sch j (I.pend j (by simp)).lt) (I.disj j (by simp))
    subst hL
    refine Runs.step stepR_region_end (hl ρ w a ha I.hH I.hF (LRel.of_get (by simpa using I.size) fun t ht => ?_))
    have e : a.tmps.toList.getD t Go.undef = a.tmps.getD t Go.undef := by
      rw [List.getD_eq_getElem?_getD, Array.getD_eq_getD_getElem?, Array.getElem?_toList]
    rw [e]; exact I.tms t (by simp)
  | j :: l, L, D, ρ, w, a, ha, I, hl => by
    obtain ⟨h1, h2, h3, h4⟩ := I.sch
    obtain ⟨p, hp, hm⟩ := I.split
    have hj : j ∈ L := by
      have := F.mem j h1
      rw [hp, List.append_nil] at this
      rcases (hm j).1 this with h | h
      · exact absurd h h2
      · exact h
    exact I.pend_step F hj ha fun ρ1 w1 a1 ha1 I1 => DInv.finish F l (L.erase j) (j :: D) ρ1 w1 a1 ha1 I1 hl

theorem DInv.reads_out (F : Facts P ops ord) {y : Nat} (I : DInv (P := P) (ops := ops) ord n0 n tm H ρ w a (y :: s) L (y :: l) D) : ∀ t, reads (cOper0 P ops y) t = true → ∀ i, i ∈ L → (cOper0 P ops i).dst ≠ some t := by
  intro t ht i hi hd
  have hne : y ≠ i := fun e => (I.head_out F).2.1 (e ▸ hi)
  have := reads_names (I.not_named F hi hne hd)
  rw [ht] at this; cases this

/-- Loads that wait are not ordered behind the one that is next. -/
theorem DInv.unordered (F : Facts P ops ord) {y : Nat} (I : DInv (P := P) (ops := ops) ord n0 n tm H ρ w a (y :: s) L (y :: l) D) {j : Nat} (hj : j ∈ L) {ad : Opd} (had : addrOf (cOper0 P ops j).op = some ad) :
    ad ∈ aparts (csOf P ops) (msOf ops) y := by
  have hlt := (I.pend j hj).lt
  obtain ⟨p, hp, hm⟩ := I.split
  have h1 : bf ops j y = false := by
    cases h : bf ops j y with
    | false => rfl
    | true => exact absurd (I.inD F h) (I.disj j hj)
  have h2 := (F.pair p (y :: s) j y hp ((hm j).2 (.inr hj)) (by simp)).1
  have hne : j ≠ y := fun e => (I.head_out F).2.1 (e ▸ hj)
  unfold aparts
  rw [List.mem_filterMap]
  refine ⟨(cOper0 P ops j, j), ?_, ?_⟩
  · rw [List.mem_zipIdx_iff_getElem?]; simpa using csOf_get P ops hlt
  · simp only
    have e1 : ((msOf ops).getD j 0).testBit y = false := h2
    have e2 : ((msOf ops).getD y 0).testBit j = false := h1
    rw [e1, e2]
    simp [hne, had]
end draw
end Go.Ab

/- Words for walking: each rule as an equation, and contracts. No conditions. -/
import Derived.Test.YtcjchcommaahdaaGreatQ08
set_option maxRecDepth 20000
set_option maxHeartbeats 4000000
set_option linter.all false
namespace Go.Ab
section eqs
variable {P : Program} {res : ALeave} {k : List AItem} {tm : List Value} {H : Heap} {n n0 : Nat} {d : Bool} {R : Post}

theorem AGo_skip : AGo P res (.code .skip :: k) tm H n R = AGo P res k tm H n R := propext ⟨fun h => by cases h; assumption, .skip⟩
theorem AGo_seq {a b} : AGo P res (.code (.seq a b) :: k) tm H n R = AGo P res (.code a :: .code b :: k) tm H n R := propext ⟨fun h => by cases h; assumption, .seq⟩
theorem AGo_block {id b} : AGo P res (.code (.block id b) :: k) tm H n R = AGo P res (.code b :: .inBlock id :: k) tm H n R := propext ⟨fun h => by cases h; assumption, .block⟩
theorem AGo_inBlock {id} : AGo P res (.inBlock id :: k) tm H n R = AGo P res k tm H n R := propext ⟨fun h => by cases h; assumption, .inBlock⟩
theorem AGo_loop {b} : AGo P res (.code (.loop b) :: k) tm H n R = AGo P res (.inLoop b :: k) tm H n R :=
  propext ⟨fun h => by cases h; exact .inLoop ‹_› ‹_› ‹_›, fun h => by cases h; exact .loop ‹_› ‹_› ‹_›⟩
theorem AGo_turn {b} (h : AGo P res (.code b :: .inLoop b :: k) tm H n R) : AGo P res (.inLoop b :: k) tm H n R := .inLoop (LeT.refl _) (.refl _) h
/-- What is dead at a loop's head is forgotten, and the loop stands as it was. -/
theorem AGo_forget {b} (is : List Nat) (h : AGo P res (.inLoop b :: k) (kill is tm) H n R) : AGo P res (.inLoop b :: k) tm H n R := by
  cases h with
  | inLoop h1 h2 h3 => exact .inLoop (LeT.trans h1 (LeT.kill is _)) h2 h3
theorem AGo_marks {b k'} (hk : Marks k k') (h : AGo P res (.inLoop b :: k') tm H n R) : AGo P res (.inLoop b :: k) tm H n R := by
  cases h with
  | inLoop h1 h2 h3 => exact .inLoop h1 (Marks.trans h2 hk) h3
/-- At a mark: what is dead is forgotten. -/
theorem AGo_markF (is : List Nat) (h : AGo P res k (kill is tm) H n R) : AGo P res (.mark :: k) tm H n R := .mark (LeT.kill is _) h

/-- A loop of two numbers: what is so at its head ('I') lasts; 'F' is so behind it; 'm' goes down. -/
theorem AGo_while2 {α β : Type} {b : ACode} {id : Nat} {F : α → β → List Value} {G : α → β → Heap} (I J : α → β → Nat → Prop) (m : α → β → Nat)
    (step : ∀ (x : α) (y : β) (n : Nat) (kk : List AItem), I x y n → (∀ x' y' n', J x' y' n' → AGo P res kk (F x' y') (G x' y') n' R) →
      (∀ x' y' n', I x' y' n' → m x' y' < m x y → AGo P res (.inLoop b :: .inBlock id :: .mark :: kk) (F x' y') (G x' y') n' R) →
      AGo P res (.inLoop b :: .inBlock id :: .mark :: kk) (F x y) (G x y) n R)
    (K : ∀ x' y' n', J x' y' n' → AGo P res k (F x' y') (G x' y') n' R) :
    ∀ (x : α) (y : β), I x y n → AGo P res (.inLoop b :: .inBlock id :: k) (F x y) (G x y) n R := by
  intro x y hI
  refine AGo_marks (.cons _ (.mark (.refl _))) ?_
  have : ∀ (d : Nat) (x : α) (y : β) (n : Nat), m x y < d → I x y n → AGo P res (.inLoop b :: .inBlock id :: .mark :: k) (F x y) (G x y) n R := by
    intro d
    induction d with
    | zero => intro x y n h; omega
    | succ d ih => intro x y n h hI; exact step x y n k hI K (fun x' y' n' hI' hm => ih x' y' n' (by omega) hI')
  exact this _ x y n (Nat.lt_succ_self _) hI
theorem AGo_while1 {α : Type} {b : ACode} {id : Nat} {F : α → List Value} {G : α → Heap} (I J : α → Nat → Prop) (m : α → Nat)
    (step : ∀ (x : α) (n : Nat) (kk : List AItem), I x n → (∀ x' n', J x' n' → AGo P res kk (F x') (G x') n' R) →
      (∀ x' n', I x' n' → m x' < m x → AGo P res (.inLoop b :: .inBlock id :: .mark :: kk) (F x') (G x') n' R) →
      AGo P res (.inLoop b :: .inBlock id :: .mark :: kk) (F x) (G x) n R)
    (K : ∀ x' n', J x' n' → AGo P res k (F x') (G x') n' R) :
    ∀ (x : α), I x n → AGo P res (.inLoop b :: .inBlock id :: k) (F x) (G x) n R :=
  fun x hI => AGo_while2 (F := fun x (_ : Unit) => F x) (G := fun x _ => G x) (fun x _ => I x) (fun x _ => J x) (fun x _ => m x)
    (fun x _ n kk hI hK hS => step x n kk hI (fun x' n' h => hK x' () n' h) (fun x' n' h h' => hS x' () n' h h')) (fun x' _ n' h => K x' n' h) x () hI
theorem AGo_while3 {α β γ : Type} {b : ACode} {id : Nat} {F : α → β → γ → List Value} {G : α → β → γ → Heap} (I J : α → β → γ → Nat → Prop) (m : α → β → γ → Nat)
    (step : ∀ (x : α) (y : β) (z : γ) (n : Nat) (kk : List AItem), I x y z n → (∀ x' y' z' n', J x' y' z' n' → AGo P res kk (F x' y' z') (G x' y' z') n' R) →
      (∀ x' y' z' n', I x' y' z' n' → m x' y' z' < m x y z → AGo P res (.inLoop b :: .inBlock id :: .mark :: kk) (F x' y' z') (G x' y' z') n' R) →
      AGo P res (.inLoop b :: .inBlock id :: .mark :: kk) (F x y z) (G x y z) n R)
    (K : ∀ x' y' z' n', J x' y' z' n' → AGo P res k (F x' y' z') (G x' y' z') n' R) :
    ∀ (x : α) (y : β) (z : γ), I x y z n → AGo P res (.inLoop b :: .inBlock id :: k) (F x y z) (G x y z) n R :=
  fun x y z hI => AGo_while2 (F := fun x (q : β × γ) => F x q.1 q.2) (G := fun x q => G x q.1 q.2) (fun x q => I x q.1 q.2) (fun x q => J x q.1 q.2) (fun x q => m x q.1 q.2)
    (fun x q n kk hI hK hS => step x q.1 q.2 n kk hI (fun x' y' z' n' h => hK x' (y', z') n' h) (fun x' y' z' n' h h' => hS x' (y', z') n' h h')) (fun x' q n' h => K x' q.1 q.2 n' h) x (y, z) hI
theorem AGo_scope {b} : AGo P res (.code (.scope b) :: k) tm H n R = AGo P res (.code b :: .inScope b :: k) tm H n R := propext ⟨fun h => by cases h; assumption, .scope⟩
theorem AGo_inScope {b} : AGo P res (.inScope b :: k) tm H n R = AGo P res k tm H n R := propext ⟨fun h => by cases h; assumption, .inScope⟩
theorem AGo_exit {id} : AGo P res (.code (.exit id) :: k) tm H n R = (match aexit id k with
    | some k' => AGo P res k' tm H n R
    | none => match leaveV tm H res (.out id) with | some v => R (.returned v) H n | none => False) := by
  apply propext; constructor
  · intro h; cases h
    · rename_i h1 h2; rw [h1]; exact h2
    · rename_i h1 h2 h3; rw [h1]; simp only; rw [h2]; exact h3
  · intro h; split at h
    · exact .exit ‹_› h
    · split at h
      · exact .exitOut ‹_› ‹_› h
      · exact h.elim
/-- A round begins. -/
theorem AGo_begin {l r ts} (hl : H l = some (.loop r ts)) (hr : r.state = .ready) (h : AGo P (.round l) k tm (upd H l (.loop { r with state := .busy } ts)) n R) : AGo P (.round l) (.begin :: k) tm H n R := .begin hl hr h
/-- A branch: which one, is asked first. -/
def CondB (P : Program) (res : ALeave) (x y : ACode) (k : List AItem) (tm : List Value) (H : Heap) (n : Nat) (R : Post) (b : Bool) : Prop := AGo P res (.code (if b then x else y) :: k) tm H n R
def CondV (P : Program) (res : ALeave) (x y : ACode) (k : List AItem) (tm : List Value) (H : Heap) (n : Nat) (R : Post) (v : Value) : Prop := match v with | .bool b => CondB P res x y k tm H n R b | _ => False
theorem CondB_true {x y} : CondB P res x y k tm H n R true = AGo P res (.code x :: k) tm H n R := rfl
theorem CondB_false {x y} : CondB P res x y k tm H n R false = AGo P res (.code y :: k) tm H n R := rfl
theorem CondV_bool {x y} {b : Bool} : CondV P res x y k tm H n R (.bool b) = CondB P res x y k tm H n R b := rfl
theorem AGo_cond {c x y} : AGo P res (.code (.cond c x y) :: k) tm H n R = CondV P res x y k tm H n R (c.ev tm) := by
  unfold CondV CondB
  apply propext; constructor
  · intro h; cases h; rename_i b h1 h2; rw [h1]; exact h2
  · intro h; split at h
    · rename_i b hb; exact .cond b hb h
    · exact h.elim
theorem AGo_ret : AGo P res (.code .ret :: k) tm H n R = (match leaveV tm H res .ret with | some v => R (.returned v) H n | none => False) := by
  apply propext; constructor
  · intro h; cases h; rename_i h1 h2; rw [h1]; exact h2
  · intro h; split at h
    · exact .ret ‹_› h
    · exact h.elim
theorem AGo_nil : AGo P res [] tm H n R = (match leaveV tm H res .off with | some v => R (.returned v) H n | none => False) := by
  apply propext; constructor
  · intro h; cases h; rename_i h1 h2; rw [h1]; exact h2
  · intro h; split at h
    · exact .nil ‹_› h
    · exact h.elim
theorem AGo_region {ops draw} : AGo P res (.code (.region ops draw) :: k) tm H n R = AGo P res (.inReg n draw ops :: k) tm H (n + ops.length) R := propext ⟨fun h => by cases h; assumption, .region⟩
theorem AGo_regNil : AGo P res (.inReg n0 d [] :: k) tm H n R = AGo P res k tm H n R := propext ⟨fun h => by cases h; assumption, .regNil⟩

def simple : AOp → Bool
  | .call .. | .append .. | .strBytes .. | .panic _ | .recover | .defer .. | .bad | .makeMap _ | .lookup .. | .mapUpdate .. => false
  | _ => true

theorem AGo_op {dst op ops} (hs : simple op = true) : AGo P res (.inReg n0 d ({ dst := dst, op := op, guard := none, ap := [] } :: ops) :: k) tm H n R =
    (match sim n0 tm H op with | some (v, eff) => AGo P res (.inReg n0 d ops :: k) (put tm dst v) (eff.app H) n R | none => False) := by
  apply propext; constructor
  · intro h
    cases h <;> first | (rename_i h1 h2 h3 h4; simp only at h2; rw [h2]; exact h4) | (rename_i h1 _; simp [gOK] at h1; done) | (simp_all [simple]; done) | skip
  · intro h; split at h
    · rename_i v eff hv; exact .op rfl hv (fun _ => by cases eff <;> simp [apartOK]) h
    · exact h.elim

/-- A store that other operations of its region may come before or behind. -/
def OnSA (P : Program) (res : ALeave) (n0 : Nat) (d : Bool) (dst : Option Nat) (ap : List Opd) (ops : List AOper) (k : List AItem) (tm : List Value) (n : Nat) (R : Post) (H : Heap) (r : Option (Value × Eff)) : Prop :=
  match r with | some (v, eff) => (d = true → apartOK tm ap eff = true) ∧ AGo P res (.inReg n0 d ops :: k) (put tm dst v) (eff.app H) n R | none => False
theorem OnSA_some {dst ap ops v eff} : OnSA P res n0 d dst ap ops k tm n R H (some (v, eff)) = ((d = true → apartOK tm ap eff = true) ∧ AGo P res (.inReg n0 d ops :: k) (put tm dst v) (Eff.app H eff) n R) := rfl
theorem op_storeA {dst ops} (m : Nat) (a x : Opd) (q : Opd) (qs : List Opd) : AGo P res (.inReg n0 d (⟨dst, .store m a x, none, q :: qs⟩ :: ops) :: k) tm H n R = OnSA P res n0 d dst (q :: qs) ops k tm n R H (sim n0 tm H (.store m a x)) := by
  unfold OnSA
  apply propext; constructor
  · intro h
    cases h <;> first | (rename_i h1 h2 h3 h4; simp only at h2; rw [h2]; exact ⟨h3, h4⟩) | (rename_i h1 _; simp [gOK] at h1; done) | (simp_all [simple]; done) | skip
  · intro h; split at h
    · rename_i v eff hv; exact .op rfl hv h.1 h.2
    · exact h.elim

theorem upd_upd {H : Heap} {b : Nat} {o o' : AObj} : upd (upd H b o) b o' = upd H b o' := by funext i; unfold upd; split <;> rfl
theorem upd_l1 {H : Heap} {b i j : Nat} {o : AObj} (h : (i == j) = false) : upd H (b + j) o (b + i) = H (b + i) := upd_ne _ _ (by simp at h; omega)
theorem upd_l2 {H : Heap} {b j : Nat} {o : AObj} (h : (0 == j) = false) : upd H (b + j) o b = H b := upd_ne _ _ (by simp at h; omega)
theorem upd_l3 {H : Heap} {b i : Nat} {o : AObj} (h : (i == 0) = false) : upd H b o (b + i) = H (b + i) := upd_ne _ _ (by simp at h; omega)
theorem wrap64_lit : IntKind.i64.wrap 0 = 0 ∧ IntKind.i64.wrap 1 = 1 ∧ IntKind.i64.wrap 2 = 2 ∧ IntKind.i64.wrap 3 = 3 ∧ IntKind.i64.wrap 4 = 4 ∧ IntKind.i64.wrap 5 = 5 ∧ IntKind.i64.wrap 6 = 6 ∧ IntKind.i64.wrap 7 = 7 ∧ IntKind.i64.wrap 8 = 8 := by decide

/-- Two values, cell by cell. -/
def eqvS (neg : Bool) (sh : List Nat) (v w : Value) : Option (Value × Eff) :=
  match v, w with
  | .agg a, .agg b => match cellsEq sh a.toList b.toList with
    | some r => some (.bool (bif neg then !r else r), none)
    | none => none
  | _, _ => none
/-- Go on with what an operation came to. -/
def OnS (P : Program) (res : ALeave) (n0 : Nat) (d : Bool) (dst : Option Nat) (ops : List AOper) (k : List AItem) (tm : List Value) (n : Nat) (R : Post) (H : Heap) (r : Option (Value × Eff)) : Prop :=
  match r with | some (v, eff) => AGo P res (.inReg n0 d ops :: k) (put tm dst v) (eff.app H) n R | none => False
theorem OnS_some {dst ops v eff} : OnS P res n0 d dst ops k tm n R H (some (v, eff)) = AGo P res (.inReg n0 d ops :: k) (put tm dst v) (Eff.app H eff) n R := rfl
theorem app_none {H : Heap} : Eff.app H none = H := rfl
theorem app_some {H : Heap} {b o} : Eff.app H (some (b, o)) = upd H b o := rfl
theorem op_mv {dst ops} (x : Opd) : AGo P res (.inReg n0 d (⟨dst, .mv x, none, []⟩ :: ops) :: k) tm H n R = OnS P res n0 d dst ops k tm n R H (sim n0 tm H (.mv x)) := AGo_op rfl
theorem op_pick {dst ops} (c a b : Opd) : AGo P res (.inReg n0 d (⟨dst, .pick c a b, none, []⟩ :: ops) :: k) tm H n R = OnS P res n0 d dst ops k tm n R H (sim n0 tm H (.pick c a b)) := AGo_op rfl
theorem op_alloc {dst ops} (i : Nat) (e : TypeId) (z : List Value) : AGo P res (.inReg n0 d (⟨dst, .alloc i e z, none, []⟩ :: ops) :: k) tm H n R = OnS P res n0 d dst ops k tm n R H (sim n0 tm H (.alloc i e z)) := AGo_op rfl
theorem op_box {dst ops} (i : Nat) (e : TypeId) (x : Opd) : AGo P res (.inReg n0 d (⟨dst, .box i e x, none, []⟩ :: ops) :: k) tm H n R = OnS P res n0 d dst ops k tm n R H (sim n0 tm H (.box i e x)) := AGo_op rfl
theorem op_build {dst ops} (z : List Value) (ps : List (Nat × Nat × Opd)) : AGo P res (.inReg n0 d (⟨dst, .build z ps, none, []⟩ :: ops) :: k) tm H n R = OnS P res n0 d dst ops k tm n R H (sim n0 tm H (.build z ps)) := AGo_op rfl
theorem op_mkSlice {dst ops} (i : Nat) (e : TypeId) (z : List Value) (l : Nat) (ps : List (Nat × Nat × Opd)) : AGo P res (.inReg n0 d (⟨dst, .mkSlice i e z l ps, none, []⟩ :: ops) :: k) tm H n R = OnS P res n0 d dst ops k tm n R H (sim n0 tm H (.mkSlice i e z l ps)) := AGo_op rfl
theorem op_load {dst ops} (g : Bool) (m : Nat) (a : Opd) : AGo P res (.inReg n0 d (⟨dst, .load g m a, none, []⟩ :: ops) :: k) tm H n R = OnS P res n0 d dst ops k tm n R H (sim n0 tm H (.load g m a)) := AGo_op rfl
theorem op_store {dst ops} (m : Nat) (a x : Opd) : AGo P res (.inReg n0 d (⟨dst, .store m a x, none, []⟩ :: ops) :: k) tm H n R = OnS P res n0 d dst ops k tm n R H (sim n0 tm H (.store m a x)) := AGo_op rfl
theorem op_bin {dst ops} (op : BinOp) (x y : Opd) : AGo P res (.inReg n0 d (⟨dst, .bin op x y, none, []⟩ :: ops) :: k) tm H n R = OnS P res n0 d dst ops k tm n R H (sim n0 tm H (.bin op x y)) := AGo_op rfl
theorem op_eqv {dst ops} (neg : Bool) (sh : List Nat) (x y : Opd) : AGo P res (.inReg n0 d (⟨dst, .eqv neg sh x y, none, []⟩ :: ops) :: k) tm H n R = OnS P res n0 d dst ops k tm n R H (eqvS neg sh (x.ev tm) (y.ev tm)) := AGo_op rfl
theorem op_eqS {dst ops} (neg : Bool) (s : Nat) (x y : Opd) : AGo P res (.inReg n0 d (⟨dst, .eqS neg s x y, none, []⟩ :: ops) :: k) tm H n R = OnS P res n0 d dst ops k tm n R H (sim n0 tm H (.eqS neg s x y)) := AGo_op rfl
theorem op_eqNil {dst ops} (neg : Bool) (kd : Nat) (x : Opd) : AGo P res (.inReg n0 d (⟨dst, .eqNil neg kd x, none, []⟩ :: ops) :: k) tm H n R = OnS P res n0 d dst ops k tm n R H (sim n0 tm H (.eqNil neg kd x)) := AGo_op rfl
theorem op_un {dst ops} (op : UnOp) (x : Opd) : AGo P res (.inReg n0 d (⟨dst, .un op x, none, []⟩ :: ops) :: k) tm H n R = OnS P res n0 d dst ops k tm n R H (sim n0 tm H (.un op x)) := AGo_op rfl
theorem op_conv {dst ops} (kk : IntKind) (x : Opd) : AGo P res (.inReg n0 d (⟨dst, .conv kk x, none, []⟩ :: ops) :: k) tm H n R = OnS P res n0 d dst ops k tm n R H (sim n0 tm H (.conv kk x)) := AGo_op rfl
theorem op_mkIface {dst ops} (t : TypeId) (x : Opd) : AGo P res (.inReg n0 d (⟨dst, .mkIface t x, none, []⟩ :: ops) :: k) tm H n R = OnS P res n0 d dst ops k tm n R H (sim n0 tm H (.mkIface t x)) := AGo_op rfl
theorem op_mkFunc {dst ops} (fn : Fn) (f c : List Opd) : AGo P res (.inReg n0 d (⟨dst, .mkFunc fn f c, none, []⟩ :: ops) :: k) tm H n R = OnS P res n0 d dst ops k tm n R H (sim n0 tm H (.mkFunc fn f c)) := AGo_op rfl
theorem op_fieldAddr {dst ops} (off : Nat) (x : Opd) : AGo P res (.inReg n0 d (⟨dst, .fieldAddr off x, none, []⟩ :: ops) :: k) tm H n R = OnS P res n0 d dst ops k tm n R H (sim n0 tm H (.fieldAddr off x)) := AGo_op rfl
theorem op_field {dst ops} (g : Bool) (m off : Nat) (x : Opd) : AGo P res (.inReg n0 d (⟨dst, .field g m off x, none, []⟩ :: ops) :: k) tm H n R = OnS P res n0 d dst ops k tm n R H (sim n0 tm H (.field g m off x)) := AGo_op rfl
theorem op_indexAddr {dst ops} (arr : Option Nat) (s : Nat) (x y : Opd) : AGo P res (.inReg n0 d (⟨dst, .indexAddr arr s x y, none, []⟩ :: ops) :: k) tm H n R = OnS P res n0 d dst ops k tm n R H (sim n0 tm H (.indexAddr arr s x y)) := AGo_op rfl
theorem op_index {dst ops} (l s : Nat) (g : Bool) (x y : Opd) : AGo P res (.inReg n0 d (⟨dst, .index l s g x y, none, []⟩ :: ops) :: k) tm H n R = OnS P res n0 d dst ops k tm n R H (sim n0 tm H (.index l s g x y)) := AGo_op rfl
theorem op_extract {dst ops} (x : Opd) (i : Nat) : AGo P res (.inReg n0 d (⟨dst, .extract x i, none, []⟩ :: ops) :: k) tm H n R = OnS P res n0 d dst ops k tm n R H (sim n0 tm H (.extract x i)) := AGo_op rfl
theorem op_len {dst ops} (b : Bool) (x : Opd) : AGo P res (.inReg n0 d (⟨dst, .len b x, none, []⟩ :: ops) :: k) tm H n R = OnS P res n0 d dst ops k tm n R H (sim n0 tm H (.len b x)) := AGo_op rfl
theorem op_cap {dst ops} (x : Opd) : AGo P res (.inReg n0 d (⟨dst, .cap x, none, []⟩ :: ops) :: k) tm H n R = OnS P res n0 d dst ops k tm n R H (sim n0 tm H (.cap x)) := AGo_op rfl
theorem op_slice {dst ops} (arr : Option Nat) (s : Nat) (x : Opd) (lo hi mx : Option Opd) : AGo P res (.inReg n0 d (⟨dst, .slice arr s x lo hi mx, none, []⟩ :: ops) :: k) tm H n R = OnS P res n0 d dst ops k tm n R H (sim n0 tm H (.slice arr s x lo hi mx)) := AGo_op rfl
theorem op_makeSlice {dst ops} (i : Nat) (e : TypeId) (z : List Value) (b : Nat) (l c : Opd) : AGo P res (.inReg n0 d (⟨dst, .makeSlice i e z b l c, none, []⟩ :: ops) :: k) tm H n R = OnS P res n0 d dst ops k tm n R H (sim n0 tm H (.makeSlice i e z b l c)) := AGo_op rfl
theorem op_copy {dst ops} (s : Nat) (x y : Opd) : AGo P res (.inReg n0 d (⟨dst, .copy s x y, none, []⟩ :: ops) :: k) tm H n R = OnS P res n0 d dst ops k tm n R H (sim n0 tm H (.copy s x y)) := AGo_op rfl
theorem op_minmax {dst ops} (b : Bool) (xs : List Opd) : AGo P res (.inReg n0 d (⟨dst, .minmax b xs, none, []⟩ :: ops) :: k) tm H n R = OnS P res n0 d dst ops k tm n R H (sim n0 tm H (.minmax b xs)) := AGo_op rfl
theorem op_nilCheck {dst ops} (x : Opd) : AGo P res (.inReg n0 d (⟨dst, .nilCheck x, none, []⟩ :: ops) :: k) tm H n R = OnS P res n0 d dst ops k tm n R H (sim n0 tm H (.nilCheck x)) := AGo_op rfl
theorem op_tassert {dst ops} (t : TypeId) (z : Option Value) (x : Opd) : AGo P res (.inReg n0 d (⟨dst, .tassert t z x, none, []⟩ :: ops) :: k) tm H n R = OnS P res n0 d dst ops k tm n R H (sim n0 tm H (.tassert t z x)) := AGo_op rfl
theorem op_toArr {dst ops} (m : Nat) (x : Opd) : AGo P res (.inReg n0 d (⟨dst, .toArr m x, none, []⟩ :: ops) :: k) tm H n R = OnS P res n0 d dst ops k tm n R H (sim n0 tm H (.toArr m x)) := AGo_op rfl
theorem op_indexS {dst ops} (x y : Opd) : AGo P res (.inReg n0 d (⟨dst, .indexS x y, none, []⟩ :: ops) :: k) tm H n R = OnS P res n0 d dst ops k tm n R H (sim n0 tm H (.indexS x y)) := AGo_op rfl


/-- What stands under a condition. -/
def GuardB (P : Program) (res : ALeave) (n0 : Nat) (d : Bool) (dst : Option Nat) (op : AOp) (ap : List Opd) (ops : List AOper) (k : List AItem) (tm : List Value) (H : Heap) (n : Nat) (R : Post) (c : Bool) : Prop :=
  if c = true then AGo P res (.inReg n0 d (⟨dst, op, none, ap⟩ :: ops) :: k) tm H n R else AGo P res (.inReg n0 d ops :: k) (put tm dst junk) H n R
def GuardV (P : Program) (res : ALeave) (n0 : Nat) (d : Bool) (dst : Option Nat) (op : AOp) (ap : List Opd) (ops : List AOper) (k : List AItem) (tm : List Value) (H : Heap) (n : Nat) (R : Post) (b : Bool) (v : Value) : Prop :=
  match v with | .bool c => GuardB P res n0 d dst op ap ops k tm H n R (c == b) | _ => False
theorem GuardB_true {dst op ap ops} : GuardB P res n0 d dst op ap ops k tm H n R true = AGo P res (.inReg n0 d (⟨dst, op, none, ap⟩ :: ops) :: k) tm H n R := rfl
theorem GuardB_false {dst op ap ops} : GuardB P res n0 d dst op ap ops k tm H n R false = AGo P res (.inReg n0 d ops :: k) (put tm dst junk) H n R := rfl
theorem GuardV_bool {dst op ap ops} {b c : Bool} : GuardV P res n0 d dst op ap ops k tm H n R b (.bool c) = GuardB P res n0 d dst op ap ops k tm H n R (c == b) := rfl
theorem AGo_guard {dst op ops t b ap} : AGo P res (.inReg n0 d (⟨dst, op, some (t, b), ap⟩ :: ops) :: k) tm H n R = GuardV P res n0 d dst op ap ops k tm H n R b (tm.getD t junk) := by
  have key : (match tm.getD t junk with
      | .bool c => if c = b then AGo P res (.inReg n0 d (⟨dst, op, none, ap⟩ :: ops) :: k) tm H n R else AGo P res (.inReg n0 d ops :: k) (put tm dst junk) H n R
      | _ => False) = GuardV P res n0 d dst op ap ops k tm H n R b (tm.getD t junk) := by
    unfold GuardV GuardB
    cases tm.getD t junk <;> first | rfl | (rename_i c; simp only [beq_iff_eq])
  rw [← key]
  apply propext; constructor
  · intro h
    cases h with
    | opSkip h1 h2 =>
      simp only [gOK] at h1
      split at h1 <;> first | (simp at h1; done) | skip
      rename_i c hc; rw [hc]; simp at h1; simp [h1]; exact h2
    | op h1 h2 h3 h4 =>
      simp only [gOK] at h1
      split at h1 <;> first | (simp at h1; done) | skip
      rename_i c hc; rw [hc]; simp at h1; simp only [h1, if_true]; exact .op rfl h2 h3 h4
    | call Q h1 h2 h3 h4 h5 h6 h7 =>
      simp only [gOK] at h1
      split at h1 <;> first | (simp at h1; done) | skip
      rename_i c hc; rw [hc]; simp at h1; simp only [h1, if_true]; exact .call Q rfl h2 h3 h4 h5 h6 h7
    | yield Q h1 h2 h3 h4 h5 h6 =>
      simp only [gOK] at h1
      split at h1 <;> first | (simp at h1; done) | skip
      rename_i c hc; rw [hc]; simp at h1; simp only [h1, if_true]; exact .yield Q rfl h2 h3 h4 h5 h6
    | appIn h1 h2 h3 h4 h5 =>
      simp only [gOK] at h1
      split at h1 <;> first | (simp at h1; done) | skip
      rename_i c hc; rw [hc]; simp at h1; simp only [h1, if_true]; exact .appIn rfl h2 h3 h4 h5
    | appNew h1 h2 h3 h4 h5 =>
      simp only [gOK] at h1
      split at h1 <;> first | (simp at h1; done) | skip
      rename_i c hc; rw [hc]; simp at h1; simp only [h1, if_true]; exact .appNew rfl h2 h3 h4 h5
    | strBytes h1 h2 h3 h4 h5 =>
      simp only [gOK] at h1
      split at h1 <;> first | (simp at h1; done) | skip
      rename_i c hc; rw [hc]; simp at h1; simp only [h1, if_true]; exact .strBytes rfl h2 h3 h4 h5
    | panic h1 h2 h3 h4 =>
      simp only [gOK] at h1
      split at h1 <;> first | (simp at h1; done) | skip
      rename_i c hc; rw [hc]; simp at h1; simp only [h1, if_true]; exact .panic rfl h2 h3 h4
  · intro h
    split at h
    · rename_i c hc
      split at h
      · rename_i hcb
        have hg : gOK tm (some (t, b)) = some true := by simp only [gOK, hc, hcb]; simp
        cases h with
        | opSkip h1 h2 => simp [gOK] at h1
        | op h1 h2 h3 h4 => exact .op hg h2 h3 h4
        | call Q h1 h2 h3 h4 h5 h6 h7 => exact .call Q hg h2 h3 h4 h5 h6 h7
        | yield Q h1 h2 h3 h4 h5 h6 => exact .yield Q hg h2 h3 h4 h5 h6
        | appIn h1 h2 h3 h4 h5 => exact .appIn hg h2 h3 h4 h5
        | appNew h1 h2 h3 h4 h5 => exact .appNew hg h2 h3 h4 h5
        | strBytes h1 h2 h3 h4 h5 => exact .strBytes hg h2 h3 h4 h5
        | panic h1 h2 h3 h4 => exact .panic hg h2 h3 h4
      · rename_i hcb
        exact .opSkip (by simp only [gOK, hc]; simp [hcb]) h
    · exact h.elim

theorem blk_1 {b i j : Nat} : (b + i == b + j) = (i == j) := by rw [Bool.eq_iff_iff]; simp
theorem blk_2 {b i : Nat} : (b + i == b) = (i == 0) := by rw [Bool.eq_iff_iff]; simp
theorem blk_3 {b i : Nat} : (b == b + i) = (0 == i) := by rw [Bool.eq_iff_iff]; simp; omega
theorem bounds_nn {len cap : Nat} : bounds tm len cap none none none = some (0, len, cap) := rfl
theorem bounds_nh {len cap : Nat} {x : Opd} : bounds tm len cap none (some x) none = (match bound (x.ev tm) cap with | some h => some (0, h, cap) | none => none) := by
  unfold bounds; simp only; cases bound (x.ev tm) cap <;> rfl
theorem bounds_ln {len cap : Nat} {x : Opd} : bounds tm len cap (some x) none none = (match bound (x.ev tm) len with | some l => some (l, len, cap) | none => none) := by
  unfold bounds; simp only; cases bound (x.ev tm) len <;> rfl
theorem bounds_lh {len cap : Nat} {x y : Opd} : bounds tm len cap (some x) (some y) none = (match bound (y.ev tm) cap with | some h => (match bound (x.ev tm) h with | some l => some (l, h, cap) | none => none) | none => none) := by
  unfold bounds; simp only; cases bound (y.ev tm) cap with
  | none => rfl
  | some h => simp only; cases bound (x.ev tm) h <;> rfl

def Ret (v : Value) (H : Heap) (n : Nat) : Post := fun e H' n' => e = .returned v ∧ H' = H ∧ n' = n
def Agree (n : Nat) (H H' : Heap) : Prop := ∀ i, i < n → H' i = H i
/-- A value, and nothing is changed of what was there. -/
def Gives (v : Value) (H : Heap) (n : Nat) : Post := fun e H' _ => e = .returned v ∧ Agree n H H'

theorem Agree.refl (n : Nat) (H : Heap) : Agree n H H := fun _ _ => rfl
theorem Agree.trans {m : Nat} {H1 H2 H3 : Heap} (h : Agree n H1 H2) (h' : Agree m H2 H3) (hm : n ≤ m) : Agree n H1 H3 := fun i hi => (h' i (by omega)).trans (h i hi)
theorem Agree.upd {b : Nat} {H1 H2 : Heap} {o : AObj} (h : Agree n H1 H2) (hb : n ≤ b) : Agree n H1 (upd H2 b o) := fun i hi => by rw [upd_ne _ _ (by omega)]; exact h i hi

theorem AGo_call {dst f args ops ap g first cap v H1 n1} (hf : f.ev tm = .func (.func g) first cap) (hc : ACall P g (first.toList ++ args.map (Opd.ev tm) ++ cap.toList) H n (Ret v H1 n1))
    (hd : d = true → ∀ i, i < n → H1 i = H i) (h : AGo P res (.inReg n0 d ops :: k) (put tm dst v) H1 n1 R) : AGo P res (.inReg n0 d ({ dst := dst, op := .call f args, guard := none, ap := ap } :: ops) :: k) tm H n R := by
  refine .call (Ret v H1 n1) rfl rfl hf hc ?_ ?_ ?_
  · rintro v' H' n' ⟨h1, rfl, rfl⟩ _ hdt; exact ⟨fun i _ hi => hd hdt i hi, fun _ _ b _ _ hb => hd hdt b hb⟩
  · rintro v' H' n' ⟨h1, rfl, rfl⟩ _; cases h1; exact h
  · rintro c H' n' ⟨h1, _⟩; cases h1
/-- A call of what only gives a value. -/
theorem AGo_ask {dst f args ops ap g first cap v} (hf : f.ev tm = .func (.func g) first cap) (hc : ACall P g (first.toList ++ args.map (Opd.ev tm) ++ cap.toList) H n (Ret v H n))
    (h : AGo P res (.inReg n0 d ops :: k) (put tm dst v) H n R) : AGo P res (.inReg n0 d ({ dst := dst, op := .call f args, guard := none, ap := ap } :: ops) :: k) tm H n R :=
  AGo_call hf hc (fun _ _ _ => rfl) h
/-- A call of which a law tells what it leaves. -/
theorem AGo_callQ {dst f args ops ap g first cap} (Q : Value → Heap → Nat → Prop) (hf : f.ev tm = .func (.func g) first cap)
    (hc : ACall P g (first.toList ++ args.map (Opd.ev tm) ++ cap.toList) H n (fun e H' n' => ∃ v, e = .returned v ∧ Q v H' n'))
    (hd : d = true → ∀ v H' n', Q v H' n' → ∀ i, i < n → H' i = H i) (h : ∀ v H' n', Q v H' n' → n ≤ n' → AGo P res (.inReg n0 d ops :: k) (put tm dst v) H' n' R) :
    AGo P res (.inReg n0 d ({ dst := dst, op := .call f args, guard := none, ap := ap } :: ops) :: k) tm H n R := by
  refine .call _ rfl rfl hf hc ?_ ?_ ?_
  · rintro v' H' n' ⟨v, h1, h2⟩ _ hdt; exact ⟨fun i _ hi => hd hdt _ _ _ h2 i hi, fun _ _ b _ _ hb => hd hdt _ _ _ h2 b hb⟩
  · rintro v' H' n' ⟨v, h1, h2⟩ hn; cases h1; exact h _ _ _ h2 hn
  · rintro c H' n' ⟨v, h1, _⟩; cases h1
end eqs

/-- A call: what is called, and with what, is asked first. -/
def CallV (P : Program) (res : ALeave) (n0 : Nat) (d : Bool) (dst : Option Nat) (f : Opd) (args : List Opd) (ap : List Opd) (ops : List AOper) (k : List AItem) (tm : List Value) (H : Heap) (n : Nat) (R : Post) (v : Value) (as : List Value) : Prop :=
  f.ev tm = v → args.map (Opd.ev tm) = as → AGo P res (.inReg n0 d (⟨dst, .call f args, none, ap⟩ :: ops) :: k) tm H n R
section calls
variable {P : Program} {res : ALeave} {k : List AItem} {tm : List Value} {H : Heap} {n n0 : Nat} {d : Bool} {R : Post} {dst : Option Nat} {f : Opd} {args ap : List Opd} {ops : List AOper} {as : List Value} {g : FuncId} {first cap : Array Value}
theorem op_call (f : Opd) (args : List Opd) : AGo P res (.inReg n0 d (⟨dst, .call f args, none, ap⟩ :: ops) :: k) tm H n R = CallV P res n0 d dst f args ap ops k tm H n R (f.ev tm) (args.map (Opd.ev tm)) :=
  propext ⟨fun h _ _ => h, fun h => h rfl rfl⟩
theorem AGo_callV {v H1 n1} (hc : ACall P g (first.toList ++ as ++ cap.toList) H n (Ret v H1 n1))
    (hd : d = true → ∀ i, i < n → H1 i = H i) (h : AGo P res (.inReg n0 d ops :: k) (put tm dst v) H1 n1 R) : CallV P res n0 d dst f args ap ops k tm H n R (.func (.func g) first cap) as := by
  rintro hf rfl; exact AGo_call hf hc hd h
/-- A call of what only gives a value. -/
theorem AGo_askV {v} (hc : ACall P g (first.toList ++ as ++ cap.toList) H n (Ret v H n)) (h : AGo P res (.inReg n0 d ops :: k) (put tm dst v) H n R) : CallV P res n0 d dst f args ap ops k tm H n R (.func (.func g) first cap) as :=
  AGo_callV hc (fun _ _ _ => rfl) h
theorem AGo_callQV (Q : Value → Heap → Nat → Prop) (hc : ACall P g (first.toList ++ as ++ cap.toList) H n (fun e H' n' => ∃ v, e = .returned v ∧ Q v H' n'))
    (hd : d = true → ∀ v H' n', Q v H' n' → ∀ i, i < n → H' i = H i) (h : ∀ v H' n', Q v H' n' → n ≤ n' → AGo P res (.inReg n0 d ops :: k) (put tm dst v) H' n' R) :
    CallV P res n0 d dst f args ap ops k tm H n R (.func (.func g) first cap) as := by
  rintro hf rfl; exact AGo_callQ Q hf hc hd h
end calls

theorem Enters.mono {P : Program} {R R' : Ending → World → Prop} (h : ∀ e w, R e w → R' e w) : ∀ {r : Result Next}, Enters P R r → Enters P R' r := by
  intro r hr
  unfold Enters at hr ⊢
  split at hr
  · exact Calls.mono hr h
  · exact h _ _ hr
  · exact hr.elim

theorem ACall.mono {P : Program} {f : FuncId} {args : List Value} {H : Heap} {n : Nat} {Q Q' : Post} (h : ∀ e H' n', Q e H' n' → Clean H' n' → n ≤ n' → Q' e H' n') (hc : ACall P f args H n Q) : ACall P f args H n Q' := by
  intro hC ρ w args' hH hF ha
  refine Enters.mono ?_ (hc hC ρ w args' hH hF ha)
  rintro e' w' ⟨e, ρ', H', n', h1, h2, h3, h4, h5, h6, h7⟩
  exact ⟨e, ρ', H', n', h1, h _ _ _ h2 h5 h6, h3, h4, h5, h6, h7⟩

/-- A value in which no block is new. -/
def Low (n : Nat) (v : Value) : Prop := ∀ (ρ ρ' : Ren) (v' : Value), (∀ i b, i < n → ρ' i = some b → ρ i = some b) → VRel ρ' v v' → VRel ρ v v'
def LowL (n : Nat) (l : List Value) : Prop := ∀ (ρ ρ' : Ren) (l' : List Value), (∀ i b, i < n → ρ' i = some b → ρ i = some b) → LRel ρ' l l' → LRel ρ l l'
theorem LowL.nil (n : Nat) : LowL n [] := by intro ρ ρ' l' _ h; simpa only [LRel] using h
theorem LowL.cons {n : Nat} {v : Value} {l : List Value} (h : Low n v) (hl : LowL n l) : LowL n (v :: l) := by
  intro ρ ρ' l' hr h'; simp only [LRel] at h' ⊢; obtain ⟨u, k, h1, h2, h3⟩ := h'; exact ⟨u, k, h1, h _ _ _ hr h2, hl _ _ _ hr h3⟩
theorem Low.agg {n : Nat} {l : List Value} (h : LowL n l) : Low n (.agg ⟨l⟩) := by
  intro ρ ρ' v' hr h'; simp only [VRel, ARel] at h' ⊢; obtain ⟨l', h1, h2⟩ := h'; exact ⟨l', h1, h _ _ _ hr h2⟩
theorem Low.tuple {n : Nat} {l : List Value} (h : LowL n l) : Low n (.tuple ⟨l⟩) := by
  intro ρ ρ' v' hr h'; simp only [VRel, ARel] at h' ⊢; rcases h' with h' | h' | ⟨l', h1, h2⟩
  · exact .inl h'
  · exact .inr (.inl h')
  · exact .inr (.inr ⟨l', h1, h _ _ _ hr h2⟩)
theorem Low.int {n : Nat} {k : IntKind} {i : Int} : Low n (.int k i) := by intro ρ ρ' v' _ h; simpa only [VRel] using h
theorem Low.bool {n : Nat} {b : Bool} : Low n (.bool b) := by intro ρ ρ' v' _ h; simpa only [VRel] using h
theorem Low.string {n : Nat} {b : ByteArray} : Low n (.string b) := by intro ρ ρ' v' _ h; simpa only [VRel] using h
theorem Low.nilp {n : Nat} : Low n (.pointer none) := by intro ρ ρ' v' _ h; simpa only [VRel] using h
theorem Low.nils {n a b : Nat} : Low n (.slice none a b) := by intro ρ ρ' v' _ h; simpa only [VRel] using h
theorem Low.niface {n : Nat} : Low n .nilIface := by intro ρ ρ' v' _ h; simpa only [VRel] using h
theorem Low.ptr {n b o : Nat} {s : Option _} (h : b < n) : Low n (.pointer (some ⟨b, o, s⟩)) := by
  intro ρ ρ' v' hr h'; simp only [VRel] at h' ⊢; obtain ⟨b', h1, h2, h3⟩ := h'; exact ⟨b', h1, h2, hr _ _ h h3⟩
theorem Low.sl {n b o x y : Nat} {s : Option _} (h : b < n) : Low n (.slice (some ⟨b, o, s⟩) x y) := by
  intro ρ ρ' v' hr h'; simp only [VRel] at h' ⊢; obtain ⟨b', h1, h2, h3⟩ := h'; exact ⟨b', h1, h2, hr _ _ h h3⟩
theorem Low.iface {n : Nat} {t : TypeId} {v : Value} (h : Low n v) : Low n (.iface t v) := by
  intro ρ ρ' v' hr h'; simp only [VRel] at h' ⊢; obtain ⟨u, h1, h2⟩ := h'; exact ⟨u, h1, h _ _ _ hr h2⟩

/-- New memory that nobody has is dropped. -/
theorem ACall.drop {P : Program} {f : FuncId} {args : List Value} {H : Heap} {n : Nat} {v : Value} (hv : Low n v) (hc : ACall P f args H n (Gives v H n)) : ACall P f args H n (Ret v H n) := by
  intro hC ρ w args' hH hF ha
  refine Enters.mono ?_ (hc hC ρ w args' hH hF ha)
  rintro e' w' ⟨e, ρ', H', n', h1, ⟨rfl, h2⟩, h3, h4, h5, h6, h7⟩
  obtain ⟨v', rfl, h1⟩ := h1
  have hlow : ∀ i b, i < n → ρ' i = some b → ρ i = some b := fun i b hi hb => (h7.new i b hb).elim id (fun h => by omega)
  refine ⟨.returned v, ρ, H, n, ⟨v', rfl, hv _ _ _ hlow h1⟩, ⟨rfl, rfl, rfl⟩, ⟨hH.inj, ?_⟩, hF, hC, Nat.le_refl _, Ren.le_refl _, fun _ _ h => .inl h, h7.size, h7.frame, h7.tape, h7.os, h7.output⟩
  intro i b hb
  have hi := hF i b hb
  obtain ⟨o, o', g1, g2, g3⟩ := h3.obj i b (h7.le _ _ hb)
  obtain ⟨o0, o0', k1, k2, k3⟩ := hH.obj i b hb
  rw [h2 i hi, k1] at g1; cases g1
  exact ⟨_, o', k1, g2, ORel.restrict h7.le k3 g3⟩

theorem HRel.putOut {ρ : Ren} {H : Heap} {w : World} (h : HRel ρ H w) {D : Nat} (hD : ∀ i, ρ i ≠ some D) (o : Obj) : HRel ρ H (w.putObj D o) := by
  refine ⟨h.inj, fun i b hi => ?_⟩
  obtain ⟨x, x', h1, h2, h3⟩ := h.obj i b hi
  exact ⟨x, x', h1, by rw [World.putObj_heap_other (by rintro rfl; exact hD i hi)]; exact h2, h3⟩
theorem Ext.putOut {n0 : Nat} {ρ0 ρ : Ren} {w0 w : World} (h : Ext n0 ρ0 w0 ρ w) {D : Nat} (hD : w0.heap.size ≤ D) (o : Obj) : Ext n0 ρ0 w0 ρ (w.putObj D o) :=
  ⟨h.le, h.new, by simpa using h.size, fun b hb hi => by rw [World.putObj_heap_other (by omega)]; exact h.frame b hb hi, h.tape, h.os, h.output⟩
/-- The marks of loops that are done are taken. -/
theorem unwind_marks {P : Program} {ρ ρ0 : Ren} {H : Heap} {n0 : Nat} {w0 : World} {cs : List Frame} : ∀ (ds : List Deferred) (w : World) (fr : Frame), fr.mode ≠ .run → fr.defers = ds → DefOK w0 ρ w ds → HRel ρ H w → Ext n0 ρ0 w0 ρ w →
    ∃ w2, Steps P (lone fr cs w) (lone { fr with defers := [] } cs w2) ∧ HRel ρ H w2 ∧ Ext n0 ρ0 w0 ρ w2
  | [], w, fr, hm, hd, _, hH, hE => ⟨w, by rw [← hd]; exact Steps.refl _ _, hH, hE⟩
  | d :: ds, w, fr, hm, hd, ⟨⟨D, h1, h2, h3, h4, h5⟩, h6⟩, hH, hE => by
    subst h1
    have hstep := step_collected (P := P) (cs := cs) (w := w) hm hd rfl (run_takeDeferred h3)
    have hds : ∀ (l : List Deferred), (∀ d', d' ∈ l → d' ≠ ({ target := .collected D, args := #[] } : Deferred)) → DefOK w0 ρ w l → DefOK w0 ρ (w.putObj D (.deferred none)) l := by
      intro l
      induction l with
      | nil => intro _ _; trivial
      | cons x l ih =>
        rintro hne ⟨⟨D', k1, k2, k3, k4, k5⟩, k6⟩
        refine ⟨⟨D', k1, k2, ?_, k4, k5⟩, ih (fun d' hd' => hne d' (by simp [hd'])) k6⟩
        rw [World.putObj_heap_other]; exact k3
        rintro rfl; exact hne x (by simp) k1
    obtain ⟨w2, g1, g2, g3⟩ := unwind_marks (P := P) (cs := cs) ds (w.putObj D (.deferred none)) { fr with defers := ds } hm rfl (hds ds h5 h6) (hH.putOut h4 _) (hE.putOut h2 _)
    exact ⟨w2, Steps.head hstep g1, g2, g3⟩

/-- The contract of a function that is in the text, by a walk. -/
theorem acall_of {P : Program} (hmix : P.follows .mixedOrders = true) {f : FuncId} {fn : Func} {c : AFun} {args : List Value} {H : Heap} {n : Nat} {Q : Post} (hf : P.funcs[f]? = some fn) (hc : cFun P fn = some c)
    (he : ∀ (args : Array Value) (w : World), (callFunc f args).run P w = .ok (.enter f args) w)
    (h : AGo P (.fn c.res) [.code c.body] (args ++ List.replicate (c.nt - args.length) junk) H n Q) : ACall P f args H n Q := by
  intro hC ρ w args' hH hF ha
  rw [he]
  simp only [Enters]
  intro cs
  unfold cFun at hc
  split at hc <;> first | (simp at hc; done) | skip
  rename_i code res hbody hres
  cases hc
  let b : Frame := { (default : Frame) with fn := f, kind := .normal, roundOf := none }
  have henter : Frame.enter P f args'.toArray .normal = b.atR { tmps := args'.toArray ++ Array.replicate (fn.ntmps - args'.toArray.size) Go.undef, defers := [] } [.code code] := by
    simp [Frame.enter, Frame.atR, hf, hbody, b]
  rw [henter]
  have hlen := ha.length
  let C : Ctx P (.fn res) Q b cs :=
    { G := fun m => ∃ e' w' fr, Ends n ρ w Q e' w' ∧ Comes P m (lone fr cs w') e' ∧ fr.fn = f ∧ fr.leaving P w' e'
      closed := fun m m1 hs ⟨e', w', fr, h1, h2, h3, h4⟩ => ⟨e', w', fr, h1, .of_steps (.one hs) h2, h3, h4⟩
      n0 := n, ρ0 := ρ, w0 := w, kind := rfl, isFn := fun _ _ => rfl, isRound := fun l h => (by cases h)
      leave := by
        intro ρ1 w1 a k' j tm H1 n1 v hH1 hF1 hC1 hn hE hD ht hv hR hok
        have fin : ∀ (td : List Item), resE tm H1 res = some v → ∃ e' w' fr, Ends n ρ w Q e' w' ∧ Comes P (lone { b.atR a td with mode := .returning } cs w1) (lone fr cs w') e' ∧ fr.fn = f ∧ fr.leaving P w' e' := by
          intro td hv
          obtain ⟨w2, g1, g2, g3⟩ := unwind_marks (P := P) (cs := cs) a.defers w1 { b.atR a td with mode := .returning } (by simp) rfl hD hH1 hE
          obtain ⟨v', h1, h2⟩ := run_results g2 ht hres hv
          exact ⟨.returned v', w2, _, ⟨.returned v, ρ1, H1, n1, ⟨v', rfl, h2⟩, hR, g2, hF1, hC1, hn, g3⟩, .of_steps g1 (Steps.refl _ _), rfl, rfl, rfl, rfl, fn, hf, h1⟩
        cases j with
        | off =>
          obtain ⟨e', w', fr, h1, h2, h3, h4⟩ := fin [] hv
          exact ⟨e', w', fr, h1, .of_steps (.one (stepR_end rfl)) h2, h3, h4⟩
        | ret =>
          obtain ⟨e', w', fr, h1, h2, h3, h4⟩ := fin (.code .ret :: k') hv
          exact ⟨e', w', fr, h1, .of_steps (.one (stepR_ret rfl)) h2, h3, h4⟩
        | out id => cases hv
      die := by
        intro ρ1 w1 a k' c c' H1 n1 hH1 hF1 hC1 hn hE hD hp hR
        obtain ⟨w2, g1, g2, g3⟩ := unwind_marks (P := P) (cs := cs) a.defers w1 { b.atR a k' with mode := .panicking c' } (by simp) rfl hD hH1 hE
        exact ⟨.panicked c', w2, _, ⟨.panicked c, ρ1, H1, n1, ⟨c', rfl, hp⟩, hR, g2, hF1, hC1, hn, g3⟩, .of_steps g1 (Steps.refl _ _), rfl, rfl, rfl, fn, hf⟩ }
  refine ((sound hmix h) b cs C []).1 ρ w _ [.code code] hH hF hC ?_ ⟨_, _, rfl, rfl, rfl⟩ rfl (Nat.le_refl _) (Ext.refl _ _ _) trivial
  simp only [Array.toList_append, Array.toList_replicate, List.size_toArray, hlen]
  exact ha.append (LRel.replicate (VRel.undef _ _) _)
theorem acall_ret {P : Program} (hmix : P.follows .mixedOrders = true) {f : FuncId} {fn : Func} {c : AFun} {args : List Value} {H : Heap} {n : Nat} {v : Value} (hv : Low n v) (hf : P.funcs[f]? = some fn) (hc : cFun P fn = some c)
    (he : ∀ (args : Array Value) (w : World), (callFunc f args).run P w = .ok (.enter f args) w)
    (h : AGo P (.fn c.res) [.code c.body] (args ++ List.replicate (c.nt - args.length) junk) H n (Gives v H n)) : ACall P f args H n (Ret v H n) := (acall_of hmix hf hc he h).drop hv
end Go.Ab

/- The abstract machine: code, frames, calls. No conditions. -/
import Derived.Test.YtcjchcommaahdaaGreatQ03
set_option maxRecDepth 20000
set_option maxHeartbeats 4000000
set_option linter.all false
namespace Go.Ab

inductive ACode where
  | skip
  | region (ops : List AOper) (draw : Bool)
  | seq (a b : ACode)
  | cond (c : Opd) (x y : ACode)
  | block (id : Nat) (b : ACode)
  | loop (b : ACode)
  | scope (b : ACode)
  | exit (id : Nat)
  | ret
  | rangeFunc (f : Opd) (params : List Nat) (assign body : ACode)
  | bad
  deriving Inhabited

def cGuard (ops : Array Oper) : Option (Nat × Bool) → Option (Option (Nat × Bool))
  | none => some none
  | some (j, b) => match (ops[j]?).bind (·.dst) with
    | some t => some (some (t, b))
    | none => none

def opdsP : List (Nat × Nat × Opd) → List Opd
  | [] => []
  | (_, _, x) :: r => x :: opdsP r

/-- The operands of an operation. -/
def opds : AOp → List Opd
  | .mv x | .box _ _ x | .load _ _ x | .eqNil _ _ x | .un _ x | .conv _ x | .mkIface _ x | .fieldAddr _ x | .field _ _ _ x | .extract x _ | .len _ x | .cap x | .nilCheck x | .toArr _ x
  | .strBytes _ _ x | .panic x | .tassert _ _ x => [x]
  | .pick c a b => [c, a, b]
  | .build _ ps | .mkSlice _ _ _ _ ps => opdsP ps
  | .store _ a x | .bin _ a x | .eqv _ _ a x | .eqS _ _ a x | .indexAddr _ _ a x | .index _ _ _ a x | .indexS a x | .makeSlice _ _ _ _ a x | .copy _ a x | .append _ _ _ _ a x => [a, x]
  | .mkFunc _ f c => f ++ c
  | .slice _ _ x lo hi mx => x :: (lo.toList ++ hi.toList ++ mx.toList)
  | .minmax _ xs => xs
  | .call f args | .defer f args => f :: args
  | .lookup _ _ _ m k => [m, k]
  | .mapUpdate _ m k v => [m, k, v]
  | .alloc .. | .recover | .makeMap _ | .bad => []

/-- Operations that may wait: they call nothing, write nothing that is there, ask nothing. -/
def lazyOp : AOp → Bool
  | .mv _ | .pick .. | .alloc .. | .box .. | .build .. | .mkSlice .. | .load .. | .bin .. | .eqv .. | .eqS .. | .eqNil .. | .un .. | .conv .. | .mkIface .. | .mkFunc .. | .fieldAddr .. | .field ..
  | .indexAddr .. | .index .. | .extract .. | .len .. | .cap .. | .slice .. | .makeSlice .. | .minmax .. | .nilCheck _ | .tassert .. | .toArr .. | .indexS .. => true
  | _ => false

def isT (t : Nat) : Opd → Bool
  | .t i => i == t
  | .v _ => false

def reads (o : AOper) (t : Nat) : Bool := (opds o.op).any (isT t) || (match o.guard with | some (g, _) => g == t | none => false)
def names (o : AOper) (t : Nat) : Bool := reads o t || o.dst == some t

/-- What comes ahead of an operation by the region's own edges: a mask. -/
def depsOf (ops : Array Oper) (j : Nat) : List Nat :=
  match ops[j]? with
  | some o => (o.after.toList.filter fun e => Region.binds .any e).map (·.on)
  | none => []

def befs (deps : Nat → List Nat) : Nat → List Nat
  | 0 => []
  | j + 1 => let ms := befs deps j; ms ++ [(deps j).foldl (fun s e => s ||| 2 ^ e ||| ms.getD e 0) 0]

def cOper0 (P : Program) (ops : Array Oper) (i : Nat) : AOper :=
  match ops[i]? with
  | none => { dst := none, op := .bad, guard := none }
  | some o => match cGuard ops o.guard, cop P i o.op with
    | some g, some p => { dst := o.dst, op := p, guard := g }
    | _, _ => { dst := o.dst, op := .bad, guard := none }

/-- May it wait? Nobody ahead of it names what it gives. -/
def mayWait (cs : List AOper) (ms : List Nat) (i : Nat) : Bool :=
  match cs[i]? with
  | none => false
  | some o => lazyOp o.op && match o.dst with
    | none => true
    | some t => !reads o t && cs.zipIdx.all fun (p, j) => j == i || !names p t || (ms.getD j 0).testBit i

def addrOf : AOp → Option Opd
  | .load _ _ a => some a
  | _ => none

/-- The addresses of loads that the edges do not order against operation 'i'. -/
def aparts (cs : List AOper) (ms : List Nat) (i : Nat) : List Opd :=
  cs.zipIdx.filterMap fun (p, j) => if j == i || (ms.getD j 0).testBit i || (ms.getD i 0).testBit j then none else addrOf p.op

def storeLike : AOp → Bool
  | .store .. | .append .. => true
  | _ => false
def apLike : AOp → Bool
  | .call .. => true
  | p => storeLike p
def syncOK : AOp → Bool
  | .store .. | .call .. | .append .. | .strBytes .. => true
  | p => lazyOp p

/-- The eager order: what may wait as soon as all that must be ahead of it is. -/
def eagerGo (n : Nat) (ms : List Nat) (wait : List Bool) : Nat → List Nat → Nat → List Nat
  | 0, acc, _ => acc.reverse
  | fuel + 1, acc, done =>
    match (List.range n).find? (fun i => !done.testBit i && wait.getD i false && (ms.getD i 0 &&& done == ms.getD i 0)) with
    | some i => eagerGo n ms wait fuel (i :: acc) (done ||| 2 ^ i)
    | none => match (List.range n).find? (fun i => !done.testBit i && (ms.getD i 0 &&& done == ms.getD i 0)) with
      | some i => eagerGo n ms wait fuel (i :: acc) (done ||| 2 ^ i)
      | none => acc.reverse

def eager (cs : List AOper) (ms : List Nat) : List Nat :=
  eagerGo cs.length ms ((List.range cs.length).map (mayWait cs ms)) cs.length [] 0

def pairsOK (f : Nat → Nat → Bool) : List Nat → Bool
  | [] => true
  | i :: l => l.all (f i) && pairsOK f l

/-- Where a region draws its order: is it so that the order 'ord' stands for all? -/
def drawOK (cs : List AOper) (deps : Nat → List Nat) (ms : List Nat) (ord : List Nat) : Bool :=
  let n := cs.length
  ord.length == n && (List.range n).all (fun i => ord.contains i && (deps i).all (fun e => decide (e < i))) &&
  (List.range n).all (fun i => match cs[i]? with | some o => syncOK o.op | none => false) &&
  ord.all (fun i => decide (i < n)) && pairsOK (fun i j => i != j && !(ms.getD i 0).testBit j && (mayWait cs ms i || (ms.getD j 0).testBit i)) ord &&
  (List.range n).all (fun y => mayWait cs ms y || match cs[y]? with
    | none => false
    | some o => (match o.dst with
        | none => true
        | some t => cs.zipIdx.all fun (p, j) => j == y || !names p t || (ms.getD j 0).testBit y || (ms.getD y 0).testBit j) &&
      (storeLike o.op || (match o.op with | .append .. => (aparts cs ms y).isEmpty | _ => true)))

def drawOps (cs : List AOper) (ms : List Nat) (ord : List Nat) : List AOper :=
  ord.map fun i => match cs[i]? with
    | some o => if apLike o.op then { o with ap := aparts cs ms i } else o
    | none => default

def cRegion (P : Program) (ops : Array Oper) : Option (List AOper) :=
  let cs := (List.range ops.size).map (cOper0 P ops)
  let ms := befs (depsOf ops) ops.size
  let ord := eager cs ms
  if drawOK cs (depsOf ops) ms ord then some (drawOps cs ms ord) else none

def cCode (P : Program) : Code → ACode
  | .skip | .label _ => .skip
  | .region _ ops draw => if draw then (match cRegion P ops with | some l => .region l true | none => .bad) else .region ((List.range ops.size).map (cOper0 P ops)) false
  | .seq a b => .seq (cCode P a) (cCode P b)
  | .cond c x y => match cOpd c with
    | some c => .cond c (cCode P x) (cCode P y)
    | none => .bad
  | .block id b => .block id (cCode P b)
  | .loop b => .loop (cCode P b)
  | .scope b => .scope (cCode P b)
  | .exit id => .exit id
  | .ret => .ret
  | .rangeFunc f ps a b => match cOpd f with
    | some f => .rangeFunc f ps.toList (cCode P a) (cCode P b)
    | none => .bad
  | _ => .bad

inductive ARes where
  | tmp (i : Nat)
  | cell (i : Nat) (agg : Bool) (n : Nat)
  deriving Inhabited

def cRes (P : Program) : ResultVar → Option ARes
  | .tmp t => some (.tmp t)
  | .cell a t => match aggB P t, szOf P t with
    | some g, some n => some (.cell a g n)
    | _, _ => none

def cRess (P : Program) : List ResultVar → Option (List ARes)
  | [] => some []
  | x :: l => match cRes P x, cRess P l with
    | some y, some m => some (y :: m)
    | _, _ => none

structure AFun where
  body : ACode
  nt : Nat
  res : List ARes

def cFun (P : Program) (fn : Func) : Option AFun :=
  match fn.body, cRess P fn.results.toList with
  | some c, some r => some { body := cCode P c, nt := fn.ntmps, res := r }
  | _, _ => none

def loadE (H : Heap) (agg : Bool) (n : Nat) : Value → Option Value
  | .pointer (some ⟨b, off, none⟩) => match H b with
    | some (.cells c _ _) =>
      if agg then (if off + n ≤ c.length then some (.agg ((c.drop off).take n).toArray) else none) else c[off]?
    | _ => none
  | _ => none

def ARes.ev (tm : List Value) (H : Heap) : ARes → Option Value
  | .tmp i => some (tm.getD i junk)
  | .cell i g n => loadE H g n (tm.getD i junk)

def resL (tm : List Value) (H : Heap) : List ARes → Option (List Value)
  | [] => some []
  | r :: l => match r.ev tm H, resL tm H l with
    | some v, some m => some (v :: m)
    | _, _ => none

def resE (tm : List Value) (H : Heap) (l : List ARes) : Option Value :=
  match resL tm H l with
  | some [v] => some v
  | some m => some (.tuple m.toArray)
  | none => none

inductive AItem where
  | code (c : ACode)
  | inBlock (id : Nat)
  | inLoop (b : ACode)
  | inScope (b : ACode)
  | mark
  | begin
  | inReg (n0 : Nat) (draw : Bool) (ops : List AOper)

def put (tm : List Value) (d : Option Nat) (v : Value) : List Value :=
  match d with
  | some d => tm.set d v
  | none => tm

def aexit (id : Nat) : List AItem → Option (List AItem)
  | .inBlock id' :: k => if id' == id then some k else aexit id k
  | _ :: k => aexit id k
  | [] => none

abbrev Post := Ending → Heap → Nat → Prop

def PRel (ρ : Ren) : List PanicEntry → List PanicEntry → Prop
  | [], m => m = []
  | x :: l, m => ∃ y r, m = y :: r ∧ VRel ρ x.v y.v ∧ y.recovered = x.recovered ∧ y.goexit = x.goexit ∧ PRel ρ l r

def EndRel (ρ : Ren) : Ending → Ending → Prop
  | .returned v, e' => ∃ v', e' = .returned v' ∧ VRel ρ v v'
  | .panicked c, e' => ∃ c', e' = .panicked c' ∧ PRel ρ c c'
  | .outgrown, _ => False

/-- No block has a name from 'n' on. -/
def Clean (H : Heap) (n : Nat) : Prop := ∀ i, n ≤ i → H i = none

def Ends (n : Nat) (ρ : Ren) (w : World) (Q : Post) (e' : Ending) (w' : World) : Prop :=
  ∃ e ρ' H' n', EndRel ρ' e e' ∧ Q e H' n' ∧ HRel ρ' H' w' ∧ Fresh ρ' n' ∧ Clean H' n' ∧ n ≤ n' ∧ Ext n ρ w ρ' w'

/-- A call that stands ready is made. -/
def Enters (P : Program) (R : Ending → World → Prop) : Result Next → Prop
  | .ok (.enter f args) w => Calls P f args w R
  | .ok (.value v) w => R (.returned v) w
  | _ => False

/-- The contract of a function over abstract memory. -/
def ACall (P : Program) (f : FuncId) (args : List Value) (H : Heap) (n : Nat) (Q : Post) : Prop :=
  Clean H n → ∀ ρ w args', HRel ρ H w → Fresh ρ n → LRel ρ args args' → Enters P (Ends n ρ w Q) ((callFunc f args'.toArray).run P w)

def gOK (tm : List Value) : Option (Nat × Bool) → Option Bool
  | none => some true
  | some (t, b) => match tm.getD t junk with
    | .bool c => some (c == b)
    | _ => none

def zeros (z : List Value) (n : Nat) : List Value := (List.replicate n z).flatten

/-- append in place: there is room. -/
def appIn (H : Heap) (esz : Nat) (s x : Value) : Option (Value × Eff) :=
  match s, x with
  | .slice (some ⟨b, o, none⟩) n c, .slice xa m xc =>
    if n + m ≤ c then match H b with
      | some (.cells cs e (0, 0)) => match srcCells H (m * esz) (.slice xa m xc) with
        | some l => if o + n * esz + l.length ≤ cs.length ∧ l.all Value.oneCell' = true then some (.slice (some ⟨b, o, none⟩) (n + m) c, some (b, .cells (splice cs (o + n * esz) l) e (0, 0))) else none
        | none => none
      | _ => none
    else none
  | .slice none n c, .slice xa m xc => if n + m ≤ c then match srcCells H (m * esz) (.slice xa m xc) with
      | some _ => some (.slice none (n + m) c, none)
      | none => none
    else none
  | _, _ => none

/-- append where there is no room: new memory with room for 'cap'. -/
def appNew (n0 k : Nat) (e : TypeId) (z : List Value) (H : Heap) (s x : Value) (cap : Nat) : Option (Value × Eff) :=
  match s, x with
  | .slice sa n c, .slice xa m xc =>
    match srcCells H (n * z.length) (.slice sa n c), srcCells H (m * z.length) (.slice xa m xc) with
    | some l1, some l2 => some (.slice (some ⟨n0 + k, 0, none⟩) (n + m) cap, some (n0 + k, .cells (l1 ++ l2 ++ zeros z (cap - (n + m))) e (0, 0)))
    | _, _ => none
  | _, _ => none

def appFits (bytes : Nat) (s x : Value) : Prop :=
  match s, x with
  | .slice _ n c, .slice _ m _ => c < n + m ∧ n + m < 2 ^ 62 ∧ Builtin.nextslicecap (n + m) c * bytes ≤ 2 ^ 48
  | _, _ => False

def sliceNeed (s x : Value) : Nat :=
  match s, x with
  | .slice _ n _, .slice _ m _ => n + m
  | _, _ => 0

def blkNe (b : Nat) : Value → Bool
  | .pointer (some a) => !(a.block == b)
  | _ => true
def apartOK (tm : List Value) (l : List Opd) : Eff → Bool
  | none => true
  | some (b, _) => l.all fun x => blkNe b (x.ev tm)

/-- What is dead may be forgotten. -/
def LeT : List Value → List Value → Prop
  | [], [] => True
  | x :: l, y :: m => (x = junk ∨ x = y) ∧ LeT l m
  | _, _ => False
def kill : List Nat → List Value → List Value
  | [], tm => tm
  | i :: l, tm => kill l (tm.set i junk)
theorem LeT.refl : ∀ l, LeT l l
  | [] => trivial
  | _ :: l => ⟨.inr rfl, LeT.refl l⟩
theorem LeT.trans : ∀ {a b c}, LeT a b → LeT b c → LeT a c
  | [], [], [], _, _ => trivial
  | x :: a, y :: b, z :: c, h, h' => ⟨by
      rcases h.1 with h1 | h1
      · exact .inl h1
      · rw [h1]; exact h'.1, LeT.trans h.2 h'.2⟩
theorem LeT.set : ∀ (l : List Value) (i : Nat), LeT (l.set i junk) l
  | [], _ => trivial
  | _ :: l, 0 => ⟨.inl rfl, LeT.refl l⟩
  | _ :: l, i + 1 => ⟨.inr rfl, LeT.set l i⟩
theorem LeT.kill : ∀ (is : List Nat) (l : List Value), LeT (kill is l) l
  | [], l => LeT.refl l
  | i :: is, l => LeT.trans (LeT.kill is _) (LeT.set l i)

/-- Marks at which the walk stands still are laid. -/
inductive Marks : List AItem → List AItem → Prop
  | refl (k) : Marks k k
  | cons {k k'} (x) : Marks k k' → Marks (x :: k) (x :: k')
  | mark {k k'} : Marks k k' → Marks k (.mark :: k')
theorem Marks.trans {b c : List AItem} (h' : Marks b c) : ∀ {a}, Marks a b → Marks a c := by
  induction h' with
  | refl k => intro a h; exact h
  | @cons k k' x h1 ih =>
    intro a h
    generalize e : x :: k = y at h
    induction h with
    | refl z => subst e; exact .cons x h1
    | cons z h2 _ => cases e; exact .cons _ (ih h2)
    | mark h2 _ => cases e; exact .mark (ih h2)
  | mark h1 ih => intro a h; exact .mark (ih h)

/-- How a round's frame is left. -/
inductive AJump where
  | off
  | ret
  | out (id : Nat)
def AJump.val : AJump → Value
  | .off => .bool true
  | .ret => .nilFunc
  | .out id => .int .u64 id
def AJump.code : AJump → Option Code
  | .off => none
  | .ret => some .ret
  | .out id => some (.exit id)
def AJump.acode : AJump → ACode
  | .off => .skip
  | .ret => .ret
  | .out id => .exit id

/-- A frame of a function (its results), or of a round (its loop). -/
inductive ALeave where
  | fn (res : List ARes)
  | round (l : Nat)
def leaveV (tm : List Value) (H : Heap) : ALeave → AJump → Option Value
  | .fn _, .out _ => none
  | .fn res, _ => resE tm H res
  | .round _, j => some j.val

/-- The contract of a call of yield. -/
def AYield (P : Program) (l : Nat) (args : List Value) (H : Heap) (n : Nat) (Q : Post) : Prop :=
  Clean H n → ∀ ρ w args' l', HRel ρ H w → Fresh ρ n → ρ l = some l' → LRel ρ args args' →
    ∃ fn tmps assign body, (Instr.yield l' args'.toArray).run P w = .ok (.round l' fn tmps assign body) w ∧
      ∀ (G : Machine → Prop) (c : Frame) (cs : List Frame), (∀ m m1, step P m = .next m1 → G m1 → G m) →
        (∀ v w', Ends n ρ w Q (.returned v) w' → G (lone (c.finish v) cs w')) →
        G (lone (Frame.round l' fn tmps assign body .normal) (c :: cs) w)

def AgreeB (n : Nat) (H H' : Heap) : Prop := ∀ i, i < n → H' i = H i

/-- The contract of an iterator: it hands 'vals' to yield, one by one. -/
def AIter (P : Program) (g : FuncId) (first cap : List Value) (l : Nat) (vals : Nat → List Value) (N : Nat) (J : Nat → Heap → Nat → Prop) (JX : AJump → Heap → Nat → Prop) (H : Heap) (n : Nat) : Prop :=
  (∀ i H n H' n', J i H n → AgreeB n H H' → n ≤ n' → J i H' n') → (∀ j H n H' n', JX j H n → AgreeB n H H' → n ≤ n' → JX j H' n') →
  (∀ i H' n', i < N → J i H' n' → AYield P l (vals i) H' n' (fun e H'' n'' => (e = .returned (.bool true) ∧ J (i + 1) H'' n'') ∨ (e = .returned (.bool false) ∧ ∃ j, JX j H'' n''))) →
  J 0 H n → ACall P g (first ++ [.func (.yield l) #[] #[]] ++ cap) H n (fun e H' n' => ∃ v, e = .returned v ∧ (J N H' n' ∨ ∃ j, JX j H' n'))

def LoopOK (r : Loop) : Prop := r.state = .ready ∧ r.pending = none
def setPs (tm : List Value) : List Nat → List Value → List Value
  | p :: ps, v :: vs => setPs (tm.set p v) ps vs
  | _, _ => tm
/-- At a round's end. -/
def RoundPost (l : Nat) (r : Loop) (tm : List Value) (J : Heap → Nat → Prop) (JX : AJump → Heap → Nat → Prop) : Post := fun e H n =>
  ∃ j : AJump, e = .returned j.val ∧ H l = some (.loop { r with state := .busy } tm) ∧
    match j with
    | .off => J (upd H l (.loop r tm)) n
    | j => JX j (upd H l (.loop { r with state := .done, pending := j.code } tm)) n

/-- A call in a region that draws leaves what others of its region read. -/
def CallKeeps (n0 n : Nat) (tm : List Value) (ap : List Opd) (H H' : Heap) : Prop :=
  (∀ i, n0 ≤ i → i < n → H' i = H i) ∧ ∀ x, x ∈ ap → ∀ b off, x.ev tm = .pointer (some ⟨b, off, none⟩) → b < n → H' b = H b

/-- The run of a frame from its todo list on. -/
inductive AGo (P : Program) : ALeave → List AItem → List Value → Heap → Nat → Post → Prop
  | skip {res k tm H n R} : AGo P res k tm H n R → AGo P res (.code .skip :: k) tm H n R
  | seq {res a b k tm H n R} : AGo P res (.code a :: .code b :: k) tm H n R → AGo P res (.code (.seq a b) :: k) tm H n R
  | cond {res c x y k tm H n R} (b : Bool) : c.ev tm = .bool b → AGo P res (.code (if b then x else y) :: k) tm H n R → AGo P res (.code (.cond c x y) :: k) tm H n R
  | block {res id b k tm H n R} : AGo P res (.code b :: .inBlock id :: k) tm H n R → AGo P res (.code (.block id b) :: k) tm H n R
  | inBlock {res id k tm H n R} : AGo P res k tm H n R → AGo P res (.inBlock id :: k) tm H n R
  | loop {res b k k' tm tm' H n R} : LeT tm' tm → Marks k k' → AGo P res (.code b :: .inLoop b :: k') tm' H n R → AGo P res (.code (.loop b) :: k) tm H n R
  | inLoop {res b k k' tm tm' H n R} : LeT tm' tm → Marks k k' → AGo P res (.code b :: .inLoop b :: k') tm' H n R → AGo P res (.inLoop b :: k) tm H n R
  | mark {res k tm tm' H n R} : LeT tm' tm → AGo P res k tm' H n R → AGo P res (.mark :: k) tm H n R
  | scope {res b k tm H n R} : AGo P res (.code b :: .inScope b :: k) tm H n R → AGo P res (.code (.scope b) :: k) tm H n R
  | inScope {res b k tm H n R} : AGo P res k tm H n R → AGo P res (.inScope b :: k) tm H n R
  | exit {res id k k' tm H n R} : aexit id k = some k' → AGo P res k' tm H n R → AGo P res (.code (.exit id) :: k) tm H n R
  | ret {res k tm H n R v} : leaveV tm H res .ret = some v → R (.returned v) H n → AGo P res (.code .ret :: k) tm H n R
  | nil {res tm H n R v} : leaveV tm H res .off = some v → R (.returned v) H n → AGo P res [] tm H n R
  | exitOut {res id k tm H n R v} : aexit id k = none → leaveV tm H res (.out id) = some v → R (.returned v) H n → AGo P res (.code (.exit id) :: k) tm H n R
  | begin {l r ts k tm H n R} : H l = some (.loop r ts) → r.state = .ready → AGo P (.round l) k tm (upd H l (.loop { r with state := .busy } ts)) n R → AGo P (.round l) (.begin :: k) tm H n R
  | rangeFunc {res f ps as bd k tm H n R g first cap N} (vals : Nat → List Value) (J : Loop → Nat → Heap → Nat → Prop) (JX : Loop → AJump → Heap → Nat → Prop) :
      f.ev tm = .func (.func g) first cap → (∀ args w, (callFunc g args).run P w = .ok (.enter g args) w) → (∀ i, (vals i).length = ps.length) →
      (∀ r i H' n', J r i H' n' → H' n = some (.loop r tm) ∧ n < n') →
      (∀ r j H' n', JX r j H' n' → H' n = some (.loop { r with state := .done, pending := j.code } tm) ∧ n < n' ∧ j ≠ .off) →
      (∀ r i H n H' n', J r i H n → AgreeB n H H' → n ≤ n' → J r i H' n') → (∀ r j H n H' n', JX r j H n → AgreeB n H H' → n ≤ n' → JX r j H' n') →
      (∀ r, LoopOK r → AIter P g first.toList cap.toList n vals N (J r) (JX r) (upd H n (.loop r tm)) (n + 1)) →
      (∀ r, LoopOK r → J r 0 (upd H n (.loop r tm)) (n + 1)) →
      (∀ r i H' n', LoopOK r → i < N → J r i H' n' → AGo P (.round n) [.code as, .begin, .code bd] (setPs tm ps (vals i)) H' n' (RoundPost n r tm (J r (i + 1)) (JX r))) →
      (∀ r o H' n', LoopOK r → J r N H' n' → AGo P (.fn res) k tm (upd H' n (.loop o tm)) n' R) →
      (∀ r j o H' n', LoopOK r → JX r j H' n' → AGo P (.fn res) (.code j.acode :: k) tm (upd H' n (.loop o tm)) n' R) →
      AGo P (.fn res) (.code (.rangeFunc f ps as bd) :: k) tm H n R
  | region {res ops draw k tm H n R} : AGo P res (.inReg n draw ops :: k) tm H (n + ops.length) R → AGo P res (.code (.region ops draw) :: k) tm H n R
  | regNil {res n0 d k tm H n R} : AGo P res k tm H n R → AGo P res (.inReg n0 d [] :: k) tm H n R
  | opSkip {res n0 d o ops k tm H n R} : gOK tm o.guard = some false → AGo P res (.inReg n0 d ops :: k) (put tm o.dst junk) H n R → AGo P res (.inReg n0 d (o :: ops) :: k) tm H n R
  | op {res n0 d o ops k tm H n R v eff} : gOK tm o.guard = some true → sim n0 tm H o.op = some (v, eff) → (d = true → apartOK tm o.ap eff = true) → AGo P res (.inReg n0 d ops :: k) (put tm o.dst v) (eff.app H) n R →
      AGo P res (.inReg n0 d (o :: ops) :: k) tm H n R
  | call {res n0 d o ops k tm H n R f args g first cap} (Q : Post) : gOK tm o.guard = some true → o.op = .call f args → f.ev tm = .func (.func g) first cap →
      ACall P g (first.toList ++ args.map (Opd.ev tm) ++ cap.toList) H n Q →
      (∀ v H' n', Q (.returned v) H' n' → n ≤ n' → d = true → CallKeeps n0 n tm o.ap H H') →
      (∀ v H' n', Q (.returned v) H' n' → n ≤ n' → AGo P res (.inReg n0 d ops :: k) (put tm o.dst v) H' n' R) →
      (∀ c H' n', Q (.panicked c) H' n' → n ≤ n' → d = false ∧ R (.panicked c) H' n') →
      AGo P res (.inReg n0 d (o :: ops) :: k) tm H n R
  | yield {res n0 d o ops k tm H n R f args l first cap} (Q : Post) : gOK tm o.guard = some true → o.op = .call f args → f.ev tm = .func (.yield l) first cap →
      AYield P l (first.toList ++ args.map (Opd.ev tm)) H n Q →
      (∀ v H' n', Q (.returned v) H' n' → n ≤ n' → d = true → CallKeeps n0 n tm o.ap H H') →
      (∀ v H' n', Q (.returned v) H' n' → n ≤ n' → AGo P res (.inReg n0 d ops :: k) (put tm o.dst v) H' n' R) →
      AGo P res (.inReg n0 d (o :: ops) :: k) tm H n R
  | appIn {res n0 d o ops k tm H n R i e z bytes s x v eff} : gOK tm o.guard = some true → o.op = .append i e z bytes s x → appIn H z.length (s.ev tm) (x.ev tm) = some (v, eff) → (d = true → apartOK tm o.ap eff = true) →
      AGo P res (.inReg n0 d ops :: k) (put tm o.dst v) (eff.app H) n R → AGo P res (.inReg n0 d (o :: ops) :: k) tm H n R
  | appNew {res n0 d o ops k tm H n R i e z bytes s x} : gOK tm o.guard = some true → o.op = .append i e z bytes s x → appFits bytes (s.ev tm) (x.ev tm) →
      (∀ cap, sliceNeed (s.ev tm) (x.ev tm) ≤ cap → cap < 2 ^ 63 → (appNew n0 i e z H (s.ev tm) (x.ev tm) cap).isSome = true) →
      (∀ cap v eff, sliceNeed (s.ev tm) (x.ev tm) ≤ cap → cap < 2 ^ 63 → appNew n0 i e z H (s.ev tm) (x.ev tm) cap = some (v, eff) → AGo P res (.inReg n0 d ops :: k) (put tm o.dst v) (eff.app H) n R) →
      AGo P res (.inReg n0 d (o :: ops) :: k) tm H n R
  | strBytes {res n0 d o ops k tm H n R i e x t} : gOK tm o.guard = some true → o.op = .strBytes i e x → x.ev tm = .string t → t.size < 2 ^ 62 →
      (∀ cap, t.size ≤ cap → cap < 2 ^ 63 → AGo P res (.inReg n0 d ops :: k) (put tm o.dst (.slice (some ⟨n0 + i, 0, none⟩) t.size cap))
        (upd H (n0 + i) (.cells (t.data.toList.map (fun b : UInt8 => Value.int .u8 b.toNat) ++ List.replicate (cap - t.size) (Value.int .u8 0)) e (cap, cap + 1))) n R) →
      AGo P res (.inReg n0 d (o :: ops) :: k) tm H n R
  | panic {res n0 o ops k tm H n R x} : gOK tm o.guard = some true → o.op = .panic x → (∃ t v, x.ev tm = .iface t v) → R (.panicked [{ v := x.ev tm, recovered := false }]) H n →
      AGo P res (.inReg n0 false (o :: ops) :: k) tm H n R

/-- A function of the program, compiled, and run from its first line. -/
theorem enters_of (P : Program) : True := trivial
end Go.Ab

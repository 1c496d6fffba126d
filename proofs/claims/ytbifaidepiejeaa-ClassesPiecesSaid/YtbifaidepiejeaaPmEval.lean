/-
  PM, part 2: the evaluator of regions and of code. Calls, loops and ranges over functions are left to an environment.
-/
import Derived.Still
import Derived.Test.YtbifaidepiejeaaPmDefs
set_option linter.unusedSectionVars false
namespace Go.PM
variable [Glob]

inductive Ex where
  | normal
  | exit (id : Nat)
  | ret

structure Env where
  T : TT
  N : Nat
  weak : Tm → Hp → Tm → Hp → Prop
  call : FuncId → List V → Hp → (V → Hp → Prop) → Prop
  yld : Nat → List V → Hp → (V → Hp → Prop) → Prop
  pcall : FuncId → List V → Hp → (Res → Prop) → Prop
  loop : Code → Tm → Hp → (Ex → Tm → Hp → Prop) → Prop
  range : Operand → List Tmp → Code → Code → Tm → Hp → (Ex → Tm → Hp → Prop) → Prop

def getsK (h : Hp) : List Nat → (List Blk → Prop) → Prop
  | [], k => k []
  | n :: ns, k => nthK h n fun b => getsK h ns fun bs => k (b :: bs)

def setsK : Hp → List Nat → List Blk → (Hp → Prop) → Prop
  | h, [], _, k => k h
  | h, n :: ns, bs, k => match bs with
    | [] => k h
    | b :: bs => setK h n b fun h' => setsK h' ns bs k

def resL : Nat → (List Blk → Prop) → Prop
  | 0, k => k []
  | n + 1, k => resL n fun l => k (.res :: l)

def appK : Hp → List Blk → (Hp → Prop) → Prop
  | [], ys, k => k ys
  | b :: h, ys, k => appK h ys fun h' => k (b :: h')

def padK (h : Hp) (n : Nat) (k : Hp → Prop) : Prop := resL n fun l => appK h l k

/-- Names for a region's new blocks: nothing is done where there are none. -/
def roomK (n : Nat) (h : Hp) (k : Nat → Hp → Prop) : Prop := match n with
  | 0 => k 0 h
  | n + 1 => lenOfK h fun nf => padK h (n + 1) fun h => k nf h
where lenOfK : Hp → (Nat → Prop) → Prop
  | [], k => k 0
  | _ :: h, k => lenOfK h fun n => k (n + 1)

/-! ### Values become data -/

def D.flat : D → Bool
  | .agg _ => false
  | _ => true

def lift1K (v : V) (h : Hp) (k : D → Hp → Prop) : Prop :=
  match v with
  | .d x => k x h
  | .sref n ver lo len full => nthK h n fun b => match b with
    | .row ver' sz _ xs => Chk (ver = ver' ∧ lo + len ≤ xs.length) (Nam ((xs.drop lo).take len) fun ys => setK h n (.row ver' sz true xs) fun h' => k (.sl sz full ys) h')
    | .vard xs => Chk (ver = 1 ∧ lo + len ≤ xs.length) (Nam ((xs.drop lo).take len) fun ys => setK h n (.row 1 1 true xs) fun h' => k (.sl 1 full ys) h')
    | _ => False
  | .fn f cap => match cap with
    | [] => k (.k (.func (.func f) #[] #[])) h
    | _ => False
  | _ => False

/-- The cells of an aggregate. -/
def liftsK : List V → Hp → (List D → Hp → Prop) → Prop
  | [], h, k => k [] h
  | v :: r, h, k => lift1K v h fun d h => chkB d.flat (liftsK r h fun ds h => k (d :: ds) h)

def liftK (v : V) (h : Hp) (k : D → Hp → Prop) : Prop :=
  match v with
  | .agg cs => liftsK cs h fun ds h => k (.agg ds) h
  | v => lift1K v h k

/-- Several values. -/
def liftAllK : List V → Hp → (List D → Hp → Prop) → Prop
  | [], h, k => k [] h
  | v :: r, h, k => liftK v h fun d h => liftAllK r h fun ds h => k (d :: ds) h

/-- Arguments that become data. -/
def liftArgsK : List V → Hp → (List V → Hp → Prop) → Prop
  | [], h, k => k [] h
  | v :: r, h, k => match v with
    | .sref _ _ _ _ _ => liftK v h fun d h => liftArgsK r h fun ds h => k (.d d :: ds) h
    | .agg _ => liftK v h fun d h => liftArgsK r h fun ds h => k (.d d :: ds) h
    | .fn f cap => match cap with
      | [] => liftArgsK r h fun ds h => k (.d (.k (.func (.func f) #[] #[])) :: ds) h
      | _ => liftArgsK r h fun ds h => k (v :: ds) h
    | v => liftArgsK r h fun ds h => k (v :: ds) h

/-- What an operation wants as data. -/
def liftOpK (op : Op) (vs : List V) (h : Hp) (k : List V → Hp → Prop) : Prop := match op with
  | .buildSlice _ _ _ => liftArgsK vs h k
  | .mapUpdate _ _ _ _ => match vs with
    | .map n :: _ => nthK h n fun b => match b with
      | .mapo _ _ _ _ _ => k vs h
      | _ => liftArgsK vs h k
    | _ => liftArgsK vs h k
  | .makeInterface _ _ => liftArgsK vs h k
  | .store _ _ _ => match vs with
    | .ptr n _ _ _ :: _ => nthK h n fun b => match b with
      | .row _ _ _ _ => liftArgsK vs h k
      | _ => k vs h
    | _ => k vs h
  | _ => k vs h

/-- Does a region hold the call of a function, or an operation that wants data? -/
def hasCall : List Oper → Bool
  | [] => false
  | o :: l => match o.op with
    | .call { callee := .value _, .. } => true
    | .buildSlice _ n _ => match n with
      | 0 => hasCall l
      | _ => true
    | .mapUpdate _ _ _ _ => true
    | .makeInterface _ _ => true
    | _ => hasCall l

/-- A state that says less may be taken here. -/
structure Prep (W : Tm → Hp → Tm → Hp → Prop) (ts : Tm) (h : Hp) (k : Tm → Hp → Prop) : Prop where
  wrap ::
  holds : ∃ ts' h', W ts h ts' h' ∧ k ts' h'

def nthO : List Oper → Nat → Option Oper
  | [], _ => none
  | o :: _, 0 => some o
  | _ :: l, n + 1 => nthO l n

def guardK (all : List Oper) (ts : Tm) (g : Option (Nat × Bool)) (yes no : Prop) : Prop :=
  match g with
  | none => yes
  | some (j, want) => match nthO all j with
    | none => False
    | some o => match o.dst with
      | none => False
      | some t => lookK ts t fun v => match v with
        | .d (.b x) => match want with
          | true => br x yes no
          | false => br x no yes
        | .tup l => match l with
          | [] => no
          | _ => False
        | _ => False

def isVCall (op : Op) : Bool := match op with
  | .call { callee := .value _, .. } => true
  | _ => false

/-- Does an operation take a name? In a region that draws, a call does too. -/
def opNewD (dr : Bool) (op : Op) : Bool := match opNew op with
  | true => true
  | false => match dr with
    | false => false
    | true => isVCall op

def newCount (dr : Bool) : List Oper → Nat
  | [] => 0
  | o :: l => match opNewD dr o.op with
    | true => newCount dr l + 1
    | false => newCount dr l

/-- A new name taken, or not. -/
def nfK (dr : Bool) (op : Op) (nf : Nat) (k : Nat → Prop) : Prop := match opNewD dr op with
  | true => k (nf + 1)
  | false => k nf

/-- The frame with a value in a temporary. -/
def putK (N : Nat) (ts : Tm) (d : Option Tmp) (v : V) (k : Tm → Prop) : Prop := match d with
  | none => k ts
  | some d => match Nat.ble (d + 1) N with
    | true => k ((d, v) :: ts)
    | false => False

/-- A call of a function or of yield: its arguments' values are 'vs'. -/
def calleeK (E : Env) (ts : Tm) (f : Operand) (vs : List V) (h : Hp) (k : V → Hp → Prop) : Prop :=
  evK ts f fun g => match g with
    | .fn g cap => appV vs cap fun args => E.call g args h k
    | .yld n => E.yld n vs h k
    | .d (.k v) => match v with
      | .func (.func g) a b => match a.toList, b.toList with
        | [], [] => E.call g vs h k
        | _, _ => False
      | _ => False
    | _ => False
where appV : List V → List V → (List V → Prop) → Prop
  | [], ys, k => k ys
  | x :: xs, ys, k => appV xs ys fun l => k (x :: l)

/-- A name that is taken is a reserved one. -/
def resB (op : Op) (ns : List Nat) (nf : Nat) (bs : List Blk) : Bool := match opNew op, ns, bs with
  | true, m :: _, b :: _ => match Nat.beq m nf with
    | true => match b with
      | .res => true
      | _ => false
    | false => true
  | _, _, _ => true

/-- One operation, its names looked up and written back. -/
def stepK (E : Env) (op : Op) (vs : List V) (nf : Nat) (h : Hp) (k : V → Hp → Prop) : Prop :=
  getsK h (opN op vs nf) fun bs => chkB (resB op (opN op vs nf) nf bs) (aOp E.T op vs nf bs fun v bs' => setsK h (opN op vs nf) bs' fun h' => k v h')

/-- A slice held against nil: where it may be nil, both answers. -/
structure NilQ (p : Prop) (K : Bool → Prop) : Prop where
  wrap ::
  holds : (p → K true) ∧ K false

def nilCmp (op : Op) : Option (TypeId × Operand × Bool) := match op with
  | .binOp .eql t x (.const (.slice none 0 0)) _ => some (t, x, true)
  | .binOp .neq t x (.const (.slice none 0 0)) _ => some (t, x, false)
  | _ => none

def nilK (T : TT) (t : TypeId) (v : V) (e : Bool) (h : Hp) (k : Bool → Prop) : Prop := match tyOf T t with
  | some ti => match ti.kind with
    | .slice _ => match v with
      | .d (.sl _ _ xs) => NilQ (xs = []) fun r => k (r == e)
      | .sref n _ _ len _ => nthK h n fun b => match b with
        | .vard _ => NilQ (len = 0) fun r => k (r == e)
        | _ => False
      | _ => False
    | _ => False
  | none => False

/-- A range over a map begins: the map goes to the iterator. -/
def rangeK (T : TT) (t : TypeId) (v : V) (nf : Nat) (h : Hp) (k : V → Hp → Prop) : Prop := match v with
  | .map n => nthK h n fun b => match b with
    | .map T' kt es => match tyOf T t with
      | some ti => match ti.kind with
        | .map _ _ => nthK h nf fun r => match r with
          | .res => chkB (h.all fun b => !b.own) (setK h n .gone fun h1 => setK h1 nf (.miter T' kt es none) fun h2 => k (.ptr nf 0 0 0) h2)
          | _ => False
        | _ => False
      | none => False
    | _ => False
  | _ => False

/-- What comes next of what is left: nothing, or any one. -/
structure ANext (left : List (D × D)) (z : Prop) (k : D × D → List (D × D) → Prop) : Prop where
  wrap ::
  holds : (left = [] → z) ∧ ∀ (j : Nat) (p : D × D), left[j]? = some p → k p (left.eraseIdx j)

def nextK (v : V) (h : Hp) (k : V → Hp → Prop) : Prop := match v with
  | .ptr n ver e o => match ver, e, o with
    | 0, 0, 0 => nthK h n fun b => match b with
      | .miter T kt left _ => ANext left (k (.tup [.d (.b false)]) h) fun p rest => setK h n (.miter T kt rest (some p)) fun h' => k (.tup [.d (.b true), .d p.1, .d p.2]) h'
      | _ => False
    | _, _, _ => False
  | _ => False

def entryK (v : V) (h : Hp) (k : V → Hp → Prop) : Prop := match v with
  | .ptr n ver e o => match ver, e, o with
    | 0, 0, 0 => nthK h n fun b => match b with
      | .miter _ _ _ cur => match cur with
        | some p => k (.tup [.d p.1, .d p.2]) h
        | none => False
      | _ => False
    | _, _, _ => False
  | _ => False

/-- Operations one after the other. -/
def exOps (E : Env) (all l : List Oper) : Nat → Tm → Hp → (Tm → Hp → Prop) → Prop :=
  List.rec (motive := fun _ => Nat → Tm → Hp → (Tm → Hp → Prop) → Prop) (fun _ ts h k => k ts h)
    (fun o _ ih nf ts h k => nfK false o.op nf fun nf' => guardK all ts o.guard
      (match nilCmp o.op with
      | some (t, x, e) => evK ts x fun v => nilK E.T t v e h fun q => putK E.N ts o.dst (.d (.b q)) fun ts' => ih nf' ts' h k
      | none => evsK ts (opArgs o.op) fun vs => match o.op with
       | .call { callee := .value f, .. } => calleeK E ts f vs h fun v h' => putK E.N ts o.dst v fun ts' => ih nf' ts' h' k
       | .range t x => evK ts x fun v => rangeK E.T t v nf h fun v h' => putK E.N ts o.dst v fun ts' => ih nf' ts' h' k
       | .next x false => evK ts x fun v => nextK v h fun v h' => putK E.N ts o.dst v fun ts' => ih nf' ts' h' k
       | .entry x => evK ts x fun v => entryK v h fun v h' => putK E.N ts o.dst v fun ts' => ih nf' ts' h' k
       | op => liftOpK op vs h fun vs h => stepK E op vs nf h fun v h' => putK E.N ts o.dst v fun ts' => ih nf' ts' h' k)
      (putK E.N ts o.dst (.tup []) fun ts' => ih nf' ts' h k)) l

theorem exOps_cons (E : Env) (all : List Oper) (o : Oper) (r : List Oper) (nf : Nat) (ts : Tm) (h : Hp) (k : Tm → Hp → Prop) : exOps E all (o :: r) nf ts h k = nfK false o.op nf fun nf' => guardK all ts o.guard
      (match nilCmp o.op with
      | some (t, x, e) => evK ts x fun v => nilK E.T t v e h fun q => putK E.N ts o.dst (.d (.b q)) fun ts' => exOps E all r nf' ts' h k
      | none => evsK ts (opArgs o.op) fun vs => match o.op with
       | .call { callee := .value f, .. } => calleeK E ts f vs h fun v h' => putK E.N ts o.dst v fun ts' => exOps E all r nf' ts' h' k
       | .range t x => evK ts x fun v => rangeK E.T t v nf h fun v h' => putK E.N ts o.dst v fun ts' => exOps E all r nf' ts' h' k
       | .next x false => evK ts x fun v => nextK v h fun v h' => putK E.N ts o.dst v fun ts' => exOps E all r nf' ts' h' k
       | .entry x => evK ts x fun v => entryK v h fun v h' => putK E.N ts o.dst v fun ts' => exOps E all r nf' ts' h' k
       | op => liftOpK op vs h fun vs h => stepK E op vs nf h fun v h' => putK E.N ts o.dst v fun ts' => exOps E all r nf' ts' h' k)
      (putK E.N ts o.dst (.tup []) fun ts' => exOps E all r nf' ts' h k) := rfl

/-- What each operation of a drawn region looks at. -/
abbrev Fp := List (List Nat × Bool)

def noneIn (xs ys : List Nat) : Bool := xs.all fun x => ys.all fun y => !(Nat.beq x y)

def fpApart (a b : List Nat × Bool) : Bool := (a.2 && b.2) || noneIn a.1 b.1

/-- Does the operation wait for number i? -/
def waits (o : Oper) (i : Nat) : Bool := o.after.toList.any fun e => Region.binds .any e && Nat.beq e.on i

/-- It waits for earlier ones alone. -/
def backs (o : Oper) (i : Nat) : Bool := o.after.toList.all fun e => !Region.binds .any e || Nat.blt e.on i

/-- The operands that an operation looks at. -/
def opReads (op : Op) : List Operand := match op with
  | .call { callee := .value f, args := args, .. } => f :: args.toList
  | op => opArgs op

def tmpsOf : List Operand → List Nat
  | [] => []
  | .tmp t :: r => t :: tmpsOf r
  | _ :: r => tmpsOf r

def guardTmp (all : List Oper) (o : Oper) : List Nat := match o.guard with
  | none => []
  | some (j, _) => match nthO all j with
    | some g => match g.dst with
      | some t => [t]
      | none => []
    | none => []

def dstL (o : Oper) : List Nat := match o.dst with
  | some d => [d]
  | none => []

/-- Temporaries apart. -/
def tmpApart (all : List Oper) (a b : Oper) : Bool :=
  noneIn (dstL a) (tmpsOf (opReads b.op)) && noneIn (dstL a) (guardTmp all b) && noneIn (dstL b) (tmpsOf (opReads a.op)) && noneIn (dstL b) (guardTmp all a) && noneIn (dstL a) (dstL b)

/-- The same through others. -/
def waitsT (all : List Oper) : Nat → Oper → Nat → Bool
  | 0, o, i => waits o i
  | n + 1, o, i => waits o i || o.after.toList.any fun e => Region.binds .any e && match nthO all e.on with
    | some q => waitsT all n q i
    | none => false

def indepFrom (all : List Oper) (i : Nat) (o : Oper) (f : List Nat × Bool) : List Oper → Fp → Bool
  | p :: l, g :: fs => (waits p i || (fpApart f g && tmpApart all o p) || waitsT all 2 p i) && indepFrom all i o f l fs
  | _, _ => true

def indep (all : List Oper) : Nat → List Oper → Fp → Bool
  | i, o :: l, f :: fs => backs o i && indepFrom all i o f l fs && indep all (i + 1) l fs
  | _, _, _ => true

/-- A function's value: what is called, with its captured values behind the arguments. -/
def fnK (v : V) (vs : List V) (k : FuncId → List V → Prop) : Prop := match v with
  | .fn g cap => calleeK.appV vs cap fun args => k g args
  | .d (.k v) => match v with
    | .func (.func g) a b => match a.toList, b.toList with
      | [], [] => k g vs
      | _, _ => False
    | _ => False
  | _ => False

/-- An operation of a drawn region: a slice over a row that is stored in a row becomes data. -/
def drStoreK (E : Env) (op : Op) (vs : List V) (nf : Nat) (h : Hp) (k : List Nat → Bool → V → Hp → Prop) : Prop := match op, vs with
  | .store t a x, [.ptr pn pv pe po, .sref m ver lo len full] => nthK h pn fun tb => match tb with
    | .row _ _ _ _ => chkB (!(Nat.beq m pn)) (nthK h m fun b => match b with
      | .row ver' sz _ xs => Chk (ver = ver' ∧ lo + len ≤ xs.length) (Nam ((xs.drop lo).take len) fun ys => setK h m (.row ver' sz true xs) fun h1 =>
          stepK E (.store t a x) [.ptr pn pv pe po, .d (.sl sz full ys)] nf h1 fun v h' => k [m, pn] false v h')
      | _ => False)
    | _ => stepK E (.store t a x) [.ptr pn pv pe po, .sref m ver lo len full] nf h fun v h' => k (opN (.store t a x) [.ptr pn pv pe po, .sref m ver lo len full] nf) (opRO (.store t a x)) v h'
  | op, vs => stepK E op vs nf h fun v h' => k (opN op vs nf) (opRO op) v h'

/-- The operations of a region that draws its order, in the text's order. -/
def exDr (E : Env) (all l : List Oper) : Nat → Tm → Hp → (Fp → Tm → Hp → Prop) → Prop :=
  List.rec (motive := fun _ => Nat → Tm → Hp → (Fp → Tm → Hp → Prop) → Prop) (fun _ ts h k => k [] ts h)
    (fun o _ ih nf ts h k => nfK true o.op nf fun nf' => guardK all ts o.guard
      (evsK ts (opArgs o.op) fun vs => match o.op with
       | .call { callee := .value f, .. } => evK ts f fun g => fnK g vs fun g args => E.pcall g args h fun x => match x with
           | .d v => putK E.N ts o.dst v fun ts' => ih nf' ts' h fun fs => k (([], true) :: fs)
           | .row sz ys => nthK h nf fun b => match b with
             | .res => setK h nf (.row 0 sz false ys) fun h' => putK E.N ts o.dst (.sref nf 0 0 ys.length false) fun ts' => ih nf' ts' h' fun fs => k (([nf], false) :: fs)
             | _ => False
           | .fix m v => nthK h m fun b => match b with
             | .row ver sz _ xs => setK h m (.row ver sz true xs) fun h' => putK E.N ts o.dst v fun ts' => ih nf' ts' h' fun fs => k (([m], false) :: fs)
             | _ => False
           | .keep ns v => getsK h ns fun bs => setsK h ns bs fun h' => putK E.N ts o.dst v fun ts' => ih nf' ts' h' fun fs => k ((ns, true) :: fs)
       | op => drStoreK E op vs nf h fun ns st v h' => putK E.N ts o.dst v fun ts' => ih nf' ts' h' fun fs => k ((ns, st) :: fs))
      (putK E.N ts o.dst (.tup []) fun ts' => ih nf' ts' h fun fs => k (([], true) :: fs))) l

theorem exDr_cons (E : Env) (all : List Oper) (o : Oper) (r : List Oper) (nf : Nat) (ts : Tm) (h : Hp) (k : Fp → Tm → Hp → Prop) : exDr E all (o :: r) nf ts h k = nfK true o.op nf fun nf' => guardK all ts o.guard
      (evsK ts (opArgs o.op) fun vs => match o.op with
       | .call { callee := .value f, .. } => evK ts f fun g => fnK g vs fun g args => E.pcall g args h fun x => match x with
           | .d v => putK E.N ts o.dst v fun ts' => exDr E all r nf' ts' h fun fs => k (([], true) :: fs)
           | .row sz ys => nthK h nf fun b => match b with
             | .res => setK h nf (.row 0 sz false ys) fun h' => putK E.N ts o.dst (.sref nf 0 0 ys.length false) fun ts' => exDr E all r nf' ts' h' fun fs => k (([nf], false) :: fs)
             | _ => False
           | .fix m v => nthK h m fun b => match b with
             | .row ver sz _ xs => setK h m (.row ver sz true xs) fun h' => putK E.N ts o.dst v fun ts' => exDr E all r nf' ts' h' fun fs => k (([m], false) :: fs)
             | _ => False
           | .keep ns v => getsK h ns fun bs => setsK h ns bs fun h' => putK E.N ts o.dst v fun ts' => exDr E all r nf' ts' h' fun fs => k ((ns, true) :: fs)
       | op => drStoreK E op vs nf h fun ns st v h' => putK E.N ts o.dst v fun ts' => exDr E all r nf' ts' h' fun fs => k ((ns, st) :: fs))
      (putK E.N ts o.dst (.tup []) fun ts' => exDr E all r nf' ts' h fun fs => k (([], true) :: fs)) := rfl

/-- Behind the first of two pieces of code. -/
def seqK (b : Tm → Hp → (Ex → Tm → Hp → Prop) → Prop) (k : Ex → Tm → Hp → Prop) : Ex → Tm → Hp → Prop
  | .normal, ts, h => b ts h k
  | e, ts, h => k e ts h

/-- Behind a block. -/
def blockK (id : Nat) (k : Ex → Tm → Hp → Prop) : Ex → Tm → Hp → Prop
  | .exit j, ts, h => match Nat.beq j id with
    | true => k .normal ts h
    | false => k (.exit j) ts h
  | e, ts, h => k e ts h

def exRegion (E : Env) (ops : Array Oper) (d : Bool) (ts : Tm) (h : Hp) (k : Ex → Tm → Hp → Prop) : Prop := match d with
  | false => roomK (newCount false ops.toList) h fun nf h => exOps E ops.toList ops.toList nf ts h fun ts h => k .normal ts h
  | true => match hasCall ops.toList with
    | false => roomK (newCount true ops.toList) h fun nf h => exDr E ops.toList ops.toList nf ts h fun fs ts h => chkB (indep ops.toList 0 ops.toList fs) (k .normal ts h)
    | true => Prep E.weak ts h fun ts h => roomK (newCount true ops.toList) h fun nf h => exDr E ops.toList ops.toList nf ts h fun fs ts h => chkB (indep ops.toList 0 ops.toList fs) (k .normal ts h)

def exCond (ts : Tm) (c : Operand) (A B : Prop) : Prop := evK ts c fun v => match v with
  | .d (.b x) => br x A B
  | _ => False

def exCode (E : Env) (c : Code) : Tm → Hp → (Ex → Tm → Hp → Prop) → Prop :=
  Code.rec (motive := fun _ => Tm → Hp → (Ex → Tm → Hp → Prop) → Prop)
    (skip := fun ts h k => k .normal ts h)
    (region := fun _ ops d ts h k => exRegion E ops d ts h k)
    (seq := fun _ _ a b ts h k => a ts h (seqK b k))
    (cond := fun c _ _ a b ts h k => exCond ts c (a ts h k) (b ts h k))
    (block := fun id _ c ts h k => c ts h (blockK id k))
    (loop := fun c _ ts h k => E.loop c ts h k)
    (rangeFunc := fun g ps as body _ _ ts h k => E.range g ps.toList as body ts h k)
    (exit := fun id ts h k => k (.exit id) ts h)
    (scope := fun _ c ts h k => c ts h k)
    (label := fun _ ts h k => k .normal ts h)
    (goto := fun _ _ _ _ => False)
    (ret := fun ts h k => k .ret ts h)
    (refuse := fun _ _ _ _ => False) c

/-- What a function returns. -/
def resK (T : TT) (h : Hp) (ts : Tm) : List ResultVar → (List V → Prop) → Prop
  | [], k => k []
  | .tmp t :: r, k => lookK ts t fun v => resK T h ts r fun vs => k (v :: vs)
  | .cell a t :: r, k => lookK ts a fun a => getsK h (addrN a) fun bs => aLoad T t a bs fun v _ => resK T h ts r fun vs => k (v :: vs)

def retV : List V → V
  | [v] => v
  | vs => .tup vs

def retK (vs : List V) (k : V → Prop) : Prop := match vs with
  | [v] => k v
  | vs => k (.tup vs)

def paramsK : List V → Nat → Tm → (Tm → Prop) → Prop
  | [], _, ts, k => k ts
  | v :: vs, i, ts, k => paramsK vs (i + 1) ((i, v) :: ts) k

/-- A function's body from its arguments on. -/
def exFn (E : Env) (fn : Func) (args : List V) (h : Hp) (k : V → Hp → Prop) : Prop :=
  match fn.body with
  | none => False
  | some c => paramsK args 0 [] fun ts => exCode E c ts h fun e ts h => match e with
    | .exit _ => False
    | _ => resK E.T h ts fn.results.toList fun vs => retK vs fun v => k v h

end Go.PM

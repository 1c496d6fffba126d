/-
  PM, part 1: definitions. Abstract values, the abstract heap, and a Prop-valued evaluator of the operations, of regions and of code.
-/
import Derived.CallsIn
import Derived.RangeFuncLeaves
import Derived.Still
set_option linter.unusedSectionVars false
namespace Go.PM
inductive D where
  | b (x : Bool)
  | i (k : IntKind) (n : Int)
  | s (x : ByteArray)
  | k (v : Value)
  | agg (cs : List D)
  | sl (sz : Nat) (full : Bool) (xs : List D)
  | any (t : TypeId) (x : D)
def D.cells : D → List D
  | .agg cs => cs
  | x => [x]
inductive V where
  | u
  | d (x : D)
  | agg (cs : List V)
  | tup (cs : List V)
  | ptr (n ver e o : Nat)
  | rp (cs : List D) (o : Nat)
  | sref (n ver lo len : Nat) (full : Bool)
  | fn (f : FuncId) (cap : List V)
  | yld (n : Nat)
  | map (n : Nat)
abbrev Tm := List (Nat × V)
inductive LState where
  | ready | busy | done | exhausted
inductive TK where
  | bool
  | int (k : IntKind)
  | string
  | str (fs : List (Nat × TypeId))
  | arr (n : Nat) (e : TypeId)
  | slice (e : TypeId)
  | map (k e : TypeId)
  | other
structure TI where
  kind : TK
  size : Nat
  bytes : Nat
  zero : List D
abbrev TT := List (Nat × TI)
inductive Res where
  | d (v : V)
  | row (sz : Nat) (ys : List D)
  | map (T : TT) (kt : TypeId) (es : List (D × D))
  | fix (n : Nat) (v : V)
  | keep (ns : List Nat) (v : V)
inductive Blk where
  | res
  | gone
  | var (cs : List V)
  | vard (cs : List D)
  | row (ver sz : Nat) (ro : Bool) (xs : List D)
  | map (T : TT) (kt : TypeId) (es : List (D × D))
  | mapn (T : TT) (kt : TypeId)
  | mapo (T : TT) (kt : TypeId) (sz : Nat) (es : List (D × Option (List D))) (lent : Option (D × V × Option Nat))
  | miter (T : TT) (kt : TypeId) (left : List (D × D)) (cur : Option (D × D))
  | loop (st : LState) (pend : Option Code) (N : Nat) (ts : Tm) (params : List Tmp) (assign body : Code)
abbrev Hp := List Blk
def Blk.own : Blk → Bool
  | .mapo _ _ _ _ _ => true
  | .miter _ _ _ _ => true
  | _ => false
def brN : Nat → Prop → Prop → Prop
  | 0, _, B => B
  | n + 1, A, _ => brN n A A
def br (x : Bool) (A B : Prop) : Prop := brN x.toNat A B
def nthK {α : Type} : List α → Nat → (α → Prop) → Prop
  | [], _, _ => False
  | x :: _, 0, k => k x
  | _ :: xs, n + 1, k => nthK xs n k
def setK {α : Type} : List α → Nat → α → (List α → Prop) → Prop
  | [], _, _, _ => False
  | _ :: xs, 0, y, k => k (y :: xs)
  | x :: xs, n + 1, y, k => setK xs n y fun zs => k (x :: zs)
def chkB (b : Bool) (A : Prop) : Prop := brN b.toNat A False
structure Chk (A B : Prop) : Prop where
  wrap ::
  holds : A ∧ B
structure Nam {α : Type} (x : α) (K : α → Prop) : Prop where
  wrap ::
  holds : K x
structure Alt (A B : Prop) : Prop where
  wrap ::
  holds : A ∨ B
theorem Alt.l {A B : Prop} (h : A) : Alt A B := ⟨.inl h⟩
theorem Alt.r {A B : Prop} (h : B) : Alt A B := ⟨.inr h⟩
theorem Alt.elim {A B : Prop} (h : Alt A B) : A ∨ B := h.holds
structure Eith (A B : Prop) : Prop where
  wrap ::
  holds : A ∨ B
theorem Eith.l {A B : Prop} (h : A) : Eith A B := ⟨.inl h⟩
theorem Eith.r {A B : Prop} (h : B) : Eith A B := ⟨.inr h⟩
theorem Eith.elim {A B : Prop} (h : Eith A B) : A ∨ B := h.holds
structure Dec (p : Prop) [Decidable p] (K : Bool → Prop) : Prop where
  wrap ::
  holds : K (decide p)
structure Wr (k : IntKind) (n : Int) (K : Int → Prop) : Prop where
  wrap ::
  holds : K (k.wrap n)
theorem Dec.split {p : Prop} [Decidable p] {K : Bool → Prop} (a : p → K true) (b : ¬p → K false) : Dec p K := by
  refine ⟨?_⟩
  by_cases h : p
  · rw [decide_eq_true h]; exact a h
  · rw [decide_eq_false h]; exact b h
theorem Dec.t {p : Prop} [Decidable p] {K : Bool → Prop} (h : p) (a : K true) : Dec p K := Dec.split (fun _ => a) (fun hn => absurd h hn)
theorem Dec.f {p : Prop} [Decidable p] {K : Bool → Prop} (h : ¬p) (a : K false) : Dec p K := Dec.split (fun hp => absurd hp h) (fun _ => a)
theorem Dec.keep {p : Prop} [Decidable p] {K : Bool → Prop} (a : K (decide p)) : Dec p K := ⟨a⟩
theorem Dec.elim {p : Prop} [Decidable p] {K : Bool → Prop} (h : Dec p K) : K (decide p) := h.holds
theorem Wr.keep {k : IntKind} {n : Int} {K : Int → Prop} (a : K (k.wrap n)) : Wr k n K := ⟨a⟩
theorem Wr.elim {k : IntKind} {n : Int} {K : Int → Prop} (h : Wr k n K) : K (k.wrap n) := h.holds
theorem wrap_id {n : Int} (h : -9223372036854775808 ≤ n ∧ n < 9223372036854775808) : IntKind.i64.wrap n = n := by
  simp [IntKind.wrap, IntKind.bits, IntKind.signed]
  omega
theorem Wr.id {n : Int} {K : Int → Prop} (h : -9223372036854775808 ≤ n ∧ n < 9223372036854775808) (a : K n) : Wr .i64 n K := .keep (by rw [wrap_id h]; exact a)
theorem Chk.mk {A B : Prop} (a : A) (b : B) : Chk A B := ⟨a, b⟩
theorem Chk.elim {A B : Prop} (h : Chk A B) : A ∧ B := h.holds
theorem Nam.mk {α : Type} {x y : α} {K : α → Prop} (h : x = y) (k : K y) : Nam x K := ⟨by rw [h]; exact k⟩
theorem Nam.elim {α : Type} {x : α} {K : α → Prop} (h : Nam x K) : K x := h.holds
theorem brN_toNat (x : Bool) (A B : Prop) : brN x.toNat A B ↔ (x = true → A) ∧ (x = false → B) := by
  cases x <;> simp [brN]
theorem br_iff (x : Bool) (A B : Prop) : br x A B ↔ (x = true → A) ∧ (x = false → B) := brN_toNat x A B
theorem br_mk {x : Bool} {A B : Prop} (a : x = true → A) (b : x = false → B) : brN x.toNat A B := (brN_toNat x A B).2 ⟨a, b⟩
theorem br_t {x : Bool} {A B : Prop} (h : x = true) (a : A) : brN x.toNat A B := by subst h; simpa [brN] using a
theorem br_f {x : Bool} {A B : Prop} (h : x = false) (a : B) : brN x.toNat A B := by subst h; simpa [brN] using a
theorem chkB_iff (x : Bool) (A : Prop) : chkB x A ↔ x = true ∧ A := by cases x <;> simp [chkB, brN]
theorem chk_t {x : Bool} {A : Prop} (h : x = true) (a : A) : brN x.toNat A False := by subst h; simpa [brN] using a
theorem nthK_iff {α : Type} {k : α → Prop} : ∀ {xs : List α} {n : Nat}, nthK xs n k ↔ ∃ x, xs[n]? = some x ∧ k x
  | [], n => by simp [nthK]
  | x :: xs, 0 => by simp [nthK]
  | x :: xs, n + 1 => by simpa [nthK] using nthK_iff (xs := xs) (n := n)
theorem nthK_mk {α : Type} {k : α → Prop} {xs : List α} {n : Nat} {x : α} (h : xs[n]? = some x) (hk : k x) : nthK xs n k := nthK_iff.2 ⟨x, h, hk⟩
theorem setK_iff {α : Type} {y : α} : ∀ {xs : List α} {n : Nat} {k : List α → Prop}, setK xs n y k ↔ n < xs.length ∧ k (xs.set n y)
  | [], n, k => by simp [setK]
  | x :: xs, 0, k => by simp [setK]
  | x :: xs, n + 1, k => by
    simp only [setK, List.length_cons, List.set_cons_succ]
    rw [setK_iff]
    simp
theorem setK_mk {α : Type} {y : α} {xs : List α} {n : Nat} {k : List α → Prop} (h : n < xs.length) (hk : k (xs.set n y)) : setK xs n y k := setK_iff.2 ⟨h, hk⟩
def look : Tm → Nat → V
  | [], _ => .u
  | (k, v) :: r, t => match Nat.beq k t with
    | true => v
    | false => look r t
def tyOf : TT → Nat → Option TI
  | [], _ => none
  | (k, v) :: r, t => match Nat.beq k t with
    | true => some v
    | false => tyOf r t
def litD : Value → Option D
  | .bool x => some (.b x)
  | .int k n => some (.i k n)
  | .string x => some (.s x)
  | .slice none 0 0 => some (.sl 0 true [])
  | .agg _ => none
  | .tuple _ => none
  | v => some (.k v)
def litDs : List Value → Option (List D)
  | [] => some []
  | v :: vs => match litD v, litDs vs with
    | some x, some xs => some (x :: xs)
    | _, _ => none
def ofConst (v : Value) : V :=
  match v with
  | .agg cs => match litDs cs.toList with
    | some xs => .d (.agg xs)
    | none => .u
  | v => match litD v with
    | some x => .d x
    | none => .u
class Glob where
  cells : List (Nat × List D)
variable [Glob]
def globV : List (Nat × List D) → Nat → V
  | [], _ => .u
  | (j, cs) :: r, g => match Nat.beq j g with
    | true => .rp cs 0
    | false => globV r g
def globK : List (Nat × List D) → Nat → (V → Prop) → Prop
  | [], _, k => k .u
  | (j, cs) :: r, g, k => match Nat.beq j g with
    | true => k (.rp cs 0)
    | false => globK r g k
def ev (ts : Tm) : Operand → V
  | .tmp t => look ts t
  | .const v => ofConst v
  | .func f => .fn f []
  | .global g => globV Glob.cells g
def lookK : Tm → Nat → (V → Prop) → Prop
  | [], _, k => k .u
  | (j, v) :: r, t, k => match Nat.beq j t with
    | true => k v
    | false => lookK r t k
def constK (v : Value) (k : V → Prop) : Prop :=
  match v with
  | .bool x => k (.d (.b x))
  | .int kd n => k (.d (.i kd n))
  | .string x => k (.d (.s x))
  | .slice none 0 0 => k (.d (.sl 0 true []))
  | .agg cs => match litDs cs.toList with
    | some xs => k (.d (.agg xs))
    | none => k .u
  | v => k (ofConst v)
def evK (ts : Tm) (x : Operand) (k : V → Prop) : Prop :=
  match x with
  | .tmp t => lookK ts t k
  | .const v => constK v k
  | .func f => k (.fn f [])
  | .global g => globK Glob.cells g k
def evsK (ts : Tm) : List Operand → (List V → Prop) → Prop
  | [], k => k []
  | x :: r, k => evK ts x fun v => evsK ts r fun vs => k (v :: vs)
def allD : List V → (List D → Prop) → Prop → Prop
  | [], k, _ => k []
  | .d x :: r, k, no => allD r (fun l => k (x :: l)) no
  | _ :: _, _, no => no
def mkAgg (cs : List V) (k : V → Prop) : Prop := allD cs (fun l => k (.d (.agg l))) (k (.agg cs))
def cellsK (v : V) (k : List V → Prop) : Prop :=
  match v with
  | .d (.agg cs) => k (cs.map .d)
  | .d x => k [.d x]
  | .agg cs => k cs
  | .u => False
  | .tup _ => False
  | v => k [v]
def takeK {α : Type} : List α → Nat → (List α → Prop) → Prop
  | _, 0, k => k []
  | [], _ + 1, _ => False
  | x :: xs, n + 1, k => takeK xs n fun l => k (x :: l)
def dropK {α : Type} : List α → Nat → (List α → Prop) → Prop
  | xs, 0, k => k xs
  | [], _ + 1, _ => False
  | _ :: xs, n + 1, k => dropK xs n k
def layK {α : Type} : List α → Nat → List α → (List α → Prop) → Prop
  | xs, _, [], k => k xs
  | xs, o, y :: ys, k => setK xs o y fun zs => layK zs (o + 1) ys k
def isAggT (ti : TI) : Bool := match ti.kind with
  | .str _ => true
  | .arr _ _ => true
  | _ => false
def readD (ti : TI) (cs : List D) (o : Nat) (k : D → Prop) : Prop :=
  match isAggT ti with
  | true => match o with
    | 0 => match Nat.beq cs.length ti.size with
      | true => k (.agg cs)
      | false => takeK cs ti.size fun l => k (.agg l)
    | o => dropK cs o fun r => takeK r ti.size fun l => k (.agg l)
  | false => nthK cs o k
def readV (ti : TI) (cs : List V) (o : Nat) (k : V → Prop) : Prop :=
  match isAggT ti with
  | true => dropK cs o fun r => takeK r ti.size fun l => mkAgg l k
  | false => nthK cs o k
abbrev Kt := V → List Blk → Prop
def addrN (a : V) : List Nat := match a with
  | .ptr n _ _ _ => [n]
  | _ => []
def aLoad (T : TT) (t : TypeId) (a : V) (bs : List Blk) (K : Kt) : Prop :=
  match tyOf T t with
  | none => False
  | some ti => match a, bs with
    | .rp cs o, [] => readD ti cs o fun x => K (.d x) []
    | .ptr _ _ _ o, [.vard cs] => readD ti cs o fun x => K (.d x) [.vard cs]
    | .ptr _ _ _ o, [.var cs] => readV ti cs o fun x => K x [.var cs]
    | .ptr _ ver e o, [.row ver' sz ro xs] => Chk (ver = ver') (nthK xs e fun x => readD ti x.cells o fun y => K (.d y) [.row ver' sz ro xs])
    | _, _ => False
def writeD (cs : List D) (o : Nat) (x : D) (k : List D → Prop) : Prop :=
  match x with
  | .agg l => match o with
    | 0 => match Nat.beq cs.length l.length with
      | true => k l
      | false => layK cs 0 l k
    | o => layK cs o l k
  | x => setK cs o x k
def ofCells (x : D) (l : List D) : D := match x with
  | .agg _ => .agg l
  | _ => match l with
    | [y] => y
    | _ => .agg l
def aStore (T : TT) (t : TypeId) (a v : V) (bs : List Blk) (K : Kt) : Prop :=
  match tyOf T t with
  | none => False
  | some ti => chkB (Nat.blt 0 ti.size) (match a, bs with
    | .ptr _ _ _ o, [.vard cs] => match v with
      | .d x => chkB (Nat.beq x.cells.length ti.size) (writeD cs o x fun cs' => K .u [.vard cs'])
      | v => cellsK v fun l => chkB (Nat.beq l.length ti.size) (layK (cs.map .d) o l fun cs' => K .u [.var cs'])
    | .ptr _ _ _ o, [.var cs] => cellsK v fun l => chkB (Nat.beq l.length ti.size) (layK cs o l fun cs' => K .u [.var cs'])
    | .ptr _ ver e o, [.row ver' sz ro xs] => match v, ro with
      | .d x, false => chkB (Nat.beq x.cells.length ti.size) (Chk (ver = ver') (nthK xs e fun y => writeD y.cells o x fun cs' => setK xs e (ofCells y cs') fun xs' => K .u [.row ver' sz false xs']))
      | _, _ => False
    | _, _ => False)
def zeroV (T : TT) (t : TypeId) (k : TI → List D → Prop) : Prop :=
  match tyOf T t with
  | some ti => k ti ti.zero
  | none => False
def mkBox (v : V) (k : Blk → Prop) : Prop :=
  match v with
  | .d x => k (.vard x.cells)
  | v => cellsK v fun l => k (.var l)
def fieldOff (T : TT) (t : TypeId) (f : Nat) (k : Nat → TypeId → Prop) : Prop :=
  match tyOf T t with
  | some ti => match ti.kind with
    | .str fs => nthK fs f fun p => k p.1 p.2
    | _ => False
  | none => False
def aFieldAddr (T : TT) (t : TypeId) (a : V) (f : Nat) (K : V → Prop) : Prop :=
  fieldOff T t f fun off _ => match a with
    | .ptr n ver e o => K (.ptr n ver e (o + off))
    | .rp cs o => K (.rp cs (o + off))
    | _ => False
def aField (T : TT) (t : TypeId) (v : V) (f : Nat) (K : V → Prop) : Prop :=
  fieldOff T t f fun off ft => match tyOf T ft with
    | none => False
    | some ti => match v with
      | .d (.agg cs) => readD ti cs off fun x => K (.d x)
      | .agg cs => readV ti cs off K
      | _ => False
def idxN (a : V) : List Nat := match a with
  | .sref n _ _ _ _ => [n]
  | _ => []
def aIndexAddr (T : TT) (t : TypeId) (a ix : V) (bs : List Blk) (K : Kt) : Prop :=
  match tyOf T t, ix with
  | some ti, .d (.i _ n) => match ti.kind, a, bs with
    | .slice e, .d (.sl sz _ xs), [] => match tyOf T e with
      | some te => chkB (Nat.beq sz te.size) (Chk (0 ≤ n) (nthK xs n.toNat fun x => K (.rp x.cells 0) []))
      | none => False
    | .slice e, .sref m ver lo len _, [.row ver' sz ro xs] => match tyOf T e with
      | some te => chkB (Nat.beq sz te.size) (Chk (ver = ver' ∧ 0 ≤ n ∧ n < len) (K (.ptr m ver (lo + n.toNat) 0) [.row ver' sz ro xs]))
      | none => False
    | .slice e, .sref m _ lo len _, [.var cs] => match tyOf T e with
      | some te => chkB (Nat.beq te.size 1) (Chk (0 ≤ n ∧ n < len) (K (.ptr m 0 0 (lo + n.toNat)) [.var cs]))
      | none => False
    | .slice e, .sref m _ lo len _, [.vard cs] => match tyOf T e with
      | some te => chkB (Nat.beq te.size 1) (Chk (0 ≤ n ∧ n < len) (K (.ptr m 0 0 (lo + n.toNat)) [.vard cs]))
      | none => False
    | .arr len e, .ptr m ver el o, [] => match tyOf T e with
      | some te => Chk (0 ≤ n ∧ n < len) (K (.ptr m ver el (o + n.toNat * te.size)) [])
      | none => False
    | .arr len e, .rp cs o, [] => match tyOf T e with
      | some te => Chk (0 ≤ n ∧ n < len) (K (.rp cs (o + n.toNat * te.size)) [])
      | none => False
    | _, _, _ => False
  | _, _ => False
def lenN (a : V) : List Nat := match a with
  | .map n => [n]
  | _ => []
def aLen (a : V) (bs : List Blk) (K : Kt) : Prop :=
  match a, bs with
  | .d (.sl _ _ xs), [] => Nam xs.length fun n => K (.d (.i .i64 n)) []
  | .d (.s x), [] => K (.d (.i .i64 x.size)) []
  | .sref _ _ _ len _, [] => K (.d (.i .i64 len)) []
  | .map _, [.map T kt es] => Nam es.length fun n => K (.d (.i .i64 n)) [.map T kt es]
  | _, _ => False
def litOk1 (kd : TK) (xs : List D) : Bool :=
  match kd, xs with
  | .bool, [.b _] => true
  | .int k, [.i k' _] => decide (k = k')
  | .string, [.s _] => true
  | _, _ => false
def litOkFs (T : TT) (rec : TypeId → List D → Bool) (xs : List D) : Nat → List (Nat × TypeId) → Bool
  | off, [] => Nat.beq off xs.length
  | off, p :: r => match tyOf T p.2 with
    | some ti => Nat.beq p.1 off && Nat.ble (off + ti.size) xs.length && rec p.2 ((xs.drop p.1).take ti.size) && litOkFs T rec xs (off + ti.size) r
    | none => false
def litOk (T : TT) : Nat → TypeId → List D → Bool
  | 0, _, _ => false
  | n + 1, t, xs => match tyOf T t with
    | some ti => match ti.kind with
      | .str fs => litOkFs T (litOk T n) xs 0 fs
      | kd => litOk1 kd xs
    | none => false
def eq1 : List D → List D → Bool
  | [.b x], [.b y] => x == y
  | [.i _ x], [.i _ y] => x == y
  | [.s x], [.s y] => x.toList == y.toList
  | _, _ => false
def eqFs (T : TT) (rec : TypeId → List D → List D → Bool) (xs ys : List D) : List (Nat × TypeId) → Bool
  | [] => true
  | p :: r => match tyOf T p.2 with
    | some ti => rec p.2 ((xs.drop p.1).take ti.size) ((ys.drop p.1).take ti.size) && eqFs T rec xs ys r
    | none => false
def eqD (T : TT) : Nat → TypeId → List D → List D → Bool
  | 0, _, _, _ => false
  | n + 1, t, xs, ys => match tyOf T t with
    | some ti => match ti.kind with
      | .str fs => eqFs T (eqD T n) xs ys fs
      | _ => eq1 xs ys
    | none => false
def bitsOp (op : BinOp) (k : IntKind) (x y : Int) : Int :=
  match op with
  | .and => k.wrap (BitVec.ofInt k.bits x &&& BitVec.ofInt k.bits y).toNat
  | .or => k.wrap (BitVec.ofInt k.bits x ||| BitVec.ofInt k.bits y).toNat
  | .xor => k.wrap (BitVec.ofInt k.bits x ^^^ BitVec.ofInt k.bits y).toNat
  | _ => k.wrap (BitVec.ofInt k.bits x &&& ~~~(BitVec.ofInt k.bits y)).toNat
def shOp (op : BinOp) (kd : IntKind) (x y : Int) (K : D → Prop) : Prop :=
  match op with
  | .shl => Chk (0 ≤ y) (Wr kd (x * 2 ^ (min y.toNat kd.bits)) fun n => K (.i kd n))
  | .shr => Chk (0 ≤ y) (K (.i kd (x.fdiv (2 ^ (min y.toNat kd.bits)))))
  | _ => False
def isSh (op : BinOp) : Bool := match op with
  | .shl => true
  | .shr => true
  | _ => false
def intOp (op : BinOp) (kd : IntKind) (x y : Int) (K : D → Prop) : Prop :=
  match op with
  | .add => Wr kd (x + y) fun n => K (.i kd n)
  | .sub => Wr kd (x - y) fun n => K (.i kd n)
  | .mul => Wr kd (x * y) fun n => K (.i kd n)
  | .eql => Dec (x = y) fun r => K (.b r)
  | .neq => Dec (x = y) fun r => K (.b (!r))
  | .lss => Dec (x < y) fun r => K (.b r)
  | .leq => Dec (x ≤ y) fun r => K (.b r)
  | .gtr => Dec (y < x) fun r => K (.b r)
  | .geq => Dec (y ≤ x) fun r => K (.b r)
  | .quo => Chk (y ≠ 0) (Wr kd (x.tdiv y) fun n => K (.i kd n))
  | .rem => Chk (y ≠ 0) (K (.i kd (x.tmod y)))
  | .and => K (.i kd (bitsOp .and kd x y))
  | .or => K (.i kd (bitsOp .or kd x y))
  | .xor => K (.i kd (bitsOp .xor kd x y))
  | .andNot => K (.i kd (bitsOp .andNot kd x y))
  | _ => False
def strOp (op : BinOp) (x y : ByteArray) (K : D → Prop) : Prop :=
  match op with
  | .eql => Dec (x.toList = y.toList) fun r => K (.b r)
  | .neq => Dec (x.toList = y.toList) fun r => K (.b (!r))
  | .lss => K (.b (Op.bytesLess x.toList y.toList))
  | .leq => K (.b (Op.bytesLess x.toList y.toList || x.toList == y.toList))
  | .gtr => K (.b (!(Op.bytesLess x.toList y.toList || x.toList == y.toList)))
  | .geq => K (.b (!(Op.bytesLess x.toList y.toList)))
  | .add => Chk (x.size + y.size < 4611686018427387904) (Nam (x ++ y) fun z => K (.s z))
  | _ => False
def aggTy (T : TT) (t : TypeId) : Bool := match tyOf T t with
  | some ti => isAggT ti
  | none => false
def arr2 (T : TT) (t : TypeId) : Option IntKind := match tyOf T t with
  | some ti => match ti.kind with
    | .arr n e => match Nat.beq n 2, tyOf T e with
      | true, some te => match Nat.beq te.size 1, te.kind with
        | true, .int k => some k
        | _, _ => none
      | _, _ => none
    | _ => none
  | none => none
def aBin (T : TT) (op : BinOp) (t : TypeId) (a b : V) (K : V → Prop) : Prop :=
  match a, b with
  | .d (.i j x), .d (.i k y) => match isSh op with
    | true => shOp op j x y fun r => K (.d r)
    | false => chkB (decide (j = k)) (intOp op j x y fun r => K (.d r))
  | .d (.s x), .d (.s y) => strOp op x y fun r => K (.d r)
  | .d (.b x), .d (.b y) => chkB (litOk T 1 t [.b x] && !aggTy T t) (match op with
    | .eql => Dec (x = y) fun r => K (.d (.b r))
    | .neq => Dec (x = y) fun r => K (.d (.b (!r)))
    | _ => False)
  | .d (.agg xs), .d (.agg ys) => match arr2 T t with
    | some k => match xs, ys with
      | [.i a x, .i b y], [.i c z, .i d w] => chkB (decide (a = k) && decide (b = k) && (decide (c = k) && decide (d = k))) (match op with
        | .eql => Nam (x == z && y == w) fun r => K (.d (.b r))
        | .neq => Nam (x == z && y == w) fun r => K (.d (.b (!r)))
        | _ => False)
      | _, _ => False
    | none => chkB (aggTy T t && (litOk T 4 t xs && litOk T 4 t ys)) (match op with
      | .eql => Nam (eqD T 4 t xs ys) fun r => K (.d (.b r))
      | .neq => Nam (eqD T 4 t xs ys) fun r => K (.d (.b (!r)))
      | _ => False)
  | _, _ => False
def aUn (op : UnOp) (a : V) (K : V → Prop) : Prop :=
  match op, a with
  | .not, .d (.b x) => K (.d (.b (!x)))
  | .neg, .d (.i k n) => K (.d (.i k (k.wrap (0 - n))))
  | _, _ => False
def partsK (T : TT) (fs : List (Nat × TypeId)) : List Nat → List V → List V → (List V → Prop) → Prop
  | [], _, cs, k => k cs
  | f :: r, vs, cs, k => match vs with
    | [] => False
    | v :: vs => nthK fs f fun p => match tyOf T p.2 with
      | some ti => cellsK v fun l => chkB (Nat.beq l.length ti.size) (layK cs p.1 l fun cs' => partsK T fs r vs cs' k)
      | none => False
def ixs (parts : List (Nat × Operand)) : List Nat := parts.map (·.1)
def aBuild (T : TT) (t : TypeId) (is : List Nat) (vs : List V) (K : V → Prop) : Prop :=
  match tyOf T t with
  | some ti => match ti.kind with
    | .str fs => match is with
      | [] => K (.d (.agg ti.zero))
      | is => partsK T fs is vs (ti.zero.map .d) fun cs => mkAgg cs K
    | .arr n e => match tyOf T e with
      | some te => match Nat.beq te.size 1 with
        | true => match is with
          | [] => K (.d (.agg ti.zero))
          | is => partsK T ((List.range n).map fun i => (i, e)) is vs (ti.zero.map .d) fun cs => mkAgg cs K
        | false => False
      | none => False
    | _ => False
  | none => False
def bytesD (b : ByteArray) : List D := b.data.toList.map fun c => .i .u8 (c.toNat : Int)
def elemsK (v : V) (bs : List Blk) (k : Nat → List D → Prop) : Prop :=
  match v, bs with
  | .d (.sl sz _ xs), [] => k sz xs
  | .d (.s b), [] => k 1 (bytesD b)
  | .sref _ ver lo len _, [.row ver' sz _ xs] => match lo with
    | 0 => Chk (ver = ver' ∧ len ≤ xs.length) (Nam (xs.take len) fun ys => k sz ys)
    | lo => Chk (ver = ver' ∧ lo + len ≤ xs.length) (Nam ((xs.drop lo).take len) fun ys => k sz ys)
  | .sref _ _ lo len _, [.vard cs] => Chk (lo + len ≤ cs.length) (Nam ((cs.drop lo).take len) fun ys => k 1 ys)
  | _, _ => False
def srcN (x : V) : List Nat := match x with
  | .sref m _ _ _ _ => [m]
  | _ => []
def appendN (s x : V) (nf : Nat) : List Nat := match s with
  | .sref n _ _ _ false => n :: srcN x
  | .sref n _ _ _ true => nf :: n :: srcN x
  | _ => nf :: srcN x
def room : Nat := 1073741824
def dropL {α : Type} : List α → Nat → List α
  | xs, 0 => xs
  | xs, n + 1 => List.drop (n + 1) xs
def sliceTy (T : TT) (t : TypeId) : Bool := match tyOf T t with
  | some ti => match ti.kind with
    | .slice _ => true
    | _ => false
  | none => false
def aAppend (T : TT) (t : TypeId) (s x : V) (nf : Nat) (bs : List Blk) (K : Kt) : Prop :=
  match tyOf T t with
  | none => False
  | some ti => match ti.kind with
    | .slice e => match tyOf T e with
      | none => False
      | some te => chkB (Nat.ble te.bytes 65536 && Nat.blt 0 te.size) (match s, bs with
        | .d (.sl szx true xs), b0 :: bx => elemsK x bx fun sz ys =>
            chkB ((Nat.beq szx te.size || Nat.beq szx 0) && (Nat.beq sz te.size || Nat.beq sz 0)) (Eith (Chk ((xs = [] ∨ ys ≠ []) ∧ xs.length + ys.length ≤ room)
              (K (.sref nf 0 0 (xs.length + ys.length) false) (.row 0 te.size false (xs ++ ys) :: bx)))
              (Chk (ys = []) (K (.d (.sl szx true xs)) (b0 :: bx))))
        | .sref n ver lo len false, .row ver' sz' ro xs :: bx => match (srcN x).all fun m => !(Nat.beq m n) with
          | true => elemsK x bx fun sz ys =>
            chkB (Nat.beq sz' te.size && (Nat.beq sz te.size || Nat.beq sz 0)) (Chk (ver = ver' ∧ lo + len = xs.length ∧ len + ys.length ≤ room)
              (K (.sref n (ver + 1) 0 (len + ys.length) false) (.row (ver + 1) sz' ro (dropL xs lo ++ ys) :: bx)))
          | false => False
        | .sref _ ver lo len true, _ :: .row ver' sz' ro xs :: bx => elemsK x bx fun sz ys =>
            chkB (Nat.beq sz' te.size && Nat.beq sz te.size) (Chk (ver = ver' ∧ lo + len ≤ xs.length ∧ ys ≠ [] ∧ len + ys.length ≤ room)
              (K (.sref nf 0 0 (len + ys.length) false) (.row 0 te.size false ((dropL xs lo).take len ++ ys) :: .row ver' sz' ro xs :: bx)))
        | _, _ => False)
    | _ => False
def intTy (T : TT) (t : TypeId) : Bool := match tyOf T t with
  | some ti => match ti.kind with
    | .int _ => true
    | _ => false
  | none => false
def aAppendZ (T : TT) (t : TypeId) (s x : V) (nf : Nat) (bs : List Blk) (K : Kt) : Prop :=
  match tyOf T t with
  | none => False
  | some ti => match ti.kind with
    | .slice e => match tyOf T e with
      | none => False
      | some te => chkB (Nat.ble te.bytes 65536 && Nat.blt 0 te.size) (match s, x, bs with
        | .d (.sl _ true []), .d (.i .i64 n), [_] => Chk (0 < n ∧ n ≤ (room : Int)) (K (.sref nf 0 0 n.toNat false) [.row 0 te.size false []])
        | _, _, _ => False)
    | _ => False
def aCap (x : V) (K : V → Prop) : Prop := match x with
  | .d (.sl _ true xs) => Nam xs.length fun n => K (.d (.i .i64 n))
  | _ => False
def elemD (te : TI) (v : V) (k : D → Prop) : Prop :=
  match v with
  | .d x => chkB (Nat.beq x.cells.length te.size) (k x)
  | _ => False
def elemsOf (te : TI) : List Nat → List V → Nat → (List D → Prop) → Prop
  | [], _, _, k => k []
  | i :: r, vs, j, k => match vs with
    | [] => False
    | v :: vs => match Nat.beq i j with
      | true => elemD te v fun y => elemsOf te r vs (j + 1) fun ys => k (y :: ys)
      | false => False
def aBuildSlice (T : TT) (t : TypeId) (len : Nat) (is : List Nat) (vs : List V) (K : V → Prop) : Prop :=
  match tyOf T t with
  | none => False
  | some ti => match ti.kind with
    | .slice e => match tyOf T e with
      | none => False
      | some te => chkB (Nat.beq is.length len && Nat.blt 0 te.size && Nat.ble (len * te.size) 65536) (elemsOf te is vs 0 fun ys => K (.d (.sl te.size true ys)))
    | _ => False
def zeroElem (te : TI) : D := match isAggT te with
  | true => .agg te.zero
  | false => match te.zero with
    | [x] => x
    | l => .agg l
def aMakeRow (te : TI) (n c : Int) (nf : Nat) (K : Kt) : Prop :=
  Chk (0 ≤ n ∧ n ≤ c ∧ c ≤ (room : Int)) (K (.sref nf 0 0 n.toNat false) [.row 0 te.size false (List.replicate n.toNat (zeroElem te))])
def aMakeSlice (T : TT) (t : TypeId) (len cap : V) (nf : Nat) (K : Kt) : Prop :=
  match tyOf T t, len, cap with
  | some ti, .d (.i .i64 n), .d (.i .i64 c) => match ti.kind with
    | .slice e => match tyOf T e with
      | none => False
      | some te => chkB (Nat.ble te.bytes 65536 && Nat.blt 0 te.size && Nat.beq te.zero.length te.size && (isAggT te || Nat.beq te.size 1)) (match te.kind with
        | .slice _ => Alt (aMakeRow te n c nf K) (Chk (0 ≤ n ∧ n = c ∧ c ≤ (room : Int)) (chkB (Nat.beq te.size 1) (K (.sref nf 1 0 n.toNat true) [.vard (List.replicate n.toNat (zeroElem te))])))
        | _ => aMakeRow te n c nf K)
    | _ => False
  | _, _, _ => False
def optI (x : Bool) (vs : List V) (k : Option Int → List V → Prop) : Prop :=
  match x with
  | false => k none vs
  | true => match vs with
    | .d (.i _ n) :: r => k (some n) r
    | _ => False
def elemSize (T : TT) (t : TypeId) : Nat := match tyOf T t with
  | some ti => match ti.kind with
    | .slice e => match tyOf T e with
      | some te => te.size
      | none => 0
    | _ => 0
  | none => 0
def arrLen (T : TT) (t : TypeId) : Option Nat := match tyOf T t with
  | some ti => match ti.kind with
    | .arr n e => match tyOf T e with
      | some te => match Nat.beq te.size 1 with
        | true => some n
        | false => none
      | none => none
    | _ => none
  | none => none
def slN (a : V) : List Nat := match a with
  | .sref n _ _ _ _ => [n]
  | .ptr n _ _ _ => [n]
  | _ => []
def aSlice (T : TT) (t : TypeId) (x : V) (lo hi mx : Option Int) (bs : List Blk) (K : Kt) : Prop :=
  match x, bs with
  | .d (.sl sz full xs), [] => chkB (Nat.blt 0 (elemSize T t) && (Nat.beq sz (elemSize T t) || Nat.beq sz 0)) (match lo, hi, mx with
    | none, none, none => K (.d (.sl sz full xs)) []
    | none, some h, none => match full with
      | true => match xs with
        | [] => Chk (h = 0) (K (.d (.sl sz true [])) [])
        | xs => Chk (0 ≤ h ∧ h ≤ xs.length) (K (.d (.sl sz false (xs.take h.toNat))) [])
      | false => Chk (0 ≤ h ∧ h ≤ xs.length) (K (.d (.sl sz false (xs.take h.toNat))) [])
    | some l, none, none => Chk (0 ≤ l ∧ l ≤ xs.length) (K (.d (.sl sz full (xs.drop l.toNat))) [])
    | some l, some h, none => Chk (0 ≤ l ∧ l ≤ h ∧ h ≤ xs.length) (K (.d (.sl sz false ((xs.take h.toNat).drop l.toNat))) [])
    | none, some h, some m => Chk (0 ≤ h ∧ h = m ∧ h ≤ xs.length) (K (.d (.sl sz true (xs.take h.toNat))) [])
    | some l, some h, some m => Chk (0 ≤ l ∧ l ≤ h ∧ h = m ∧ h ≤ xs.length) (K (.d (.sl sz true ((xs.take h.toNat).drop l.toNat))) [])
    | _, none, some _ => False)
  | .d (.s b), [] => chkB (stringTy' T t) (match lo, hi, mx with
    | none, none, none => K (.d (.s b)) []
    | none, some h, none => Chk (0 ≤ h ∧ h ≤ b.size) (K (.d (.s (b.extract 0 h.toNat))) [])
    | some l, none, none => Chk (0 ≤ l ∧ l ≤ b.size) (K (.d (.s (b.extract l.toNat b.size))) [])
    | some l, some h, none => Chk (0 ≤ l ∧ l ≤ h ∧ h ≤ b.size) (K (.d (.s (b.extract l.toNat h.toNat))) [])
    | _, _, _ => False)
  | .sref n ver l0 len full, [.row ver' sz ro xs] => chkB (Nat.blt 0 (elemSize T t) && Nat.beq sz (elemSize T t)) (match lo, hi, mx with
    | none, none, none => K (.sref n ver l0 len full) [.row ver' sz ro xs]
    | none, some h, none => Chk (0 ≤ h ∧ h ≤ len) (K (.sref n ver l0 h.toNat false) [.row ver' sz ro xs])
    | some l, none, none => Chk (0 ≤ l ∧ l ≤ len) (K (.sref n ver (l0 + l.toNat) (len - l.toNat) full) [.row ver' sz ro xs])
    | some l, some h, none => Chk (0 ≤ l ∧ l ≤ h ∧ h ≤ len) (K (.sref n ver (l0 + l.toNat) (h.toNat - l.toNat) false) [.row ver' sz ro xs])
    | none, some h, some m => Chk (0 ≤ h ∧ h = m ∧ h ≤ len) (K (.sref n ver l0 h.toNat true) [.row ver' sz ro xs])
    | some l, some h, some m => Chk (0 ≤ l ∧ l ≤ h ∧ h = m ∧ h ≤ len) (K (.sref n ver (l0 + l.toNat) (h.toNat - l.toNat) true) [.row ver' sz ro xs])
    | _, none, some _ => False)
  | .ptr n _ _ o, [.vard cs] => match arrLen T t with
    | some N => match o, lo, hi, mx with
      | 0, none, none, none => Chk (N ≤ cs.length) (K (.sref n 1 0 N true) [.vard cs])
      | 0, none, some h, none => Chk (0 ≤ h ∧ h ≤ N ∧ N ≤ cs.length) (K (.sref n 1 0 h.toNat false) [.vard cs])
      | _, _, _, _ => False
    | none => False
  | .sref _ _ _ _ _, [.vard cs] => chkB (Nat.beq (elemSize T t) 1) (match lo, hi, mx with
    | none, some h, some m => Chk (h = 0 ∧ m = 0) (K (.d (.sl 1 true [])) [.vard cs])
    | _, _, _ => False)
  | _, _ => False
where stringTy' (T : TT) (t : TypeId) : Bool := match tyOf T t with
  | some ti => match ti.kind with
    | .string => true
    | _ => false
  | none => false
def keyOk (T : TT) (kt : TypeId) (k : D) : Bool := litOk T 4 kt k.cells && (match k with
  | .agg _ => aggTy T kt
  | _ => !aggTy T kt)
def mapFind (T : TT) (kt : TypeId) (k : D) : List (D × D) → Option D
  | [] => none
  | (k', x) :: r => if eqD T 4 kt k.cells k'.cells then some x else mapFind T kt k r
def mapPut (T : TT) (kt : TypeId) (k x : D) : List (D × D) → List (D × D)
  | [] => [(k, x)]
  | (k', y) :: r => if eqD T 4 kt k.cells k'.cells then (k, x) :: r else (k', y) :: mapPut T kt k x r
def aLookup (T : TT) (t : TypeId) (k : V) (ok : Bool) (bs : List Blk) (K : Kt) : Prop :=
  match tyOf T t, k, bs with
  | some ti, .d key, [.map T' kt' es] => match ti.kind with
    | .map kt et => match tyOf T et with
      | none => False
      | some te => chkB (keyOk T kt key && Nat.beq kt kt' && Nat.beq te.zero.length te.size && (isAggT te || Nat.beq te.size 1)) (Chk (T' = T) (match ok with
        | true => Nam ((mapFind T kt key es).getD (zeroElem te)) fun x => Nam (mapFind T kt key es).isSome fun y => K (.tup [.d x, .d (.b y)]) [.map T' kt' es]
        | false => Nam ((mapFind T kt key es).getD (zeroElem te)) fun x => K (.d x) [.map T' kt' es]))
    | _ => False
  | some ti, .d key, [.mapo T' kt' sz es lent] => match ti.kind with
    | .map kt et => match tyOf T et with
      | none => False
      | some te => match te.kind, te.zero with
        | .slice _, [.sl z0 true []] => match lent with
          | some (k', v, there) => chkB (keyOk T kt key && Nat.beq kt kt' && Nat.beq z0 0) (Chk (T' = T ∧ key = k') (match ok with
            | true => K (.tup [v, .d (.b there.isSome)]) [.mapo T' kt' sz es (some (k', v, there))]
            | false => K v [.mapo T' kt' sz es (some (k', v, there))]))
          | none => False
        | _, _ => False
    | _ => False
  | _, _, _ => False
def aMapUpdate (T : TT) (t : TypeId) (k x : V) (bs : List Blk) (K : Kt) : Prop :=
  match tyOf T t, k, x, bs with
  | some ti, .d key, .d val, [.map T' kt' es] => match ti.kind with
    | .map kt _ => chkB (keyOk T kt key && Nat.beq kt kt') (Chk (T' = T) (K .u [.map T' kt' (mapPut T kt key val es)]))
    | _ => False
  | some ti, .d key, .sref n ver lo len full, [.mapo T' kt' sz es lent] => match ti.kind with
    | .map kt _ => match lent with
      | some (k', v, there) => chkB (keyOk T kt key && Nat.beq kt kt') (Chk (T' = T ∧ key = k') (match there with
        | some j => K .u [.mapo T' kt' sz es (some (k', .sref n ver lo len full, some j))]
        | none => K .u [.mapo T' kt' sz (es ++ [(k', none)]) (some (k', .sref n ver lo len full, some es.length))]))
      | none => False
    | _ => False
  | _, _, _, _ => False
def aMapEntry (T : TT) (t : TypeId) (k : V) (bs : List Blk) (K : Kt) : Prop :=
  match tyOf T t, k, bs with
  | some ti, .d key, [.mapo T' kt' sz es lent] => match ti.kind with
    | .map kt et => match tyOf T et with
      | none => False
      | some te => match te.kind, te.zero with
        | .slice _, [.sl z0 true []] => match lent with
          | some (k', v, there) => chkB (keyOk T kt key && Nat.beq kt kt' && Nat.beq z0 0) (Chk (T' = T ∧ key = k') (match there with
            | some j => K (.tup [v, .d (.i .i64 j)]) [.mapo T' kt' sz es (some (k', v, some j))]
            | none => K (.tup [.d (.sl 0 true []), .d (.i .i64 es.length)]) [.mapo T' kt' sz (es ++ [(k', none)]) (some (k', .d (.sl 0 true []), some es.length))]))
          | none => False
        | _, _ => False
    | _ => False
  | _, _, _ => False
def aEntryStore (st x : V) (bs : List Blk) (K : Kt) : Prop :=
  match st, x, bs with
  | .d (.i .i64 i), .sref n ver lo len full, [.mapo T' kt' sz es (some (k', _, some j))] => Chk (i = (j : Int)) (K .u [.mapo T' kt' sz es (some (k', .sref n ver lo len full, some j))])
  | _, _, _ => False
def mapDel (T : TT) (kt : TypeId) (k : D) : List (D × D) → List (D × D)
  | [] => []
  | p :: r => if eqD T 4 kt k.cells p.1.cells then r else p :: mapDel T kt k r
def aDelete (T : TT) (t : TypeId) (k : V) (bs : List Blk) (K : Kt) : Prop :=
  match tyOf T t, k, bs with
  | some ti, .d key, [.map T' kt' es] => match ti.kind with
    | .map kt _ => chkB (keyOk T kt key && Nat.beq kt kt') (Chk (T' = T) (K (.tup []) [.map T' kt' (mapDel T kt key es)]))
    | _ => False
  | _, _, _ => False
def aCopy (T : TT) (t : TypeId) (dst src : V) (bs : List Blk) (K : Kt) : Prop :=
  match dst, src, bs with
  | .sref _ _ lo len _, .d (.sl sz _ ys), [.vard cs] => chkB (Nat.beq (elemSize T t) 1 && (Nat.beq sz 1 || Nat.beq sz 0)) (Chk (lo + len ≤ cs.length ∧ ys.length ≤ len)
    (Nam (cs.take lo ++ ys.flatMap D.cells ++ cs.drop (lo + ys.length)) fun cs' => K (.d (.i .i64 ys.length)) [.vard cs']))
  | .sref _ ver lo len _, .d (.sl sz _ ys), [.row ver' sz' ro xs] => match ro with
    | true => False
    | false => chkB (Nat.blt 0 (elemSize T t) && Nat.beq sz' (elemSize T t) && (Nat.beq sz sz' || Nat.beq sz 0)) (Chk (ver = ver' ∧ lo + len ≤ xs.length ∧ ys.length ≤ len)
      (Nam (xs.take lo ++ ys ++ xs.drop (lo + ys.length)) fun xs' => K (.d (.i .i64 ys.length)) [.row ver' sz' false xs']))
  | _, _, _ => False
def aNilCheck (v : V) (K : V → Prop) : Prop :=
  match v with
  | .ptr n ver e o => K (.ptr n ver e o)
  | .rp cs o => K (.rp cs o)
  | .fn f cap => K (.fn f cap)
  | .d (.k (.func (.func g) a b)) => K (.d (.k (.func (.func g) a b)))
  | _ => False
def aExtract (v : V) (i : Nat) (K : V → Prop) : Prop :=
  match v with
  | .tup cs => nthK cs i K
  | _ => False
def bytesL : List D → Option (List UInt8)
  | [] => some []
  | .i .u8 n :: r => match bytesL r with
    | some l => some (UInt8.ofNat n.toNat :: l)
    | none => none
  | _ => none
def byteSlice (T : TT) (t : TypeId) : Bool := match tyOf T t with
  | some ti => match ti.kind with
    | .slice e => match tyOf T e with
      | some te => match te.kind with
        | .int .u8 => true
        | _ => false
      | none => false
    | _ => false
  | none => false
def aConvert (T : TT) (src dst : TypeId) (v : V) (K : V → Prop) : Prop :=
  match tyOf T dst, v with
  | some ti, .d (.sl _ _ xs) => match ti.kind with
    | .string => chkB (byteSlice T src) (Nam (bytesL xs) fun o => match o with
      | some l => K (.d (.s ⟨l.toArray⟩))
      | none => False)
    | _ => False
  | some ti, .d (.i _ n) => match ti.kind with
    | .int k => Wr k n fun n => K (.d (.i k n))
    | _ => False
  | some ti, .d (.s x) => match ti.kind with
    | .string => K (.d (.s x))
    | _ => False
  | _, _ => False
def aMM (mx : Bool) (k : IntKind) : Int → List V → (V → Prop) → Prop
  | x, [], K => K (.d (.i k x))
  | x, .d (.i _ y) :: r, K => match mx with
    | true => aMM mx k (if y > x then y else x) r K
    | false => aMM mx k (if y < x then y else x) r K
  | _, _, _ => False
def aMinMax (mx : Bool) (l : List V) (K : V → Prop) : Prop :=
  match l with
  | .d (.i k x) :: r => aMM mx k x r K
  | _ => False
def aIndex (v ix : V) (K : V → Prop) : Prop :=
  match v, ix with
  | .d (.s b), .d (.i _ n) => Chk (0 ≤ n) (nthK b.data.toList n.toNat fun x => K (.d (.i .u8 x.toNat)))
  | _, _ => False
def knownTy (T : TT) (t : TypeId) : Bool := match tyOf T t with
  | some _ => true
  | none => false
def aIndexArr (T : TT) (t : TypeId) (v ix : V) (K : V → Prop) : Prop :=
  match tyOf T t, v, ix with
  | some ti, .d (.agg cs), .d (.i _ n) => match ti.kind with
    | .arr len e => match tyOf T e with
      | some te => chkB (!isAggT te && Nat.beq te.size 1) (Chk (0 ≤ n ∧ n < len) (nthK cs n.toNat fun x => K (.d x)))
      | none => False
    | _ => False
  | _, _, _ => False
def stringTy (T : TT) (t : TypeId) : Bool := match tyOf T t with
  | some ti => match ti.kind with
    | .string => true
    | _ => false
  | none => false
def lenTy (T : TT) (t : TypeId) (v : V) : Bool := match tyOf T t with
  | some ti => match ti.kind, v with
    | .slice _, .d (.sl _ _ _) => true
    | .slice _, .sref _ _ _ _ _ => true
    | .string, .d (.s _) => true
    | .map _ _, .map _ => true
    | _, _ => false
  | none => false
def concT (T : TT) (t : TypeId) : Bool := match tyOf T t with
  | some ti => match ti.kind with
    | .other => false
    | _ => true
  | none => false
def aIface (T : TT) (xt : TypeId) (v : V) (K : V → Prop) : Prop :=
  match v with
  | .d x => chkB (concT T xt) (K (.d (.any xt x)))
  | _ => False
def aAssert (T : TT) (want : TypeId) (ok : Bool) (v : V) (K : V → Prop) : Prop :=
  match ok, v with
  | true, .d (.any t x) => match tyOf T want with
    | some ti => chkB (concT T want) (match Nat.beq t want with
      | true => K (.tup [.d x, .d (.b true)])
      | false => chkB (isAggT ti || Nat.beq ti.size 1) (K (.tup [.d (zeroElem ti), .d (.b false)])))
    | none => False
  | _, _ => False
def opArgs : Op → List Operand
  | .move x => [x]
  | .assign x => [x]
  | .pick c a b => [c, a, b]
  | .alloc _ => []
  | .box _ x => [x]
  | .build _ parts => parts.toList.map (·.2)
  | .buildSlice _ _ parts => parts.toList.map (·.2)
  | .load _ a => [a]
  | .store _ a x => [a, x]
  | .binOp _ _ x y _ => [x, y]
  | .unOp _ _ x => [x]
  | .convert _ _ x => [x]
  | .makeFunc _ _ captured => captured.toList
  | .makeMap _ _ => []
  | .makeSlice _ l c => [l, c]
  | .slice _ x lo hi mx => x :: (lo.toList ++ (hi.toList ++ mx.toList))
  | .fieldAddr _ x _ => [x]
  | .field _ x _ => [x]
  | .indexAddr _ x i => [x, i]
  | .index _ x i => [x, i]
  | .lookup _ m k _ => [m, k]
  | .mapUpdate _ m k x => [m, k, x]
  | .mapEntry _ m k => [m, k]
  | .entryStore _ m st x => [m, st, x]
  | .extract x _ => [x]
  | .nilCheck x => [x]
  | .makeInterface _ x => [x]
  | .typeAssert x _ _ _ => [x]
  | .call c => c.args.toList
  | _ => []
def opN (op : Op) (vs : List V) (nf : Nat) : List Nat :=
  match op, vs with
  | .load _ _, [a] => addrN a
  | .store _ _ _, [a, _] => addrN a
  | .alloc _, _ => [nf]
  | .box _ _, _ => [nf]
  | .makeMap _ _, _ => [nf]
  | .makeSlice _ _ _, _ => [nf]
  | .indexAddr _ _ _, [x, _] => idxN x
  | .slice _ _ _ _ _, x :: _ => slN x
  | .lookup _ _ _ _, [m, _] => lenN m
  | .mapUpdate _ _ _ _, [m, _, _] => lenN m
  | .mapEntry _ _ _, [m, _] => lenN m
  | .entryStore _ _ _ _, [m, _, _] => lenN m
  | .call c, vs => match c.callee, vs with
    | .builtin .len, [x] => lenN x
    | .builtin .append, [s, x] => appendN s x nf
    | .builtin .delete, [m, _] => lenN m
    | .builtin .copy, [m, _] => idxN m
    | _, _ => []
  | _, _ => []
def opNew : Op → Bool
  | .alloc _ => true
  | .box _ _ => true
  | .makeMap _ _ => true
  | .makeSlice _ _ _ => true
  | .range _ _ => true
  | .call c => match c.callee with
    | .builtin .append => true
    | _ => false
  | _ => false
def opRO : Op → Bool
  | .store _ _ _ => false
  | .alloc _ => false
  | .box _ _ => false
  | .makeMap _ _ => false
  | .makeSlice _ _ _ => false
  | .mapUpdate _ _ _ _ => false
  | .mapEntry _ _ _ => false
  | .entryStore _ _ _ _ => false
  | .call c => match c.callee with
    | .builtin .append => false
    | .builtin .delete => false
    | .builtin .copy => false
    | _ => true
  | _ => true
def aOp (T : TT) (op : Op) (vs : List V) (nf : Nat) (bs : List Blk) (K : Kt) : Prop :=
  match op, vs with
  | .move _, [x] => K x bs
  | .assign _, [x] => K x bs
  | .pick _ _ _, [c, a, b] => match c with
    | .d (.b x) => br x (K a bs) (K b bs)
    | _ => False
  | .alloc t, _ => zeroV T t fun _ z => K (.ptr nf 0 0 0) [.vard z]
  | .box _ _, [x] => mkBox x fun b => K (.ptr nf 0 0 0) [b]
  | .build t parts, vs => aBuild T t (ixs parts.toList) vs fun v => K v bs
  | .buildSlice t len parts, vs => aBuildSlice T t len (ixs parts.toList) vs fun v => K v bs
  | .load t _, [a] => aLoad T t a bs K
  | .store t _ _, [a, x] => aStore T t a x bs K
  | .binOp op t _ _ _, [x, y] => aBin T op t x y fun v => K v bs
  | .unOp op _ _, [x] => aUn op x fun v => K v bs
  | .convert src dst _, [x] => chkB (knownTy T src) (aConvert T src dst x fun v => K v bs)
  | .makeFunc fn first _, vs => match fn, first.toList with
    | .func f, [] => K (.fn f vs) bs
    | _, _ => False
  | .makeMap t none, _ => match tyOf T t with
    | some ti => match ti.kind with
      | .map kt et => match tyOf T et with
        | some te => match te.kind with
          | .slice _ => K (.map nf) [.mapn T kt]
          | _ => K (.map nf) [.map T kt []]
        | none => K (.map nf) [.map T kt []]
      | _ => False
    | none => False
  | .makeSlice t _ _, [l, c] => aMakeSlice T t l c nf K
  | .slice t _ lo hi mx, x :: r => optI lo.isSome r fun l r => optI hi.isSome r fun h r => optI mx.isSome r fun m _ => aSlice T t x l h m bs K
  | .fieldAddr t _ f, [x] => aFieldAddr T t x f fun v => K v bs
  | .field t _ f, [x] => aField T t x f fun v => K v bs
  | .indexAddr t _ _, [x, i] => aIndexAddr T t x i bs K
  | .index t _ _, [x, i] => match stringTy T t with
    | true => aIndex x i fun v => K v bs
    | false => aIndexArr T t x i fun v => K v bs
  | .lookup t _ _ ok, [_, k] => aLookup T t k ok bs K
  | .mapUpdate t _ _ _, [_, k, x] => aMapUpdate T t k x bs K
  | .mapEntry t _ _, [_, k] => aMapEntry T t k bs K
  | .entryStore _ _ _ _, [_, st, x] => aEntryStore st x bs K
  | .extract _ i, [x] => aExtract x i fun v => K v bs
  | .nilCheck _, [x] => aNilCheck x fun v => K v bs
  | .makeInterface t _, [x] => aIface T t x fun v => K v bs
  | .typeAssert _ _ t ok, [x] => aAssert T t ok x fun v => K v bs
  | .call c, vs => match c.callee, vs, c.argTypes.toList with
    | .builtin .len, [x], [t] => chkB (lenTy T t x) (aLen x bs K)
    | .builtin .append, [s, x], [t, t2] => match sliceTy T t2 || stringTy T t2 with
      | true => aAppend T t s x nf bs K
      | false => chkB (intTy T t2) (aAppendZ T t s x nf bs K)
    | .builtin .cap, [x], [t] => chkB (sliceTy T t) (aCap x fun v => K v bs)
    | .builtin .max, xs, _ => aMinMax true xs fun v => K v bs
    | .builtin .min, xs, _ => aMinMax false xs fun v => K v bs
    | .builtin .delete, [_, k], t :: _ => aDelete T t k bs K
    | .builtin .copy, [d, s], [t, _] => aCopy T t d s bs K
    | _, _, _ => False
  | _, _ => False
end Go.PM
/-
  PM, part 2: the evaluator of regions and of code. Calls, loops and ranges over functions are left to an environment.
-/
set_option linter.unusedSectionVars false
namespace Go.PM
variable [Glob]
inductive Ex where
  | normal
  | exit (id : Nat)
  | ret
structure Env where
  T : TT
  N : Nat
  weak : Tm → Hp → Tm → Hp → Prop
  call : FuncId → List V → Hp → (V → Hp → Prop) → Prop
  yld : Nat → List V → Hp → (V → Hp → Prop) → Prop
  pcall : FuncId → List V → Hp → (Res → Prop) → Prop
  loop : Code → Tm → Hp → (Ex → Tm → Hp → Prop) → Prop
  range : Operand → List Tmp → Code → Code → Tm → Hp → (Ex → Tm → Hp → Prop) → Prop
def getsK (h : Hp) : List Nat → (List Blk → Prop) → Prop
  | [], k => k []
  | n :: ns, k => nthK h n fun b => getsK h ns fun bs => k (b :: bs)
def setsK : Hp → List Nat → List Blk → (Hp → Prop) → Prop
  | h, [], _, k => k h
  | h, n :: ns, bs, k => match bs with
    | [] => k h
    | b :: bs => setK h n b fun h' => setsK h' ns bs k
def resL : Nat → (List Blk → Prop) → Prop
  | 0, k => k []
  | n + 1, k => resL n fun l => k (.res :: l)
def appK : Hp → List Blk → (Hp → Prop) → Prop
  | [], ys, k => k ys
  | b :: h, ys, k => appK h ys fun h' => k (b :: h')
def padK (h : Hp) (n : Nat) (k : Hp → Prop) : Prop := resL n fun l => appK h l k
def roomK (n : Nat) (h : Hp) (k : Nat → Hp → Prop) : Prop := match n with
  | 0 => k 0 h
  | n + 1 => lenOfK h fun nf => padK h (n + 1) fun h => k nf h
where lenOfK : Hp → (Nat → Prop) → Prop
  | [], k => k 0
  | _ :: h, k => lenOfK h fun n => k (n + 1)
def D.flat : D → Bool
  | .agg _ => false
  | _ => true
def lift1K (v : V) (h : Hp) (k : D → Hp → Prop) : Prop :=
  match v with
  | .d x => k x h
  | .sref n ver lo len full => nthK h n fun b => match b with
    | .row ver' sz _ xs => Chk (ver = ver' ∧ lo + len ≤ xs.length) (Nam ((xs.drop lo).take len) fun ys => setK h n (.row ver' sz true xs) fun h' => k (.sl sz full ys) h')
    | .vard xs => Chk (ver = 1 ∧ lo + len ≤ xs.length) (Nam ((xs.drop lo).take len) fun ys => setK h n (.row 1 1 true xs) fun h' => k (.sl 1 full ys) h')
    | _ => False
  | .fn f cap => match cap with
    | [] => k (.k (.func (.func f) #[] #[])) h
    | _ => False
  | _ => False
def liftsK : List V → Hp → (List D → Hp → Prop) → Prop
  | [], h, k => k [] h
  | v :: r, h, k => lift1K v h fun d h => chkB d.flat (liftsK r h fun ds h => k (d :: ds) h)
def liftK (v : V) (h : Hp) (k : D → Hp → Prop) : Prop :=
  match v with
  | .agg cs => liftsK cs h fun ds h => k (.agg ds) h
  | v => lift1K v h k
def liftAllK : List V → Hp → (List D → Hp → Prop) → Prop
  | [], h, k => k [] h
  | v :: r, h, k => liftK v h fun d h => liftAllK r h fun ds h => k (d :: ds) h
def liftArgsK : List V → Hp → (List V → Hp → Prop) → Prop
  | [], h, k => k [] h
  | v :: r, h, k => match v with
    | .sref _ _ _ _ _ => liftK v h fun d h => liftArgsK r h fun ds h => k (.d d :: ds) h
    | .agg _ => liftK v h fun d h => liftArgsK r h fun ds h => k (.d d :: ds) h
    | .fn f cap => match cap with
      | [] => liftArgsK r h fun ds h => k (.d (.k (.func (.func f) #[] #[])) :: ds) h
      | _ => liftArgsK r h fun ds h => k (v :: ds) h
    | v => liftArgsK r h fun ds h => k (v :: ds) h
def liftOpK (op : Op) (vs : List V) (h : Hp) (k : List V → Hp → Prop) : Prop := match op with
  | .buildSlice _ _ _ => liftArgsK vs h k
  | .mapUpdate _ _ _ _ => match vs with
    | .map n :: _ => nthK h n fun b => match b with
      | .mapo _ _ _ _ _ => k vs h
      | _ => liftArgsK vs h k
    | _ => liftArgsK vs h k
  | .makeInterface _ _ => liftArgsK vs h k
  | .store _ _ _ => match vs with
    | .ptr n _ _ _ :: _ => nthK h n fun b => match b with
      | .row _ _ _ _ => liftArgsK vs h k
      | _ => k vs h
    | _ => k vs h
  | _ => k vs h
def hasCall : List Oper → Bool
  | [] => false
  | o :: l => match o.op with
    | .call { callee := .value _, .. } => true
    | .buildSlice _ n _ => match n with
      | 0 => hasCall l
      | _ => true
    | .mapUpdate _ _ _ _ => true
    | .makeInterface _ _ => true
    | _ => hasCall l
structure Prep (W : Tm → Hp → Tm → Hp → Prop) (ts : Tm) (h : Hp) (k : Tm → Hp → Prop) : Prop where
  wrap ::
  holds : ∃ ts' h', W ts h ts' h' ∧ k ts' h'
def nthO : List Oper → Nat → Option Oper
  | [], _ => none
  | o :: _, 0 => some o
  | _ :: l, n + 1 => nthO l n
def guardK (all : List Oper) (ts : Tm) (g : Option (Nat × Bool)) (yes no : Prop) : Prop :=
  match g with
  | none => yes
  | some (j, want) => match nthO all j with
    | none => False
    | some o => match o.dst with
      | none => False
      | some t => lookK ts t fun v => match v with
        | .d (.b x) => match want with
          | true => br x yes no
          | false => br x no yes
        | .tup l => match l with
          | [] => no
          | _ => False
        | _ => False
def isVCall (op : Op) : Bool := match op with
  | .call { callee := .value _, .. } => true
  | _ => false
def opNewD (dr : Bool) (op : Op) : Bool := match opNew op with
  | true => true
  | false => match dr with
    | false => false
    | true => isVCall op
def newCount (dr : Bool) : List Oper → Nat
  | [] => 0
  | o :: l => match opNewD dr o.op with
    | true => newCount dr l + 1
    | false => newCount dr l
def nfK (dr : Bool) (op : Op) (nf : Nat) (k : Nat → Prop) : Prop := match opNewD dr op with
  | true => k (nf + 1)
  | false => k nf
def putK (N : Nat) (ts : Tm) (d : Option Tmp) (v : V) (k : Tm → Prop) : Prop := match d with
  | none => k ts
  | some d => match Nat.ble (d + 1) N with
    | true => k ((d, v) :: ts)
    | false => False
def calleeK (E : Env) (ts : Tm) (f : Operand) (vs : List V) (h : Hp) (k : V → Hp → Prop) : Prop :=
  evK ts f fun g => match g with
    | .fn g cap => appV vs cap fun args => E.call g args h k
    | .yld n => E.yld n vs h k
    | .d (.k v) => match v with
      | .func (.func g) a b => match a.toList, b.toList with
        | [], [] => E.call g vs h k
        | _, _ => False
      | _ => False
    | _ => False
where appV : List V → List V → (List V → Prop) → Prop
  | [], ys, k => k ys
  | x :: xs, ys, k => appV xs ys fun l => k (x :: l)
def resB (op : Op) (ns : List Nat) (nf : Nat) (bs : List Blk) : Bool := match opNew op, ns, bs with
  | true, m :: _, b :: _ => match Nat.beq m nf with
    | true => match b with
      | .res => true
      | _ => false
    | false => true
  | _, _, _ => true
def stepK (E : Env) (op : Op) (vs : List V) (nf : Nat) (h : Hp) (k : V → Hp → Prop) : Prop :=
  getsK h (opN op vs nf) fun bs => chkB (resB op (opN op vs nf) nf bs) (aOp E.T op vs nf bs fun v bs' => setsK h (opN op vs nf) bs' fun h' => k v h')
structure NilQ (p : Prop) (K : Bool → Prop) : Prop where
  wrap ::
  holds : (p → K true) ∧ K false
def nilCmp (op : Op) : Option (TypeId × Operand × Bool) := match op with
  | .binOp .eql t x (.const (.slice none 0 0)) _ => some (t, x, true)
  | .binOp .neq t x (.const (.slice none 0 0)) _ => some (t, x, false)
  | _ => none
def nilK (T : TT) (t : TypeId) (v : V) (e : Bool) (h : Hp) (k : Bool → Prop) : Prop := match tyOf T t with
  | some ti => match ti.kind with
    | .slice _ => match v with
      | .d (.sl _ _ xs) => NilQ (xs = []) fun r => k (r == e)
      | .sref n _ _ len _ => nthK h n fun b => match b with
        | .vard _ => NilQ (len = 0) fun r => k (r == e)
        | _ => False
      | _ => False
    | _ => False
  | none => False
def rangeK (T : TT) (t : TypeId) (v : V) (nf : Nat) (h : Hp) (k : V → Hp → Prop) : Prop := match v with
  | .map n => nthK h n fun b => match b with
    | .map T' kt es => match tyOf T t with
      | some ti => match ti.kind with
        | .map _ _ => nthK h nf fun r => match r with
          | .res => chkB (h.all fun b => !b.own) (setK h n .gone fun h1 => setK h1 nf (.miter T' kt es none) fun h2 => k (.ptr nf 0 0 0) h2)
          | _ => False
        | _ => False
      | none => False
    | _ => False
  | _ => False
structure ANext (left : List (D × D)) (z : Prop) (k : D × D → List (D × D) → Prop) : Prop where
  wrap ::
  holds : (left = [] → z) ∧ ∀ (j : Nat) (p : D × D), left[j]? = some p → k p (left.eraseIdx j)
def nextK (v : V) (h : Hp) (k : V → Hp → Prop) : Prop := match v with
  | .ptr n ver e o => match ver, e, o with
    | 0, 0, 0 => nthK h n fun b => match b with
      | .miter T kt left _ => ANext left (k (.tup [.d (.b false)]) h) fun p rest => setK h n (.miter T kt rest (some p)) fun h' => k (.tup [.d (.b true), .d p.1, .d p.2]) h'
      | _ => False
    | _, _, _ => False
  | _ => False
def entryK (v : V) (h : Hp) (k : V → Hp → Prop) : Prop := match v with
  | .ptr n ver e o => match ver, e, o with
    | 0, 0, 0 => nthK h n fun b => match b with
      | .miter _ _ _ cur => match cur with
        | some p => k (.tup [.d p.1, .d p.2]) h
        | none => False
      | _ => False
    | _, _, _ => False
  | _ => False
def exOps (E : Env) (all l : List Oper) : Nat → Tm → Hp → (Tm → Hp → Prop) → Prop :=
  List.rec (motive := fun _ => Nat → Tm → Hp → (Tm → Hp → Prop) → Prop) (fun _ ts h k => k ts h)
    (fun o _ ih nf ts h k => nfK false o.op nf fun nf' => guardK all ts o.guard
      (match nilCmp o.op with
      | some (t, x, e) => evK ts x fun v => nilK E.T t v e h fun q => putK E.N ts o.dst (.d (.b q)) fun ts' => ih nf' ts' h k
      | none => evsK ts (opArgs o.op) fun vs => match o.op with
       | .call { callee := .value f, .. } => calleeK E ts f vs h fun v h' => putK E.N ts o.dst v fun ts' => ih nf' ts' h' k
       | .range t x => evK ts x fun v => rangeK E.T t v nf h fun v h' => putK E.N ts o.dst v fun ts' => ih nf' ts' h' k
       | .next x false => evK ts x fun v => nextK v h fun v h' => putK E.N ts o.dst v fun ts' => ih nf' ts' h' k
       | .entry x => evK ts x fun v => entryK v h fun v h' => putK E.N ts o.dst v fun ts' => ih nf' ts' h' k
       | op => liftOpK op vs h fun vs h => stepK E op vs nf h fun v h' => putK E.N ts o.dst v fun ts' => ih nf' ts' h' k)
      (putK E.N ts o.dst (.tup []) fun ts' => ih nf' ts' h k)) l
theorem exOps_cons (E : Env) (all : List Oper) (o : Oper) (r : List Oper) (nf : Nat) (ts : Tm) (h : Hp) (k : Tm → Hp → Prop) : exOps E all (o :: r) nf ts h k = nfK false o.op nf fun nf' => guardK all ts o.guard
      (match nilCmp o.op with
      | some (t, x, e) => evK ts x fun v => nilK E.T t v e h fun q => putK E.N ts o.dst (.d (.b q)) fun ts' => exOps E all r nf' ts' h k
      | none => evsK ts (opArgs o.op) fun vs => match o.op with
       | .call { callee := .value f, .. } => calleeK E ts f vs h fun v h' => putK E.N ts o.dst v fun ts' => exOps E all r nf' ts' h' k
       | .range t x => evK ts x fun v => rangeK E.T t v nf h fun v h' => putK E.N ts o.dst v fun ts' => exOps E all r nf' ts' h' k
       | .next x false => evK ts x fun v => nextK v h fun v h' => putK E.N ts o.dst v fun ts' => exOps E all r nf' ts' h' k
       | .entry x => evK ts x fun v => entryK v h fun v h' => putK E.N ts o.dst v fun ts' => exOps E all r nf' ts' h' k
       | op => liftOpK op vs h fun vs h => stepK E op vs nf h fun v h' => putK E.N ts o.dst v fun ts' => exOps E all r nf' ts' h' k)
      (putK E.N ts o.dst (.tup []) fun ts' => exOps E all r nf' ts' h k) := rfl
abbrev Fp := List (List Nat × Bool)
def noneIn (xs ys : List Nat) : Bool := xs.all fun x => ys.all fun y => !(Nat.beq x y)
def fpApart (a b : List Nat × Bool) : Bool := (a.2 && b.2) || noneIn a.1 b.1
def waits (o : Oper) (i : Nat) : Bool := o.after.toList.any fun e => Region.binds .any e && Nat.beq e.on i
def backs (o : Oper) (i : Nat) : Bool := o.after.toList.all fun e => !Region.binds .any e || Nat.blt e.on i
def opReads (op : Op) : List Operand := match op with
  | .call { callee := .value f, args := args, .. } => f :: args.toList
  | op => opArgs op
def tmpsOf : List Operand → List Nat
  | [] => []
  | .tmp t :: r => t :: tmpsOf r
  | _ :: r => tmpsOf r
def guardTmp (all : List Oper) (o : Oper) : List Nat := match o.guard with
  | none => []
  | some (j, _) => match nthO all j with
    | some g => match g.dst with
      | some t => [t]
      | none => []
    | none => []
def dstL (o : Oper) : List Nat := match o.dst with
  | some d => [d]
  | none => []
def tmpApart (all : List Oper) (a b : Oper) : Bool :=
  noneIn (dstL a) (tmpsOf (opReads b.op)) && noneIn (dstL a) (guardTmp all b) && noneIn (dstL b) (tmpsOf (opReads a.op)) && noneIn (dstL b) (guardTmp all a) && noneIn (dstL a) (dstL b)
def waitsT (all : List Oper) : Nat → Oper → Nat → Bool
  | 0, o, i => waits o i
  | n + 1, o, i => waits o i || o.after.toList.any fun e => Region.binds .any e && match nthO all e.on with
    | some q => waitsT all n q i
    | none => false
def indepFrom (all : List Oper) (i : Nat) (o : Oper) (f : List Nat × Bool) : List Oper → Fp → Bool
  | p :: l, g :: fs => (waits p i || (fpApart f g && tmpApart all o p) || waitsT all 2 p i) && indepFrom all i o f l fs
  | _, _ => true
def indep (all : List Oper) : Nat → List Oper → Fp → Bool
  | i, o :: l, f :: fs => backs o i && indepFrom all i o f l fs && indep all (i + 1) l fs
  | _, _, _ => true
def fnK (v : V) (vs : List V) (k : FuncId → List V → Prop) : Prop := match v with
  | .fn g cap => calleeK.appV vs cap fun args => k g args
  | .d (.k v) => match v with
    | .func (.func g) a b => match a.toList, b.toList with
      | [], [] => k g vs
      | _, _ => False
    | _ => False
  | _ => False
def drStoreK (E : Env) (op : Op) (vs : List V) (nf : Nat) (h : Hp) (k : List Nat → Bool → V → Hp → Prop) : Prop := match op, vs with
  | .store t a x, [.ptr pn pv pe po, .sref m ver lo len full] => nthK h pn fun tb => match tb with
    | .row _ _ _ _ => chkB (!(Nat.beq m pn)) (nthK h m fun b => match b with
      | .row ver' sz _ xs => Chk (ver = ver' ∧ lo + len ≤ xs.length) (Nam ((xs.drop lo).take len) fun ys => setK h m (.row ver' sz true xs) fun h1 =>
          stepK E (.store t a x) [.ptr pn pv pe po, .d (.sl sz full ys)] nf h1 fun v h' => k [m, pn] false v h')
      | _ => False)
    | _ => stepK E (.store t a x) [.ptr pn pv pe po, .sref m ver lo len full] nf h fun v h' => k (opN (.store t a x) [.ptr pn pv pe po, .sref m ver lo len full] nf) (opRO (.store t a x)) v h'
  | op, vs => stepK E op vs nf h fun v h' => k (opN op vs nf) (opRO op) v h'
def exDr (E : Env) (all l : List Oper) : Nat → Tm → Hp → (Fp → Tm → Hp → Prop) → Prop :=
  List.rec (motive := fun _ => Nat → Tm → Hp → (Fp → Tm → Hp → Prop) → Prop) (fun _ ts h k => k [] ts h)
    (fun o _ ih nf ts h k => nfK true o.op nf fun nf' => guardK all ts o.guard
      (evsK ts (opArgs o.op) fun vs => match o.op with
       | .call { callee := .value f, .. } => evK ts f fun g => fnK g vs fun g args => E.pcall g args h fun x => match x with
           | .d v => putK E.N ts o.dst v fun ts' => ih nf' ts' h fun fs => k (([], true) :: fs)
           | .row sz ys => nthK h nf fun b => match b with
             | .res => setK h nf (.row 0 sz false ys) fun h' => putK E.N ts o.dst (.sref nf 0 0 ys.length false) fun ts' => ih nf' ts' h' fun fs => k (([nf], false) :: fs)
             | _ => False
           | .map T' kt es => nthK h nf fun b => match b with
             | .res => setK h nf (.map T' kt es) fun h' => putK E.N ts o.dst (.map nf) fun ts' => ih nf' ts' h' fun fs => k (([nf], false) :: fs)
             | _ => False
           | .fix m v => nthK h m fun b => match b with
             | .row ver sz _ xs => setK h m (.row ver sz true xs) fun h' => putK E.N ts o.dst v fun ts' => ih nf' ts' h' fun fs => k (([m], false) :: fs)
             | _ => False
           | .keep ns v => getsK h ns fun bs => setsK h ns bs fun h' => putK E.N ts o.dst v fun ts' => ih nf' ts' h' fun fs => k ((ns, true) :: fs)
       | op => drStoreK E op vs nf h fun ns st v h' => putK E.N ts o.dst v fun ts' => ih nf' ts' h' fun fs => k ((ns, st) :: fs))
      (putK E.N ts o.dst (.tup []) fun ts' => ih nf' ts' h fun fs => k (([], true) :: fs))) l
theorem exDr_cons (E : Env) (all : List Oper) (o : Oper) (r : List Oper) (nf : Nat) (ts : Tm) (h : Hp) (k : Fp → Tm → Hp → Prop) : exDr E all (o :: r) nf ts h k = nfK true o.op nf fun nf' => guardK all ts o.guard
      (evsK ts (opArgs o.op) fun vs => match o.op with
       | .call { callee := .value f, .. } => evK ts f fun g => fnK g vs fun g args => E.pcall g args h fun x => match x with
           | .d v => putK E.N ts o.dst v fun ts' => exDr E all r nf' ts' h fun fs => k (([], true) :: fs)
           | .row sz ys => nthK h nf fun b => match b with
             | .res => setK h nf (.row 0 sz false ys) fun h' => putK E.N ts o.dst (.sref nf 0 0 ys.length false) fun ts' => exDr E all r nf' ts' h' fun fs => k (([nf], false) :: fs)
             | _ => False
           | .map T' kt es => nthK h nf fun b => match b with
             | .res => setK h nf (.map T' kt es) fun h' => putK E.N ts o.dst (.map nf) fun ts' => exDr E all r nf' ts' h' fun fs => k (([nf], false) :: fs)
             | _ => False
           | .fix m v => nthK h m fun b => match b with
             | .row ver sz _ xs => setK h m (.row ver sz true xs) fun h' => putK E.N ts o.dst v fun ts' => exDr E all r nf' ts' h' fun fs => k (([m], false) :: fs)
             | _ => False
           | .keep ns v => getsK h ns fun bs => setsK h ns bs fun h' => putK E.N ts o.dst v fun ts' => exDr E all r nf' ts' h' fun fs => k ((ns, true) :: fs)
       | op => drStoreK E op vs nf h fun ns st v h' => putK E.N ts o.dst v fun ts' => exDr E all r nf' ts' h' fun fs => k ((ns, st) :: fs))
      (putK E.N ts o.dst (.tup []) fun ts' => exDr E all r nf' ts' h fun fs => k (([], true) :: fs)) := rfl
def seqK (b : Tm → Hp → (Ex → Tm → Hp → Prop) → Prop) (k : Ex → Tm → Hp → Prop) : Ex → Tm → Hp → Prop
  | .normal, ts, h => b ts h k
  | e, ts, h => k e ts h
def blockK (id : Nat) (k : Ex → Tm → Hp → Prop) : Ex → Tm → Hp → Prop
  | .exit j, ts, h => match Nat.beq j id with
    | true => k .normal ts h
    | false => k (.exit j) ts h
  | e, ts, h => k e ts h
def exRegion (E : Env) (ops : Array Oper) (d : Bool) (ts : Tm) (h : Hp) (k : Ex → Tm → Hp → Prop) : Prop := match d with
  | false => roomK (newCount false ops.toList) h fun nf h => exOps E ops.toList ops.toList nf ts h fun ts h => k .normal ts h
  | true => match hasCall ops.toList with
    | false => roomK (newCount true ops.toList) h fun nf h => exDr E ops.toList ops.toList nf ts h fun fs ts h => chkB (indep ops.toList 0 ops.toList fs) (k .normal ts h)
    | true => Prep E.weak ts h fun ts h => roomK (newCount true ops.toList) h fun nf h => exDr E ops.toList ops.toList nf ts h fun fs ts h => chkB (indep ops.toList 0 ops.toList fs) (k .normal ts h)
def exCond (ts : Tm) (c : Operand) (A B : Prop) : Prop := evK ts c fun v => match v with
  | .d (.b x) => br x A B
  | _ => False
def exCode (E : Env) (c : Code) : Tm → Hp → (Ex → Tm → Hp → Prop) → Prop :=
  Code.rec (motive := fun _ => Tm → Hp → (Ex → Tm → Hp → Prop) → Prop)
    (skip := fun ts h k => k .normal ts h)
    (region := fun _ ops d ts h k => exRegion E ops d ts h k)
    (seq := fun _ _ a b ts h k => a ts h (seqK b k))
    (cond := fun c _ _ a b ts h k => exCond ts c (a ts h k) (b ts h k))
    (block := fun id _ c ts h k => c ts h (blockK id k))
    (loop := fun c _ ts h k => E.loop c ts h k)
    (rangeFunc := fun g ps as body _ _ ts h k => E.range g ps.toList as body ts h k)
    (exit := fun id ts h k => k (.exit id) ts h)
    (scope := fun _ c ts h k => c ts h k)
    (label := fun _ ts h k => k .normal ts h)
    (goto := fun _ _ _ _ => False)
    (ret := fun ts h k => k .ret ts h)
    (refuse := fun _ _ _ _ => False) c
def resK (T : TT) (h : Hp) (ts : Tm) : List ResultVar → (List V → Prop) → Prop
  | [], k => k []
  | .tmp t :: r, k => lookK ts t fun v => resK T h ts r fun vs => k (v :: vs)
  | .cell a t :: r, k => lookK ts a fun a => getsK h (addrN a) fun bs => aLoad T t a bs fun v _ => resK T h ts r fun vs => k (v :: vs)
def retV : List V → V
  | [v] => v
  | vs => .tup vs
def retK (vs : List V) (k : V → Prop) : Prop := match vs with
  | [v] => k v
  | vs => k (.tup vs)
def paramsK : List V → Nat → Tm → (Tm → Prop) → Prop
  | [], _, ts, k => k ts
  | v :: vs, i, ts, k => paramsK vs (i + 1) ((i, v) :: ts) k
def exFn (E : Env) (fn : Func) (args : List V) (h : Hp) (k : V → Hp → Prop) : Prop :=
  match fn.body with
  | none => False
  | some c => paramsK args 0 [] fun ts => exCode E c ts h fun e ts h => match e with
    | .exit _ => False
    | _ => resK E.T h ts fn.results.toList fun vs => retK vs fun v => k v h
end Go.PM

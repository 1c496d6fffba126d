/- TopTrace: part 1 of the proof: for every input the law returns true, and its arguments read behind the call as they read before; where the library's table is as its own text lays it. -/
import Derived.CallsIn
import Derived.RangeFuncLeaves
import Derived.Still
import Derived.Carry
import Derived.RowKit3
import Derived.Laws.CopyRow
import Derived.Laws.Rows
import Derived.Laws.Cells
import Derived.Laws.AppendOwn
import Derived.Deep.Draws
import Derived.Laws.StructEq
set_option maxRecDepth 10000
set_option maxHeartbeats 400000000
set_option linter.unusedSectionVars false
namespace Go.PM
abbrev C2:=@decide_eq_true
abbrev B6:=@decide_eq_false
abbrev M2:=@List.length_cons
abbrev H4:=@List.set_cons_succ
abbrev B1:=@Nat.le_refl
abbrev F5:=@Nat.le_trans
abbrev D3:=@Nat.lt_of_lt_of_le
abbrev aP:=@Nat.add_assoc
abbrev D2:=@List.map_append
abbrev E8:=@List.map_cons
abbrev L4:=@List.map_nil
abbrev K4:=@List.mem_map
abbrev K0:=@List.mem_append
abbrev J0:=@List.mem_cons
abbrev O9:=@List.not_mem_nil
abbrev oI:=@or_false
abbrev DX:=@Nat.lt_succ_self
abbrev L9:=@List.ext_getElem?
abbrev A8:=@List.getElem?_map
abbrev L1:=@Array.getElem?_toList
abbrev LD:=@Array.getElem?_modify
abbrev A3:=@List.getElem?_eq_getElem
abbrev C4:=@Array.getElem?_eq_some_iff
abbrev L5:=@List.length_set
abbrev C3:=@List.getElem?_set_ne
abbrev A4:=@List.getElem?_eq_some_iff
abbrev G1:=@List.getElem?_set_self
abbrev N9:=@Ne.symm
abbrev D0:=@List.length_take
abbrev B8:=@List.getElem?_append_left
abbrev I8:=@List.getElem?_take_of_lt
abbrev B3:=@List.getElem?_append_right
abbrev K9:=@List.length_replicate
abbrev J2:=@List.getElem?_replicate
abbrev J4:=@List.getElem?_drop
abbrev B4:=@List.length_append
abbrev aA:=@List.length_drop
abbrev G4:=@of_decide_eq_true
abbrev C8:=@Bool.and_eq_true
abbrev AO:=@List.all_cons
abbrev B2:=@Nat.eq_of_beq_eq_true
abbrev F3:=@decide_eq_true_eq
abbrev jD:=@Bool.not_eq_true'
abbrev D5:=@List.append_assoc
abbrev K5:=@List.getElem?_set
abbrev R6:=@List.getElem?_cons_succ
abbrev gQ:=@List.getElem?_take
abbrev B7:=@Array.getElem?_eq_getElem
abbrev C1:=@Nat.zero_add
abbrev F0:=@Option.map_eq_some_iff
abbrev W2:=@Nat.add_zero
abbrev F6:=@Array.length_toList
abbrev D9:=@List.mem_iff_getElem?
abbrev M5:=@List.size_toArray
abbrev D6:=@Nat.mul_le_mul_right
abbrev P3:=@Nat.succ_mul
abbrev Z6:=@List.getElem?_toArray
abbrev gN:=@Nat.lt_or_ge
abbrev B5:=@Nat.le_of_ble_eq_true
abbrev mP:=@Nat.min_eq_left
abbrev Y4:=@Array.toArray_toList
abbrev H5:=@Nat.add_mul
abbrev L2:=@Nat.mul_one
abbrev bT:=@Bool.eq_iff_iff
abbrev gL:=@Nat.zero_mul
abbrev E7:=@List.eq_nil_of_length_eq_zero
abbrev T0:=@Bool.false_eq_true
abbrev OY:=@List.mapM_cons
abbrev dX:=@List.foldl_cons
abbrev H8:=@List.zip_cons_cons
abbrev eG:=@List.map_map
abbrev qT:=@Int.mul_le_mul_of_nonneg_right
abbrev sU:=@Int.mul_le_mul_of_nonneg_left
abbrev C6:=@Nat.mul_comm
abbrev mO:=@Nat.mul_add_mod
abbrev M0:=@Nat.mod_eq_of_lt
abbrev M7:=@Int.le_refl
abbrev gF:=@Nat.mod_one
abbrev G5:=@List.nil_append
abbrev Q6:=@Bool.or_eq_true
abbrev B0:=@Int.toNat_natCast
abbrev B9:=@Nat.zero_le
abbrev O0:=@Option.getD_some
abbrev H3:=@Nat.eq_zero_or_pos
abbrev J7:=@Nat.mod_lt
abbrev O2:=@Nat.div_add_mod
abbrev K2:=@List.mem_range
abbrev F2:=@List.getElem?_range
abbrev Q3:=@Option.map_some
abbrev tJ:=@Nat.mul_add_div
abbrev I9:=@Nat.div_eq_of_lt
abbrev A6:=@List.length_map
abbrev A7:=@List.mem_of_getElem?
abbrev G6:=@Nat.mul_le_mul
abbrev V6:=@Array.getElem?_append_left
abbrev C7:=@List.take_of_length_le
abbrev C5:=@List.all_eq_true
abbrev lE:=@List.length_pos_iff
abbrev pA:=@List.drop_eq_nil_of_le
abbrev Z4:=@List.take_append_drop
abbrev xL:=@List.drop_drop
abbrev N8:=@congrArg
abbrev G3:=@Array.getElem?_setIfInBounds_ne
abbrev oZ:=@List.flatMap_cons
abbrev V7:=@List.length_nil
abbrev kJ:=@Nat.beq_refl
abbrev Z5:=@List.set_getElem_self
abbrev G2:=@Nat.sub_self
abbrev W8:=@Option.some.injEq
abbrev iJ:=@Prod.mk.injEq
abbrev C0:=@Array.getD_eq_getD_getElem?
abbrev N7:=@Array.getElem?_setIfInBounds_self
abbrev wJ:=@Array.getElem?_append_right
abbrev kK:=@Nat.add_comm
abbrev I1:=@List.cons_append
abbrev I3:=@List.append_nil
abbrev aC:=@List.any_eq_true
abbrev Z0:=@List.rel_of_pairwise_cons
abbrev jL:=@List.pairwise_append
abbrev O8:=@List.mem_append_left
abbrev FP:=@List.sublist_cons_self
abbrev dB:=@List.mem_append_right
abbrev aR:=@Array.getElem?_replicate
abbrev E0:=@List.getElem?_eq_none
abbrev xK:=@List.pairwise_cons
abbrev A5:=@List.getD_eq_getElem?_getD
abbrev H9:=@List.mem_singleton
abbrev dM:=@List.drop_eq_getElem_cons
abbrev dW:=@List.nodup_cons
abbrev KY:=@List.of_mem_zip
abbrev AJ:=@List.getElem?_inj
abbrev R5:=@List.getElem_mem
abbrev T7:=@Option.some.inj
abbrev F1:=@List.length_singleton
abbrev K3:=@decide_eq_false_iff_not
abbrev R2:=@Nat.mul_add
abbrev H2:=@Nat.pow_add
abbrev F4:=@Nat.div_div_eq_div_mul
abbrev oW:=@Nat.mul_zero
abbrev aO:=@Nat.pow_zero
abbrev sS:=@Nat.div_one
abbrev E9:=@List.set_cons_zero
abbrev oX:=@Nat.mul_left_comm
abbrev S7:=@Nat.add_mul_div_left
abbrev M1:=@List.replicate_succ
abbrev gG:=@List.take_append_of_le_length
abbrev U8:=@Nat.pow_succ
abbrev V5:=@Nat.add_sub_cancel
abbrev I4:=@Nat.lt_of_le_of_lt
abbrev J9:=@Nat.pow_lt_pow_iff_right
abbrev G7:=@Nat.pow_pos
abbrev O1:=@Nat.div_lt_iff_lt_mul
abbrev mX:=@UInt8.toNat_ofNat'
abbrev O7:=@List.map_set
abbrev M3:=@Nat.pow_le_pow_right
abbrev V4:=@Nat.one_mul
abbrev I2:=@Nat.mul_assoc
abbrev M8:=@List.map_replicate
abbrev Q5:=@Int.natCast_mul
abbrev P1:=@Int.natCast_pow
abbrev xJ:=@Nat.mod_mul_right_div_self
abbrev qR:=@Nat.mod_mul_right_mod
abbrev R7:=@Int.fdiv_eq_ediv_of_nonneg
abbrev gR:=@Int.le_of_lt
abbrev PA:=@Int.pow_pos
abbrev fH:=@Int.natCast_ediv
abbrev N5:=@Nat.div_le_self
abbrev eC:=@Nat.mod_mul
abbrev cO:=@Nat.lt_irrefl
abbrev fF:=@Nat.mul_le_mul_left
abbrev DW:=@Nat.mul_lt_mul''
abbrev LA:=@Int.natCast_add
abbrev aV:=@Nat.mul_pos
abbrev V2:=@Nat.mul_div_cancel_left
abbrev R4:=@Nat.le_mul_of_pos_right
abbrev O4:=@List.drop_zero
abbrev mB:=@List.map_take
abbrev I5:=@List.take_length
abbrev Y3:=@Nat.pow_lt_pow_right
abbrev eD:=@Nat.gcd_comm
abbrev gM:=@Nat.lt_trans
abbrev xM:=@Bool.false_and
abbrev cQ:=@Bool.true_and
abbrev KW:=@Rat.num_eq_zero
abbrev qS:=@Rat.mkRat_eq_div
abbrev P6:=@Rat.intCast_natCast
abbrev mN:=@Rat.intCast_neg
abbrev pC:=@Bool.and_false
abbrev mD:=@Bool.and_true
abbrev OX:=@Rat.div_def
abbrev OW:=@Rat.le_refl
abbrev FQ:=@Fin.mk.inj
abbrev fK:=@Int.natAbs_mul
abbrev X3:=@Rat.intCast_add
abbrev tG:=@Rat.intCast_sub
abbrev T6:=@Rat.intCast_mul
abbrev tI:=@Rat.intCast_inj
abbrev OZ:=@List.getElem?_mapIdx
abbrev KZ:=@List.find?_some
abbrev lC:=@List.mem_of_find?_eq_some
abbrev cV:=@List.find?_eq_none
abbrev KX:=@Rat.natCast_mul
abbrev xI:=@Nat.one_le_two_pow
abbrev D1:=@List.take_add_one
abbrev P2:=@Option.toList_some
abbrev K8:=@List.set_append_right
abbrev lD:=@List.replicate_zero
abbrev L6:=@List.filter_append
abbrev bS:=@List.mem_filter
abbrev S9:=@List.mem_or_eq_of_mem_set
abbrev vC:=@Int.toNat_of_nonneg
abbrev L0:=@List.length_filter_le
abbrev W1:=@decide_eq_decide
abbrev X5:=@of_decide_eq_false
abbrev S6:=@Rat.mul_le_mul_of_nonneg_left
abbrev tH:=@Rat.intCast_pos
abbrev Q4:=@List.range_succ
abbrev M6:=@List.length_range
abbrev wH:=@Int.add_zero
abbrev OV:=@Rat.one_mul
abbrev FN:=@Rat.mul_zero
abbrev gK:=@Rat.intCast_le_intCast
abbrev PB:=@Int.mul_nonneg
abbrev aZ:=@Int.mul_le_mul
abbrev mA:=@Option.isSome_iff_exists
abbrev aX:=@List.mem_of_mem_drop
abbrev W3:=@List.mem_flatMap
abbrev oY:=@List.foldl_append
abbrev iK:=@List.sum_cons
abbrev oA:=@List.filter_cons_of_pos
abbrev DZ:=@List.filter_cons_of_neg
abbrev AN:=@List.set_eq_of_length_le
abbrev aQ:=@Bool.or_false
abbrev wI:=@Bool.or_true
abbrev AK:=@List.any_eq_false
abbrev DV:=@Rat.intCast_zero
abbrev DY:=@List.length_eq_zero_iff
abbrev aY:=@List.append_eq
abbrev T9:=@List.getD_cons_zero
abbrev U0:=@List.getD_cons_succ
end Go.PM
namespace Go.PM
inductive D where
 |b (x:Bool)
 |i (k:IntKind) (n:Int)
 |s (x:ByteArray)
 |k (v:Value)
 |agg (cs:List D)
 |sl (sz:Nat) (full:Bool) (xs:List D)
 |any (t:TypeId) (x:D)
 |pt (cs:List D)
 |cl (f:FuncId) (fs cs:List D)
def D.cells:D->List D
 | .agg cs=>cs
 |x=>[x]
inductive V where
 |u
 |d (x:D)
 |agg (cs:List V)
 |tup (cs:List V)
 |ptr (n ver e o:Nat)
 |rp (cs:List D) (o:Nat)
 |sref (n ver lo len:Nat) (full:Bool)
 |fn (f:FuncId) (cap:List V)
 |yld (n:Nat)
 |map (n:Nat)
abbrev Tm:=List (Nat×V)
inductive vB where
 |ready|busy|done|exhausted
inductive TK where
 |bool
 |int (k:IntKind)
 |string
 |str (fs:List (Nat×TypeId))
 |arr (n:Nat) (e:TypeId)
 |slice (e:TypeId)
 |map (k e:TypeId)
 |other
structure TI where
 kind:TK
 size:Nat
 bytes:Nat
 zero:List D
abbrev TT:=List (Nat×TI)
inductive Blk where
 |res
 |gone
 |var (cs:List V)
 |vard (cs:List D)
 |row (ver sz:Nat) (ro:Bool) (xs:List D)
 |map (T:TT) (kt:TypeId) (es:List (D×D))
 |ar (vs:List (Nat×List D))
 |loop (st:vB) (pend:Option Code) (N:Nat) (ts:Tm) (params:List Tmp) (assign body:Code)
inductive Res where
 |d (v:V)
 |row (sz:Nat) (ys:List D)
 |map (T:TT) (kt:TypeId) (es:List (D×D))
 |fix (n:Nat) (v:V)
 |keep (ns:List Nat) (v:V)
 |upd (ns:List Nat) (bs:List Blk) (v:V)
abbrev Hp:=List Blk
def Blk.own:Blk->Bool
 | .ar _=>true
 |_=>false
def brN:Nat->Prop->Prop->Prop
 |0,_,B=>B
 |n+1,A,_=>brN n A A
def br (x:Bool) (A B:Prop):Prop:=brN x.toNat A B
def dV {α:Type}:List α->Nat->(α->Prop)->Prop
 |[],_,_=>False
 |x::_,0,k=>k x
 |_::xs,n+1,k=>dV xs n k
def iI {α:Type}:List α->Nat->α->(List α->Prop)->Prop
 |[],_,_,_=>False
 |_::xs,0,y,k=>k (y::xs)
 |x::xs,n+1,y,k=>iI xs n y λzs=>k (x::zs)
def X4 (b:Bool) (A:Prop):Prop:=brN b.toNat A False
structure Chk (A B:Prop):Prop where
 wrap::
 holds:A/\B
structure Nam {α:Type} (x:α) (K:α->Prop):Prop where
 wrap::
 holds:K x
structure Alt (A B:Prop):Prop where
 wrap::
 holds:A∨B
theorem Alt.r {A B:Prop} (h:B):Alt A B:=⟨.inr h⟩
theorem Alt.elim {A B:Prop} (h:Alt A B):A∨B:=h.holds
structure MB (A B:Prop):Prop where
 wrap::
 holds:A∨B
theorem MB.l {A B:Prop} (h:A):MB A B:=⟨.inl h⟩
theorem MB.r {A B:Prop} (h:B):MB A B:=⟨.inr h⟩
theorem MB.elim {A B:Prop} (h:MB A B):A∨B:=h.holds
structure Dec (p:Prop) [Decidable p] (K:Bool->Prop):Prop where
 wrap::
 holds:K (decide p)
structure Wr (k:IntKind) (n:Int) (K:Int->Prop):Prop where
 wrap::
 holds:K (k.wrap n)
theorem Dec.split {p:Prop} [Decidable p] {K:Bool->Prop} (a:p->K true) (b:¬p->K false):Dec p K:=by
 refine⟨?_⟩
 by_cases h:p
 ·rw[C2 h];exact a h
 ·rw[B6 h];exact b h
theorem Dec.t {p:Prop} [Decidable p] {K:Bool->Prop} (h:p) (a:K true):Dec p K:=Dec.split (λ_=>a) (λhn=>absurd h hn)
theorem Dec.f {p:Prop} [Decidable p] {K:Bool->Prop} (h:¬p) (a:K false):Dec p K:=Dec.split (λhp=>absurd hp h) (λ_=>a)
theorem Dec.elim {p:Prop} [Decidable p] {K:Bool->Prop} (h:Dec p K):K (decide p):=h.holds
theorem Wr.keep {k:IntKind} {n:Int} {K:Int->Prop} (a:K (k.wrap n)):Wr k n K:=⟨a⟩
theorem Wr.elim {k:IntKind} {n:Int} {K:Int->Prop} (h:Wr k n K):K (k.wrap n):=h.holds
theorem EY {n:Int} (h: -9223372036854775808<=n/\n<9223372036854775808):IntKind.i64.wrap n=n:=by
 simp[IntKind.wrap,IntKind.bits,IntKind.signed]
 omega
theorem Wr.id {n:Int} {K:Int->Prop} (h: -9223372036854775808<=n/\n<9223372036854775808) (a:K n):Wr .i64 n K:=.keep (by rw[EY h];exact a)
theorem Chk.mk {A B:Prop} (a:A) (b:B):Chk A B:=⟨a,b⟩
theorem Chk.elim {A B:Prop} (h:Chk A B):A/\B:=h.holds
theorem Nam.mk {α:Type} {x y:α} {K:α->Prop} (h:x=y) (k:K y):Nam x K:=⟨by rw[h];exact k⟩
theorem Nam.elim {α:Type} {x:α} {K:α->Prop} (h:Nam x K):K x:=h.holds
theorem OM (x:Bool) (A B:Prop):brN x.toNat A B↔(x=true->A)/\(x=false->B):=by
 cases x<;>simp[brN]
theorem SD (x:Bool) (A B:Prop):br x A B↔(x=true->A)/\(x=false->B):=OM x A B
theorem br_mk {x:Bool} {A B:Prop} (a:x=true->A) (b:x=false->B):brN x.toNat A B:=(OM x A B).2 ⟨a,b⟩
theorem J1 (x:Bool) (A:Prop):X4 x A↔x=true/\A:=by cases x<;>simp[X4,brN]
theorem WW {x:Bool} {A:Prop} (h:x=true) (a:A):brN x.toNat A False:=by subst h;simpa[brN] using a
theorem O6 {α:Type} {k:α->Prop}:∀{xs:List α} {n:Nat},dV xs n k↔∃x,xs[n]? =some x/\k x
 |[],n=>by simp[dV]
 |x::xs,0=>by simp[dV]
 |x::xs,n+1=>by simpa[dV] using O6 (xs:=xs) (n:=n)
theorem A9 {α:Type} {k:α->Prop} {xs:List α} {n:Nat} {x:α} (h:xs[n]? =some x) (hk:k x):dV xs n k:=O6.2 ⟨x,h,hk⟩
theorem aG {α:Type} {y:α}:∀{xs:List α} {n:Nat} {k:List α->Prop},iI xs n y k↔n<xs.length/\k (xs.set n y)
 |[],n,k=>by simp[iI]
 |x::xs,0,k=>by simp[iI]
 |x::xs,n+1,k=>by
  simp only[iI,M2,H4]
  rw[aG]
  simp
theorem vK {α:Type} {y:α} {xs:List α} {n:Nat} {k:List α->Prop} (h:n<xs.length) (hk:k (xs.set n y)):iI xs n y k:=aG.2 ⟨h,hk⟩
def look:Tm->Nat->V
 |[],_=>.u
 |(k,v)::r,t=>match Nat.beq k t with
  |true=>v
  |false=>look r t
def J8:TT->Nat->Option TI
 |[],_=>none
 |(k,v)::r,t=>match Nat.beq k t with
  |true=>some v
  |false=>J8 r t
def B3z:Value->Option D
 | .bool x=>some (.b x)
 | .int k n=>some (.i k n)
 | .string x=>some (.s x)
 | .slice none 0 0=>some (.sl 0 true [])
 | .agg _=>none
 | .tuple _=>none
 |v=>some (.k v)
def IP:List Value->Option (List D)
 |[]=>some []
 |v::vs=>match B3z v,IP vs with
  |some x,some xs=>some (x::xs)
  |_,_=>none
def vR (v:Value):V:=
 match v with
 | .agg cs=>match IP cs.toList with
   |some xs=>.d (.agg xs)
   |none=>.u
 |v=>match B3z v with
  |some x=>.d x
  |none=>.u
class CN where
 cells:List (Nat×List D)
variable [CN]
def NM:List (Nat×List D)->Nat->V
 |[],_=>.u
 |(j,cs)::r,g=>match Nat.beq j g with
  |true=>.rp cs 0
  |false=>NM r g
def A2o:List (Nat×List D)->Nat->(V->Prop)->Prop
 |[],_,k=>k .u
 |(j,cs)::r,g,k=>match Nat.beq j g with
  |true=>k (.rp cs 0)
  |false=>A2o r g k
def ev (ts:Tm):Operand->V
 | .tmp t=>look ts t
 | .const v=>vR v
 | .func f=>.fn f []
 | .global g=>NM CN.cells g
def IM:Tm->Nat->(V->Prop)->Prop
 |[],_,k=>k .u
 |(j,v)::r,t,k=>match Nat.beq j t with
  |true=>k v
  |false=>IM r t k
def A0k (v:Value) (k:V->Prop):Prop:=
 match v with
 | .bool x=>k (.d (.b x))
 | .int kd n=>k (.d (.i kd n))
 | .string x=>k (.d (.s x))
 | .slice none 0 0=>k (.d (.sl 0 true []))
 | .agg cs=>match IP cs.toList with
   |some xs=>k (.d (.agg xs))
   |none=>k .u
 |v=>k (vR v)
def evK (ts:Tm) (x:Operand) (k:V->Prop):Prop:=
 match x with
 | .tmp t=>IM ts t k
 | .const v=>A0k v k
 | .func f=>k (.fn f [])
 | .global g=>A2o CN.cells g k
def RM (ts:Tm):List Operand->(List V->Prop)->Prop
 |[],k=>k []
 |x::r,k=>evK ts x λv=>RM ts r λvs=>k (v::vs)
def A0z:List V->(List D->Prop)->Prop->Prop
 |[],k,_=>k []
 | .d x::r,k,no=>A0z r (λl=>k (x::l)) no
 |_::_,_,no=>no
def VA (cs:List V) (k:V->Prop):Prop:=A0z cs (λl=>k (.d (.agg l))) (k (.agg cs))
def BV (v:V) (k:List V->Prop):Prop:=
 match v with
 | .d (.agg cs)=>k (cs.map .d)
 | .d x=>k [.d x]
 | .agg cs=>k cs
 | .u=>False
 | .tup _=>False
 |v=>k [v]
def CU {α:Type}:List α->Nat->(List α->Prop)->Prop
 |_,0,k=>k []
 |[],_+1,_=>False
 |x::xs,n+1,k=>CU xs n λl=>k (x::l)
def JV {α:Type}:List α->Nat->(List α->Prop)->Prop
 |xs,0,k=>k xs
 |[],_+1,_=>False
 |_::xs,n+1,k=>JV xs n k
def IU {α:Type}:List α->Nat->List α->(List α->Prop)->Prop
 |xs,_,[],k=>k xs
 |xs,o,y::ys,k=>iI xs o y λzs=>IU zs (o+1) ys k
def G8 (ti:TI):Bool:=match ti.kind with
 | .str _=>true
 | .arr _ _=>true
 |_=>false
def HC (ti:TI) (cs:List D) (o:Nat) (k:D->Prop):Prop:=
 match G8 ti with
 |true=>match o with
  |0=>match Nat.beq cs.length ti.size with
   |true=>k (.agg cs)
   |false=>CU cs ti.size λl=>k (.agg l)
  |o=>JV cs o λr=>CU r ti.size λl=>k (.agg l)
 |false=>dV cs o k
def A2c (ti:TI) (cs:List V) (o:Nat) (k:V->Prop):Prop:=
 match G8 ti with
 |true=>JV cs o λr=>CU r ti.size λl=>VA l k
 |false=>dV cs o k
abbrev Kt:=V->List Blk->Prop
def fB (a:V):List Nat:=match a with
 | .ptr n _ _ _=>[n]
 |_=>[]
def OU (T:TT) (t:TypeId) (a:V) (bs:List Blk) (K:Kt):Prop:=
 match J8 T t with
 |none=>False
 |some ti=>match a,bs with
  | .rp cs o,[]=>HC ti cs o λx=>K (.d x) []
  | .ptr _ _ _ o,[.vard cs]=>HC ti cs o λx=>K (.d x) [.vard cs]
  | .ptr _ _ _ o,[.var cs]=>A2c ti cs o λx=>K x [.var cs]
  | .ptr _ ver e o,[.row ver' sz ro xs]=>Chk (ver=ver') (dV xs e λx=>HC ti x.cells o λy=>K (.d y) [.row ver' sz ro xs])
  | .ptr _ _ e o,[.ar vs]=>dV vs e λp=>HC ti p.2 o λy=>K (.d y) [.ar vs]
  |_,_=>False
def PJ (cs:List D) (o:Nat) (x:D) (k:List D->Prop):Prop:=
 match x with
 | .agg l=>match o with
   |0=>match Nat.beq cs.length l.length with
    |true=>k l
    |false=>IU cs 0 l k
   |o=>IU cs o l k
 |x=>iI cs o x k
def oJ (x:D) (l:List D):D:=match x with
 | .agg _=>.agg l
 |_=>match l with
  |[y]=>y
  |_=>.agg l
def A1b (T:TT) (t:TypeId) (a v:V) (bs:List Blk) (K:Kt):Prop:=
 match J8 T t with
 |none=>False
 |some ti=>X4 (Nat.blt 0 ti.size) (match a,bs with
  | .ptr _ _ _ o,[.vard cs]=>match v with
    | .d x=>X4 (Nat.beq x.cells.length ti.size) (PJ cs o x λcs'=>K .u [.vard cs'])
    |v=>BV v λl=>X4 (Nat.beq l.length ti.size) (IU (cs.map .d) o l λcs'=>K .u [.var cs'])
  | .ptr _ _ _ o,[.var cs]=>BV v λl=>X4 (Nat.beq l.length ti.size) (IU cs o l λcs'=>K .u [.var cs'])
  | .ptr _ ver e o,[.row ver' sz ro xs]=>match v,ro with
    | .d x,false=>X4 (Nat.beq x.cells.length ti.size) (Chk (ver=ver') (dV xs e λy=>PJ y.cells o x λcs'=>iI xs e (oJ y cs') λxs'=>K .u [.row ver' sz false xs']))
    |_,_=>False
  |_,_=>False)
def zeroV (T:TT) (t:TypeId) (k:TI->List D->Prop):Prop:=
 match J8 T t with
 |some ti=>k ti ti.zero
 |none=>False
def A9l (v:V) (k:Blk->Prop):Prop:=
 match v with
 | .d x=>k (.vard x.cells)
 |v=>BV v λl=>k (.var l)
def zY (T:TT) (t:TypeId) (f:Nat) (k:Nat->TypeId->Prop):Prop:=
 match J8 T t with
 |some ti=>match ti.kind with
  | .str fs=>dV fs f λp=>k p.1 p.2
  |_=>False
 |none=>False
def yJ (T:TT) (t:TypeId) (a:V) (f:Nat) (K:V->Prop):Prop:=
 zY T t f λoff _=>match a with
  | .ptr n ver e o=>K (.ptr n ver e (o+off))
  | .rp cs o=>K (.rp cs (o+off))
  |_=>False
def A1g (T:TT) (t:TypeId) (v:V) (f:Nat) (K:V->Prop):Prop:=
 zY T t f λoff ft=>match J8 T ft with
  |none=>False
  |some ti=>match v with
   | .d (.agg cs)=>HC ti cs off λx=>K (.d x)
   | .agg cs=>A2c ti cs off K
   |_=>False
def zU (a:V):List Nat:=match a with
 | .sref n _ _ _ _=>[n]
 |_=>[]
def yI (T:TT) (t:TypeId) (a ix:V) (bs:List Blk) (K:Kt):Prop:=
 match J8 T t,ix with
 |some ti,.d (.i _ n)=>match ti.kind,a,bs with
  | .slice e,.d (.sl sz _ xs),[]=>match J8 T e with
    |some te=>X4 (Nat.beq sz te.size) (Chk (0<=n) (dV xs n.toNat λx=>K (.rp x.cells 0) []))
    |none=>False
  | .slice e,.sref m ver lo len _,[.row ver' sz ro xs]=>match J8 T e with
    |some te=>X4 (Nat.beq sz te.size) (Chk (ver=ver'/\0<=n/\n<len) (K (.ptr m ver (lo+n.toNat) 0) [.row ver' sz ro xs]))
    |none=>False
  | .slice e,.sref m _ lo len _,[.var cs]=>match J8 T e with
    |some te=>X4 (Nat.beq te.size 1) (Chk (0<=n/\n<len) (K (.ptr m 0 0 (lo+n.toNat)) [.var cs]))
    |none=>False
  | .slice e,.sref m _ lo len _,[.vard cs]=>match J8 T e with
    |some te=>X4 (Nat.beq te.size 1) (Chk (0<=n/\n<len) (K (.ptr m 0 0 (lo+n.toNat)) [.vard cs]))
    |none=>False
  | .arr len e,.ptr m ver el o,[]=>match J8 T e with
    |some te=>Chk (0<=n/\n<len) (K (.ptr m ver el (o+n.toNat*te.size)) [])
    |none=>False
  | .arr len e,.rp cs o,[]=>match J8 T e with
    |some te=>Chk (0<=n/\n<len) (K (.rp cs (o+n.toNat*te.size)) [])
    |none=>False
  |_,_,_=>False
 |_,_=>False
def oB (a:V):List Nat:=match a with
 | .map n=>[n]
 |_=>[]
def aLen (a:V) (bs:List Blk) (K:Kt):Prop:=
 match a,bs with
 | .d (.sl _ _ xs),[]=>Nam xs.length λn=>K (.d (.i .i64 n)) []
 | .d (.s x),[]=>K (.d (.i .i64 x.size)) []
 | .sref _ _ _ len _,[]=>K (.d (.i .i64 len)) []
 | .map _,[.map T kt es]=>Nam es.length λn=>K (.d (.i .i64 n)) [.map T kt es]
 |_,_=>False
def X7 (kd:TK) (xs:List D):Bool:=
 match kd,xs with
 | .bool,[.b _]=>true
 | .int k,[.i k' _]=>decide (k=k')
 | .string,[.s _]=>true
 |_,_=>false
def kG (T:TT) (rec:TypeId->List D->Bool) (xs:List D):Nat->List (Nat×TypeId)->Bool
 |off,[]=>Nat.beq off xs.length
 |off,p::r=>match J8 T p.2 with
  |some ti=>Nat.beq p.1 off&&Nat.ble (off+ti.size) xs.length&&rec p.2 ((xs.drop p.1).take ti.size)&&kG T rec xs (off+ti.size) r
  |none=>false
def V1 (T:TT):Nat->TypeId->List D->Bool
 |0,_,_=>false
 |n+1,t,xs=>match J8 T t with
  |some ti=>match ti.kind with
   | .str fs=>kG T (V1 T n) xs 0 fs
   |kd=>X7 kd xs
  |none=>false
def eq1:List D->List D->Bool
 |[.b x],[.b y]=>x==y
 |[.i _ x],[.i _ y]=>x==y
 |[.s x],[.s y]=>x.toList==y.toList
 |_,_=>false
def A0f (T:TT) (rec:TypeId->List D->List D->Bool) (xs ys:List D):List (Nat×TypeId)->Bool
 |[]=>true
 |p::r=>match J8 T p.2 with
  |some ti=>rec p.2 ((xs.drop p.1).take ti.size) ((ys.drop p.1).take ti.size)&&A0f T rec xs ys r
  |none=>false
def eqD (T:TT):Nat->TypeId->List D->List D->Bool
 |0,_,_,_=>false
 |n+1,t,xs,ys=>match J8 T t with
  |some ti=>match ti.kind with
   | .str fs=>A0f T (eqD T n) xs ys fs
   |_=>eq1 xs ys
  |none=>false
def eX (op:BinOp) (k:IntKind) (x y:Int):Int:=
 match op with
 | .and=>k.wrap (BitVec.ofInt k.bits x &&& BitVec.ofInt k.bits y).toNat
 | .or=>k.wrap (BitVec.ofInt k.bits x ||| BitVec.ofInt k.bits y).toNat
 | .xor=>k.wrap (BitVec.ofInt k.bits x ^^^ BitVec.ofInt k.bits y).toNat
 |_=>k.wrap (BitVec.ofInt k.bits x &&& ~~~(BitVec.ofInt k.bits y)).toNat
def shOp (op:BinOp) (kd:IntKind) (x y:Int) (K:D->Prop):Prop:=
 match op with
 | .shl=>Chk (0<=y) (Wr kd (x*2^(min y.toNat kd.bits)) λn=>K (.i kd n))
 | .shr=>Chk (0<=y) (K (.i kd (x.fdiv (2^(min y.toNat kd.bits)))))
 |_=>False
def isSh (op:BinOp):Bool:=match op with
 | .shl=>true
 | .shr=>true
 |_=>false
def A9x (op:BinOp) (kd:IntKind) (x y:Int) (K:D->Prop):Prop:=
 match op with
 | .add=>Wr kd (x+y) λn=>K (.i kd n)
 | .sub=>Wr kd (x-y) λn=>K (.i kd n)
 | .mul=>Wr kd (x*y) λn=>K (.i kd n)
 | .eql=>Dec (x=y) λr=>K (.b r)
 | .neq=>Dec (x=y) λr=>K (.b (!r))
 | .lss=>Dec (x<y) λr=>K (.b r)
 | .leq=>Dec (x<=y) λr=>K (.b r)
 | .gtr=>Dec (y<x) λr=>K (.b r)
 | .geq=>Dec (y<=x) λr=>K (.b r)
 | .quo=>Chk (y≠0) (Wr kd (x.tdiv y) λn=>K (.i kd n))
 | .rem=>Chk (y≠0) (K (.i kd (x.tmod y)))
 | .and=>K (.i kd (eX .and kd x y))
 | .or=>K (.i kd (eX .or kd x y))
 | .xor=>K (.i kd (eX .xor kd x y))
 | .andNot=>K (.i kd (eX .andNot kd x y))
 |_=>False
def A7k (op:BinOp) (x y:ByteArray) (K:D->Prop):Prop:=
 match op with
 | .eql=>Dec (x.toList=y.toList) λr=>K (.b r)
 | .neq=>Dec (x.toList=y.toList) λr=>K (.b (!r))
 | .lss=>K (.b (Op.bytesLess x.toList y.toList))
 | .leq=>K (.b (Op.bytesLess x.toList y.toList||x.toList==y.toList))
 | .gtr=>K (.b (!(Op.bytesLess x.toList y.toList||x.toList==y.toList)))
 | .geq=>K (.b (!(Op.bytesLess x.toList y.toList)))
 | .add=>Chk (x.size+y.size<4611686018427387904) (Nam (x++y) λz=>K (.s z))
 |_=>False
def KK (T:TT) (t:TypeId):Bool:=match J8 T t with
 |some ti=>G8 ti
 |none=>false
def arr2 (T:TT) (t:TypeId):Option IntKind:=match J8 T t with
 |some ti=>match ti.kind with
  | .arr n e=>match Nat.beq n 2,J8 T e with
    |true,some te=>match Nat.beq te.size 1,te.kind with
     |true,.int k=>some k
     |_,_=>none
    |_,_=>none
  |_=>none
 |none=>none
def aBin (T:TT) (op:BinOp) (t:TypeId) (a b:V) (K:V->Prop):Prop:=
 match a,b with
 | .d (.i j x),.d (.i k y)=>match isSh op with
   |true=>shOp op j x y λr=>K (.d r)
   |false=>X4 (decide (j=k)) (A9x op j x y λr=>K (.d r))
 | .d (.s x),.d (.s y)=>A7k op x y λr=>K (.d r)
 | .d (.b x),.d (.b y)=>X4 (V1 T 1 t [.b x]&& !KK T t) (match op with
   | .eql=>Dec (x=y) λr=>K (.d (.b r))
   | .neq=>Dec (x=y) λr=>K (.d (.b (!r)))
   |_=>False)
 | .d (.agg xs),.d (.agg ys)=>match arr2 T t with
   |some k=>match xs,ys with
    |[.i a x,.i b y],[.i c z,.i d w]=>X4 (decide (a=k)&&decide (b=k)&&(decide (c=k)&&decide (d=k))) (match op with
     | .eql=>Nam (x==z&&y==w) λr=>K (.d (.b r))
     | .neq=>Nam (x==z&&y==w) λr=>K (.d (.b (!r)))
     |_=>False)
    |_,_=>False
   |none=>X4 (KK T t&&(V1 T 4 t xs&&V1 T 4 t ys)) (match op with
    | .eql=>Nam (eqD T 4 t xs ys) λr=>K (.d (.b r))
    | .neq=>Nam (eqD T 4 t xs ys) λr=>K (.d (.b (!r)))
    |_=>False)
 |_,_=>False
def aUn (op:UnOp) (a:V) (K:V->Prop):Prop:=
 match op,a with
 | .not,.d (.b x)=>K (.d (.b (!x)))
 | .neg,.d (.i k n)=>K (.d (.i k (k.wrap (0-n))))
 |_,_=>False
def xV (T:TT) (fs:List (Nat×TypeId)):List Nat->List V->List V->(List V->Prop)->Prop
 |[],_,cs,k=>k cs
 |f::r,vs,cs,k=>match vs with
  |[]=>False
  |v::vs=>dV fs f λp=>match J8 T p.2 with
   |some ti=>BV v λl=>X4 (Nat.beq l.length ti.size) (IU cs p.1 l λcs'=>xV T fs r vs cs' k)
   |none=>False
def ixs (parts:List (Nat×Operand)):List Nat:=parts.map (·.1)
def A1i (T:TT) (t:TypeId) (is:List Nat) (vs:List V) (K:V->Prop):Prop:=
 match J8 T t with
 |some ti=>match ti.kind with
  | .str fs=>match is with
    |[]=>K (.d (.agg ti.zero))
    |is=>xV T fs is vs (ti.zero.map .d) λcs=>VA cs K
  | .arr n e=>match J8 T e with
    |some te=>match Nat.beq te.size 1 with
     |true=>match is with
      |[]=>K (.d (.agg ti.zero))
      |is=>xV T ((List.range n).map λi=>(i,e)) is vs (ti.zero.map .d) λcs=>VA cs K
     |false=>False
    |none=>False
  |_=>False
 |none=>False
def BY (b:ByteArray):List D:=b.data.toList.map λc=>.i .u8 (c.toNat:Int)
def JU (v:V) (bs:List Blk) (k:Nat->List D->Prop):Prop:=
 match v,bs with
 | .d (.sl sz _ xs),[]=>k sz xs
 | .d (.s b),[]=>k 1 (BY b)
 | .sref _ ver lo len _,[.row ver' sz _ xs]=>match lo with
   |0=>Chk (ver=ver'/\len<=xs.length) (Nam (xs.take len) λys=>k sz ys)
   |lo=>Chk (ver=ver'/\lo+len<=xs.length) (Nam ((xs.drop lo).take len) λys=>k sz ys)
 | .sref _ _ lo len _,[.vard cs]=>Chk (lo+len<=cs.length) (Nam ((cs.drop lo).take len) λys=>k 1 ys)
 |_,_=>False
def Z7 (x:V):List Nat:=match x with
 | .sref m _ _ _ _=>[m]
 |_=>[]
def dA (s x:V) (nf:Nat):List Nat:=match s with
 | .sref n _ _ _ false=>n::Z7 x
 | .sref n _ _ _ true=>nf::n::Z7 x
 |_=>nf::Z7 x
def room:Nat:=1073741824
def X1 {α:Type}:List α->Nat->List α
 |xs,0=>xs
 |xs,n+1=>List.drop (n+1) xs
def vH (T:TT) (t:TypeId):Bool:=match J8 T t with
 |some ti=>match ti.kind with
  | .slice _=>true
  |_=>false
 |none=>false
def SQ (T:TT) (t:TypeId) (s x:V) (nf:Nat) (bs:List Blk) (K:Kt):Prop:=
 match J8 T t with
 |none=>False
 |some ti=>match ti.kind with
  | .slice e=>match J8 T e with
    |none=>False
    |some te=>X4 (Nat.ble te.bytes 65536&&Nat.blt 0 te.size) (match s,bs with
     | .d (.sl szx true xs),b0::bx=>JU x bx λsz ys=>
        X4 ((Nat.beq szx te.size||Nat.beq szx 0)&&(Nat.beq sz te.size||Nat.beq sz 0)) (MB (Chk ((xs=[]∨ys≠[])/\xs.length+ys.length<=room)
         (K (.sref nf 0 0 (xs.length+ys.length) false) (.row 0 te.size false (xs++ys)::bx)))
         (Chk (ys=[]) (K (.d (.sl szx true xs)) (b0::bx))))
     | .sref n ver lo len false,.row ver' sz' ro xs::bx=>match(Z7 x).all λm=> !(Nat.beq m n) with
       |true=>JU x bx λsz ys=>
        X4 (Nat.beq sz' te.size&&(Nat.beq sz te.size||Nat.beq sz 0)) (Chk (ver=ver'/\lo+len=xs.length/\len+ys.length<=room)
         (K (.sref n (ver+1) 0 (len+ys.length) false) (.row (ver+1) sz' ro (X1 xs lo++ys)::bx)))
       |false=>False
     | .sref _ ver lo len true,_:: .row ver' sz' ro xs::bx=>JU x bx λsz ys=>
        X4 (Nat.beq sz' te.size&&Nat.beq sz te.size) (Chk (ver=ver'/\lo+len<=xs.length/\ys≠[]/\len+ys.length<=room)
         (K (.sref nf 0 0 (len+ys.length) false) (.row 0 te.size false ((X1 xs lo).take len++ys):: .row ver' sz' ro xs::bx)))
     |_,_=>False)
  |_=>False
def A2n (T:TT) (t:TypeId):Bool:=match J8 T t with
 |some ti=>match ti.kind with
  | .int _=>true
  |_=>false
 |none=>false
def KU (T:TT) (t:TypeId) (s x:V) (nf:Nat) (bs:List Blk) (K:Kt):Prop:=
 match J8 T t with
 |none=>False
 |some ti=>match ti.kind with
  | .slice e=>match J8 T e with
    |none=>False
    |some te=>X4 (Nat.ble te.bytes 65536&&Nat.blt 0 te.size) (match s,x,bs with
     | .d (.sl _ true []),.d (.i .i64 n),[_]=>Chk (0<n/\n<=(room:Int)) (K (.sref nf 0 0 n.toNat false) [.row 0 te.size false []])
     |_,_,_=>False)
  |_=>False
def aCap (x:V) (K:V->Prop):Prop:=match x with
 | .d (.sl _ true xs)=>Nam xs.length λn=>K (.d (.i .i64 n))
 |_=>False
def B0s (te:TI) (v:V) (k:D->Prop):Prop:=
 match v with
 | .d x=>X4 (Nat.beq x.cells.length te.size) (k x)
 |_=>False
def oU (te:TI):List Nat->List V->Nat->(List D->Prop)->Prop
 |[],_,_,k=>k []
 |i::r,vs,j,k=>match vs with
  |[]=>False
  |v::vs=>match Nat.beq i j with
   |true=>B0s te v λy=>oU te r vs (j+1) λys=>k (y::ys)
   |false=>False
def uY (T:TT) (t:TypeId) (len:Nat) (is:List Nat) (vs:List V) (K:V->Prop):Prop:=
 match J8 T t with
 |none=>False
 |some ti=>match ti.kind with
  | .slice e=>match J8 T e with
    |none=>False
    |some te=>X4 (Nat.beq is.length len&&Nat.blt 0 te.size&&Nat.ble (len*te.size) 65536) (oU te is vs 0 λys=>K (.d (.sl te.size true ys)))
  |_=>False
def Q9 (te:TI):D:=match G8 te with
 |true=>.agg te.zero
 |false=>match te.zero with
  |[x]=>x
  |l=>.agg l
def uX (te:TI) (n c:Int) (nf:Nat) (K:Kt):Prop:=
 Chk (0<=n/\n<=c/\c<=(room:Int)) (K (.sref nf 0 0 n.toNat false) [.row 0 te.size false (List.replicate n.toNat (Q9 te))])
def yH (T:TT) (t:TypeId) (len cap:V) (nf:Nat) (K:Kt):Prop:=
 match J8 T t,len,cap with
 |some ti,.d (.i .i64 n),.d (.i .i64 c)=>match ti.kind with
  | .slice e=>match J8 T e with
    |none=>False
    |some te=>X4 (Nat.ble te.bytes 65536&&Nat.blt 0 te.size&&Nat.beq te.zero.length te.size&&(G8 te||Nat.beq te.size 1)) (match te.kind with
     | .slice _=>Alt (uX te n c nf K) (Chk (0<=n/\n=c/\c<=(room:Int)) (X4 (Nat.beq te.size 1) (K (.sref nf 1 0 n.toNat true) [.vard (List.replicate n.toNat (Q9 te))])))
     |_=>uX te n c nf K)
  |_=>False
 |_,_,_=>False
def EJ (x:Bool) (vs:List V) (k:Option Int->List V->Prop):Prop:=
 match x with
 |false=>k none vs
 |true=>match vs with
  | .d (.i _ n)::r=>k (some n) r
  |_=>False
def W6 (T:TT) (t:TypeId):Nat:=match J8 T t with
 |some ti=>match ti.kind with
  | .slice e=>match J8 T e with
    |some te=>te.size
    |none=>0
  |_=>0
 |none=>0
def A0u (T:TT) (t:TypeId):Option Nat:=match J8 T t with
 |some ti=>match ti.kind with
  | .arr n e=>match J8 T e with
    |some te=>match Nat.beq te.size 1 with
     |true=>some n
     |false=>none
    |none=>none
  |_=>none
 |none=>none
def slN (a:V):List Nat:=match a with
 | .sref n _ _ _ _=>[n]
 | .ptr n _ _ _=>[n]
 |_=>[]
def SI (T:TT) (t:TypeId) (x:V) (lo hi mx:Option Int) (bs:List Blk) (K:Kt):Prop:=
 match x,bs with
 | .d (.sl sz full xs),[]=>X4 (Nat.blt 0 (W6 T t)&&(Nat.beq sz (W6 T t)||Nat.beq sz 0)) (match lo,hi,mx with
   |none,none,none=>K (.d (.sl sz full xs)) []
   |none,some h,none=>match full with
    |true=>match xs with
     |[]=>Chk (h=0) (K (.d (.sl sz true [])) [])
     |xs=>Chk (0<=h/\h<=xs.length) (K (.d (.sl sz false (xs.take h.toNat))) [])
    |false=>Chk (0<=h/\h<=xs.length) (K (.d (.sl sz false (xs.take h.toNat))) [])
   |some l,none,none=>Chk (0<=l/\l<=xs.length) (K (.d (.sl sz full (xs.drop l.toNat))) [])
   |some l,some h,none=>Chk (0<=l/\l<=h/\h<=xs.length) (K (.d (.sl sz false ((xs.take h.toNat).drop l.toNat))) [])
   |none,some h,some m=>Chk (0<=h/\h=m/\h<=xs.length) (K (.d (.sl sz true (xs.take h.toNat))) [])
   |some l,some h,some m=>Chk (0<=l/\l<=h/\h=m/\h<=xs.length) (K (.d (.sl sz true ((xs.take h.toNat).drop l.toNat))) [])
   |_,none,some _=>False)
 | .d (.s b),[]=>X4 (stringTy' T t) (match lo,hi,mx with
   |none,none,none=>K (.d (.s b)) []
   |none,some h,none=>Chk (0<=h/\h<=b.size) (K (.d (.s (b.extract 0 h.toNat))) [])
   |some l,none,none=>Chk (0<=l/\l<=b.size) (K (.d (.s (b.extract l.toNat b.size))) [])
   |some l,some h,none=>Chk (0<=l/\l<=h/\h<=b.size) (K (.d (.s (b.extract l.toNat h.toNat))) [])
   |_,_,_=>False)
 | .sref n ver l0 len full,[.row ver' sz ro xs]=>X4 (Nat.blt 0 (W6 T t)&&Nat.beq sz (W6 T t)) (match lo,hi,mx with
   |none,none,none=>K (.sref n ver l0 len full) [.row ver' sz ro xs]
   |none,some h,none=>Chk (0<=h/\h<=len) (K (.sref n ver l0 h.toNat false) [.row ver' sz ro xs])
   |some l,none,none=>Chk (0<=l/\l<=len) (K (.sref n ver (l0+l.toNat) (len-l.toNat) full) [.row ver' sz ro xs])
   |some l,some h,none=>Chk (0<=l/\l<=h/\h<=len) (K (.sref n ver (l0+l.toNat) (h.toNat-l.toNat) false) [.row ver' sz ro xs])
   |none,some h,some m=>Chk (0<=h/\h=m/\h<=len) (K (.sref n ver l0 h.toNat true) [.row ver' sz ro xs])
   |some l,some h,some m=>Chk (0<=l/\l<=h/\h=m/\h<=len) (K (.sref n ver (l0+l.toNat) (h.toNat-l.toNat) true) [.row ver' sz ro xs])
   |_,none,some _=>False)
 | .ptr n _ _ o,[.vard cs]=>match A0u T t with
   |some N=>match lo,hi,mx with
    |none,none,none=>Chk (o+N<=cs.length) (K (.sref n 1 o N true) [.vard cs])
    |none,some h,none=>Chk (0<=h/\h<=N/\o+N<=cs.length) (K (.sref n 1 o h.toNat false) [.vard cs])
    |_,_,_=>False
   |none=>False
 | .sref _ _ _ _ _,[.vard cs]=>X4 (Nat.beq (W6 T t) 1) (match lo,hi,mx with
   |none,some h,some m=>Chk (h=0/\m=0) (K (.d (.sl 1 true [])) [.vard cs])
   |_,_,_=>False)
 |_,_=>False
where stringTy' (T:TT) (t:TypeId):Bool:=match J8 T t with
 |some ti=>match ti.kind with
  | .string=>true
  |_=>false
 |none=>false
def nO (T:TT) (kt:TypeId) (k:D):Bool:=V1 T 4 kt k.cells&&(match k with
 | .agg _=>KK T kt
 |_=> !KK T kt)
def cY (T:TT) (kt:TypeId) (k:D):List (D×D)->Option D
 |[]=>none
 |(k',x)::r=>if eqD T 4 kt k.cells k'.cells then some x else cY T kt k r
def nJ (T:TT) (kt:TypeId) (k x:D):List (D×D)->List (D×D)
 |[]=>[(k,x)]
 |(k',y)::r=>if eqD T 4 kt k.cells k'.cells then(k,x)::r else(k',y)::nJ T kt k x r
def SK (T:TT) (t:TypeId) (k:V) (ok:Bool) (bs:List Blk) (K:Kt):Prop:=
 match J8 T t,k,bs with
 |some ti,.d key,[.map T' kt' es]=>match ti.kind with
  | .map kt et=>match J8 T et with
    |none=>False
    |some te=>X4 (nO T kt key&&Nat.beq kt kt'&&Nat.beq te.zero.length te.size&&(G8 te||Nat.beq te.size 1)) (Chk (T'=T) (match ok with
     |true=>Nam ((cY T kt key es).getD (Q9 te)) λx=>Nam (cY T kt key es).isSome λy=>K (.tup [.d x,.d (.b y)]) [.map T' kt' es]
     |false=>Nam ((cY T kt key es).getD (Q9 te)) λx=>K (.d x) [.map T' kt' es]))
  |_=>False
 |_,_,_=>False
def rY (T:TT) (t:TypeId) (k x:V) (bs:List Blk) (K:Kt):Prop:=
 match J8 T t,k,x,bs with
 |some ti,.d key,.d val,[.map T' kt' es]=>match ti.kind with
  | .map kt _=>X4 (nO T kt key&&Nat.beq kt kt') (Chk (T'=T) (K .u [.map T' kt' (nJ T kt key val es)]))
  |_=>False
 |_,_,_,_=>False
def B2j (T:TT) (t:TypeId) (dst src:V) (bs:List Blk) (K:Kt):Prop:=
 match dst,src,bs with
 | .sref _ _ lo len _,.d (.sl sz _ ys),[.vard cs]=>X4 (Nat.beq (W6 T t) 1&&(Nat.beq sz 1||Nat.beq sz 0)) (Chk (lo+len<=cs.length/\ys.length<=len)
   (Nam (cs.take lo++ys.flatMap D.cells++cs.drop (lo+ys.length)) λcs'=>K (.d (.i .i64 ys.length)) [.vard cs']))
 | .sref _ ver lo len _,.d (.sl sz _ ys),[.row ver' sz' ro xs]=>match ro with
   |true=>False
   |false=>X4 (Nat.blt 0 (W6 T t)&&Nat.beq sz' (W6 T t)&&(Nat.beq sz sz'||Nat.beq sz 0)) (Chk (ver=ver'/\lo+len<=xs.length/\ys.length<=len)
    (Nam (xs.take lo++ys++xs.drop (lo+ys.length)) λxs'=>K (.d (.i .i64 ys.length)) [.row ver' sz' false xs']))
 |_,_,_=>False
def CF (v:V) (K:V->Prop):Prop:=
 match v with
 | .ptr n ver e o=>K (.ptr n ver e o)
 | .rp cs o=>K (.rp cs o)
 | .fn f cap=>K (.fn f cap)
 | .d (.k (.func (.func g) a b))=>K (.d (.k (.func (.func g) a b)))
 |_=>False
def KP (v:V) (i:Nat) (K:V->Prop):Prop:=
 match v with
 | .tup cs=>dV cs i K
 |_=>False
def uT:List D->Option (List UInt8)
 |[]=>some []
 | .i .u8 n::r=>match uT r with
   |some l=>some (UInt8.ofNat n.toNat::l)
   |none=>none
 |_=>none
def BZ (T:TT) (t:TypeId):Bool:=match J8 T t with
 |some ti=>match ti.kind with
  | .slice e=>match J8 T e with
    |some te=>match te.kind with
     | .int .u8=>true
     |_=>false
    |none=>false
  |_=>false
 |none=>false
def KS (T:TT) (src dst:TypeId) (v:V) (K:V->Prop):Prop:=
 match J8 T dst,v with
 |some ti,.d (.sl _ _ xs)=>match ti.kind with
  | .string=>X4 (BZ T src) (Nam (uT xs) λo=>match o with
    |some l=>K (.d (.s ⟨l.toArray⟩))
    |none=>False)
  |_=>False
 |some ti,.d (.i _ n)=>match ti.kind with
  | .int k=>Wr k n λn=>K (.d (.i k n))
  |_=>False
 |some ti,.d (.s x)=>match ti.kind with
  | .string=>K (.d (.s x))
  |_=>False
 |_,_=>False
def aMM (mx:Bool) (k:IntKind):Int->List V->(V->Prop)->Prop
 |x,[],K=>K (.d (.i k x))
 |x,.d (.i _ y)::r,K=>match mx with
  |true=>aMM mx k (if y>x then y else x) r K
  |false=>aMM mx k (if y<x then y else x) r K
 |_,_,_=>False
def FM (mx:Bool) (l:List V) (K:V->Prop):Prop:=
 match l with
 | .d (.i k x)::r=>aMM mx k x r K
 |_=>False
def A1e (v ix:V) (K:V->Prop):Prop:=
 match v,ix with
 | .d (.s b),.d (.i _ n)=>Chk (0<=n) (dV b.data.toList n.toNat λx=>K (.d (.i .u8 x.toNat)))
 |_,_=>False
def QZ (T:TT) (t:TypeId):Bool:=match J8 T t with
 |some _=>true
 |none=>false
def CI (T:TT) (t:TypeId) (v ix:V) (K:V->Prop):Prop:=
 match J8 T t,v,ix with
 |some ti,.d (.agg cs),.d (.i _ n)=>match ti.kind with
  | .arr len e=>match J8 T e with
    |some te=>X4 (!G8 te&&Nat.beq te.size 1) (Chk (0<=n/\n<len) (dV cs n.toNat λx=>K (.d x)))
    |none=>False
  |_=>False
 |_,_,_=>False
def pJ (T:TT) (t:TypeId):Bool:=match J8 T t with
 |some ti=>match ti.kind with
  | .string=>true
  |_=>false
 |none=>false
def VN (T:TT) (t:TypeId) (v:V):Bool:=match J8 T t with
 |some ti=>match ti.kind,v with
  | .slice _,.d (.sl _ _ _)=>true
  | .slice _,.sref _ _ _ _ _=>true
  | .string,.d (.s _)=>true
  | .map _ _,.map _=>true
  |_,_=>false
 |none=>false
def B1h (T:TT) (t:TypeId):Bool:=match J8 T t with
 |some ti=>match ti.kind with
  | .other=>false
  |_=>true
 |none=>false
def A1f (T:TT) (xt:TypeId) (v:V) (K:V->Prop):Prop:=
 match v with
 | .d x=>X4 (B1h T xt) (K (.d (.any xt x)))
 |_=>False
def F9:Op->List Operand
 | .move x=>[x]
 | .assign x=>[x]
 | .pick c a b=>[c,a,b]
 | .alloc _=>[]
 | .box _ x=>[x]
 | .build _ parts=>parts.toList.map (·.2)
 | .buildSlice _ _ parts=>parts.toList.map (·.2)
 | .load _ a=>[a]
 | .store _ a x=>[a,x]
 | .binOp _ _ x y _=>[x,y]
 | .unOp _ _ x=>[x]
 | .convert _ _ x=>[x]
 | .makeFunc _ first captured=>first.toList++captured.toList
 | .makeMap _ _=>[]
 | .makeSlice _ l c=>[l,c]
 | .slice _ x lo hi mx=>x::(lo.toList++(hi.toList++mx.toList))
 | .fieldAddr _ x _=>[x]
 | .field _ x _=>[x]
 | .indexAddr _ x i=>[x,i]
 | .index _ x i=>[x,i]
 | .lookup _ m k _=>[m,k]
 | .mapUpdate _ m k x=>[m,k,x]
 | .insert _ m k x=>[m,k,x]
 | .mapEntry _ m k=>[m,k]
 | .entryStore _ m st x=>[m,st,x]
 | .extract x _=>[x]
 | .nilCheck x=>[x]
 | .makeInterface _ x=>[x]
 | .typeAssert x _ _ _=>[x]
 | .call c=>c.args.toList
 |_=>[]
def opN (op:Op) (vs:List V) (nf:Nat):List Nat:=
 match op,vs with
 | .load _ _,[a]=>fB a
 | .store _ _ _,[a,_]=>fB a
 | .alloc _,_=>[nf]
 | .box _ _,_=>[nf]
 | .makeMap _ _,_=>[nf]
 | .makeSlice _ _ _,_=>[nf]
 | .indexAddr _ _ _,[x,_]=>zU x
 | .slice _ _ _ _ _,x::_=>slN x
 | .lookup _ _ _ _,[m,_]=>oB m
 | .mapUpdate _ _ _ _,[m,_,_]=>oB m
 | .insert _ _ _ _,[m,_,_]=>oB m
 | .mapEntry _ _ _,[m,_]=>oB m
 | .entryStore _ _ _ _,[m,_,_]=>oB m
 | .call c,vs=>match c.callee,vs with
   | .builtin .len,[x]=>oB x
   | .builtin .append,[s,x]=>dA s x nf
   | .builtin .delete,[m,_]=>oB m
   | .builtin .copy,[m,_]=>zU m
   |_,_=>[]
 |_,_=>[]
def UW:Op->Bool
 | .alloc _=>true
 | .box _ _=>true
 | .makeMap _ _=>true
 | .makeSlice _ _ _=>true
 | .range _ _=>true
 | .call c=>match c.callee with
   | .builtin .append=>true
   |_=>false
 |_=>false
def EK:Op->Bool
 | .store _ _ _=>false
 | .alloc _=>false
 | .box _ _=>false
 | .makeMap _ _=>false
 | .makeSlice _ _ _=>false
 | .mapUpdate _ _ _ _=>false
 | .insert _ _ _ _=>false
 | .mapEntry _ _ _=>false
 | .entryStore _ _ _ _=>false
 | .call c=>match c.callee with
   | .builtin .append=>false
   | .builtin .delete=>false
   | .builtin .copy=>false
   |_=>true
 |_=>true
def aOp (T:TT) (op:Op) (vs:List V) (nf:Nat) (bs:List Blk) (K:Kt):Prop:=
 match op,vs with
 | .move _,[x]=>K x bs
 | .assign _,[x]=>K x bs
 | .pick _ _ _,[c,a,b]=>match c with
   | .d (.b x)=>br x (K a bs) (K b bs)
   |_=>False
 | .alloc t,_=>zeroV T t λ_ z=>K (.ptr nf 0 0 0) [.vard z]
 | .box _ _,[x]=>A9l x λb=>K (.ptr nf 0 0 0) [b]
 | .build t parts,vs=>A1i T t (ixs parts.toList) vs λv=>K v bs
 | .buildSlice t len parts,vs=>uY T t len (ixs parts.toList) vs λv=>K v bs
 | .load t _,[a]=>OU T t a bs K
 | .store t _ _,[a,x]=>A1b T t a x bs K
 | .binOp op t _ _ _,[x,y]=>aBin T op t x y λv=>K v bs
 | .unOp op _ _,[x]=>aUn op x λv=>K v bs
 | .convert src dst _,[x]=>X4 (QZ T src) (KS T src dst x λv=>K v bs)
 | .makeFunc fn first cap,vs=>match fn,first.toList with
   | .func f,[]=>K (.fn f vs) bs
   | .func f,_::_=>match cap.toList with
     |[]=>A0z vs (λds=>K (.d (.cl f ds [])) bs) False
     |_::_=>False
   |_,_=>False
 | .makeMap t none,_=>match J8 T t with
   |some ti=>match ti.kind with
    | .map kt _=>K (.map nf) [.map T kt []]
    |_=>False
   |none=>False
 | .makeSlice t _ _,[l,c]=>yH T t l c nf K
 | .slice t _ lo hi mx,x::r=>EJ lo.isSome r λl r=>EJ hi.isSome r λh r=>EJ mx.isSome r λm _=>SI T t x l h m bs K
 | .fieldAddr t _ f,[x]=>yJ T t x f λv=>K v bs
 | .field t _ f,[x]=>A1g T t x f λv=>K v bs
 | .indexAddr t _ _,[x,i]=>yI T t x i bs K
 | .index t _ _,[x,i]=>match pJ T t with
   |true=>A1e x i λv=>K v bs
   |false=>CI T t x i λv=>K v bs
 | .lookup t _ _ ok,[_,k]=>SK T t k ok bs K
 | .mapUpdate t _ _ _,[_,k,x]=>rY T t k x bs K
 | .insert t _ _ _,[_,k,x]=>rY T t k x bs K
 | .extract _ i,[x]=>KP x i λv=>K v bs
 | .nilCheck _,[x]=>CF x λv=>K v bs
 | .makeInterface t _,[x]=>A1f T t x λv=>K v bs
 | .call c,vs=>match c.callee,vs,c.argTypes.toList with
   | .builtin .len,[x],[t]=>X4 (VN T t x) (aLen x bs K)
   | .builtin .append,[s,x],[t,t2]=>match vH T t2||pJ T t2 with
     |true=>SQ T t s x nf bs K
     |false=>X4 (A2n T t2) (KU T t s x nf bs K)
   | .builtin .cap,[x],[t]=>X4 (vH T t) (aCap x λv=>K v bs)
   | .builtin .max,xs,_=>FM true xs λv=>K v bs
   | .builtin .min,xs,_=>FM false xs λv=>K v bs
   | .builtin .copy,[d,s],[t,_]=>B2j T t d s bs K
   |_,_,_=>False
 |_,_=>False
end Go.PM
namespace Go.PM
variable [CN]
inductive Ex where
 |normal
 |exit (id:Nat)
 |ret
structure Env where
 T:TT
 N:Nat
 weak:Tm->Hp->(Tm->Hp->Prop)->Prop
 call:FuncId->List V->Hp->(V->Hp->Prop)->Prop
 yld:Nat->List V->Hp->(V->Hp->Prop)->Prop
 pcall:FuncId->List V->Hp->(Res->Prop)->Prop
 loop:Code->Tm->Hp->(Ex->Tm->Hp->Prop)->Prop
 range:Operand->List Tmp->Code->Code->Tm->Hp->(Ex->Tm->Hp->Prop)->Prop
def zW (h:Hp):List Nat->(List Blk->Prop)->Prop
 |[],k=>k []
 |n::ns,k=>dV h n λb=>zW h ns λbs=>k (b::bs)
def wZ:Hp->List Nat->List Blk->(Hp->Prop)->Prop
 |h,[],_,k=>k h
 |h,n::ns,bs,k=>match bs with
  |[]=>k h
  |b::bs=>iI h n b λh'=>wZ h' ns bs k
def resL:Nat->(List Blk->Prop)->Prop
 |0,k=>k []
 |n+1,k=>resL n λl=>k (.res::l)
def ER:Hp->List Blk->(Hp->Prop)->Prop
 |[],ys,k=>k ys
 |b::h,ys,k=>ER h ys λh'=>k (b::h')
def padK (h:Hp) (n:Nat) (k:Hp->Prop):Prop:=resL n λl=>ER h l k
def cT (n:Nat) (h:Hp) (k:Nat->Hp->Prop):Prop:=match n with
 |0=>k 0 h
 |n+1=>lenOfK h λnf=>padK h (n+1) λh=>k nf h
where lenOfK:Hp->(Nat->Prop)->Prop
 |[],k=>k 0
 |_::h,k=>lenOfK h λn=>k (n+1)
def D.flat:D->Bool
 | .agg _=>false
 |_=>true
def uI (v:V) (h:Hp) (k:D->Hp->Prop):Prop:=
 match v with
 | .d x=>k x h
 | .sref n ver lo len full=>dV h n λb=>match b with
   | .row ver' sz _ xs=>Chk (ver=ver'/\lo+len<=xs.length) (Nam ((xs.drop lo).take len) λys=>iI h n (.row ver' sz true xs) λh'=>k (.sl sz full ys) h')
   | .vard xs=>Chk (ver=1/\lo+len<=xs.length) (Nam ((xs.drop lo).take len) λys=>iI h n (.row 1 1 true xs) λh'=>k (.sl 1 full ys) h')
   |_=>False
 | .fn f cap=>match cap with
   |[]=>k (.k (.func (.func f) #[] #[])) h
   |_=>False
 |_=>False
def ZO:List V->Hp->(List D->Hp->Prop)->Prop
 |[],h,k=>k [] h
 |v::r,h,k=>uI v h λd h=>X4 d.flat (ZO r h λds h=>k (d::ds) h)
def DD (v:V) (h:Hp) (k:D->Hp->Prop):Prop:=
 match v with
 | .agg cs=>ZO cs h λds h=>k (.agg ds) h
 |v=>uI v h k
def zP:List V->Hp->(List D->Hp->Prop)->Prop
 |[],h,k=>k [] h
 |v::r,h,k=>DD v h λd h=>zP r h λds h=>k (d::ds) h
def O3:List V->Hp->(List V->Hp->Prop)->Prop
 |[],h,k=>k [] h
 |v::r,h,k=>match v with
  | .sref _ _ _ _ _=>DD v h λd h=>O3 r h λds h=>k (.d d::ds) h
  | .agg _=>DD v h λd h=>O3 r h λds h=>k (.d d::ds) h
  | .fn f cap=>match cap with
    |[]=>O3 r h λds h=>k (.d (.k (.func (.func f) #[] #[]))::ds) h
    |_=>O3 r h λds h=>k (v::ds) h
  |v=>O3 r h λds h=>k (v::ds) h
structure AM (p:Option Addr) (h:Hp) (k:V->Prop):Prop where
 wrap::
 holds:∃(n i a:Nat) (vs:List (Nat×List D)) (cs:List D),p=some ⟨a,0,none⟩/\h[n]? =some (.ar vs)/\vs[i]? =some (a,cs)/\k (.ptr n 0 i 0)
def vT (op:Op) (vs:List V) (h:Hp) (k:List V->Hp->Prop):Prop:=match op with
 | .buildSlice _ _ _=>O3 vs h k
 | .mapUpdate _ _ _ _=>O3 vs h k
 | .makeInterface _ _=>O3 vs h k
 | .insert _ _ _ _=>O3 vs h k
 | .convert _ _ _=>O3 vs h k
 | .store _ _ _=>match vs with
   | .ptr n _ _ _::_=>dV h n λb=>match b with
     | .row _ _ _ _=>O3 vs h k
     |_=>k vs h
   |_=>k vs h
 | .nilCheck _=>match vs with
   |[.d (.k (.pointer p))]=>AM p h λx=>k [x] h
   |_=>k vs h
 |_=>k vs h
def RC:List Oper->Bool
 |[]=>false
 |o::l=>match o.op with
  | .call {callee:=.value _,..}=>true
  | .buildSlice _ n _=>match n with
    |0=>RC l
    |_=>true
  | .mapUpdate _ _ _ _=>true
  | .makeInterface _ _=>true
  |_=>RC l
structure qP (W:Tm->Hp->(Tm->Hp->Prop)->Prop) (ts:Tm) (h:Hp) (k k2:Tm->Hp->Prop):Prop where
 wrap::
 holds:∃F,W ts h F/\((∀ts' h',F ts' h'->k ts' h')∨∀ts' h',F ts' h'->k2 ts' h')
def UX:List Oper->Nat->Option Oper
 |[],_=>none
 |o::_,0=>some o
 |_::l,n+1=>UX l n
def BJ (all:List Oper) (ts:Tm) (g:Option (Nat×Bool)) (yes no:Prop):Prop:=
 match g with
 |none=>yes
 |some (j,want)=>match UX all j with
  |none=>False
  |some o=>match o.dst with
   |none=>False
   |some t=>IM ts t λv=>match v with
    | .d (.b x)=>match want with
      |true=>br x yes no
      |false=>br x no yes
    | .tup l=>match l with
      |[]=>no
      |_=>False
    |_=>False
def B4a (op:Op):Bool:=match op with
 | .call {callee:=.value _,..}=>true
 |_=>false
def A9a (dr:Bool) (op:Op):Bool:=match UW op with
 |true=>true
 |false=>match dr with
  |false=>false
  |true=>B4a op
def V0 (dr:Bool):List Oper->Nat
 |[]=>0
 |o::l=>match A9a dr o.op with
  |true=>V0 dr l+1
  |false=>V0 dr l
def nfK (dr:Bool) (op:Op) (nf:Nat) (k:Nat->Prop):Prop:=match A9a dr op with
 |true=>k (nf+1)
 |false=>k nf
def fU (N:Nat) (ts:Tm) (d:Option Tmp) (v:V) (k:Tm->Prop):Prop:=match d with
 |none=>k ts
 |some d=>match Nat.ble (d+1) N with
  |true=>k ((d,v)::ts)
  |false=>False
def wB (E:Env) (ts:Tm) (f:Operand) (vs:List V) (h:Hp) (k:V->Hp->Prop):Prop:=
 evK ts f λg=>match g with
  | .fn g cap=>appV vs cap λargs=>E.call g args h k
  | .yld n=>E.yld n vs h k
  | .d (.k v)=>match v with
    | .func (.func g) a b=>match a.toList,b.toList with
      |[],[]=>E.call g vs h k
      |_,_=>False
    |_=>False
  | .d (.cl g fs cs)=>appV (fs.map .d) (vs++cs.map capV) λargs=>E.call g args h k
  |_=>False
where
 capV:D->V
  | .pt cs=>.rp cs 0
  |x=>.d x
 appV:List V->List V->(List V->Prop)->Prop
  |[],ys,k=>k ys
  |x::xs,ys,k=>appV xs ys λl=>k (x::l)
def A8h (op:Op) (ns:List Nat) (nf:Nat) (bs:List Blk):Bool:=match UW op,ns,bs with
 |true,m::_,b::_=>match Nat.beq m nf with
  |true=>match b with
   | .res=>true
   |_=>false
  |false=>true
 |_,_,_=>true
def sE (E:Env) (op:Op) (vs:List V) (nf:Nat) (h:Hp) (k:V->Hp->Prop):Prop:=
 zW h (opN op vs nf) λbs=>X4 (A8h op (opN op vs nf) nf bs) (aOp E.T op vs nf bs λv bs'=>wZ h (opN op vs nf) bs' λh'=>k v h')
structure MA (p:Prop) (K:Bool->Prop):Prop where
 wrap::
 holds:(p->K true)/\K false
def ZG (op:Op):Option (TypeId×Operand×Bool):=match op with
 | .binOp .eql t x (.const (.slice none 0 0)) _=>some (t,x,true)
 | .binOp .neq t x (.const (.slice none 0 0)) _=>some (t,x,false)
 |_=>none
def nilK (T:TT) (t:TypeId) (v:V) (e:Bool) (h:Hp) (k:Bool->Prop):Prop:=match J8 T t with
 |some ti=>match ti.kind with
  | .slice _=>match v with
    | .d (.sl _ _ xs)=>MA (xs=[]) λr=>k (r==e)
    | .sref n _ _ len _=>dV h n λb=>match b with
      | .vard _=>MA (len=0) λr=>k (r==e)
      |_=>False
    |_=>False
  |_=>False
 |none=>False
def V.flat:V->Bool
 | .u=>false
 | .d x=>x.flat
 | .agg _=>false
 | .tup _=>false
 |_=>true
def RB:List V->Bool
 |[]=>false
 |v::r=>match v with
  | .fn _ cap=>match cap with
    |[]=>RB r
    |_::_=>true
  |_=>RB r
def B2q:List Nat->Nat->Bool
 |[],_=>true
 |i::r,j=>Nat.beq i j&&B2q r (j+1)
def wA (T:TT) (t:TypeId) (len:Nat) (is:List Nat) (vs:List V) (h:Hp) (k:V->Hp->Prop):Prop:=match J8 T t with
 |none=>False
 |some ti=>match ti.kind with
  | .slice e=>match J8 T e with
    |none=>False
    |some te=>X4 (Nat.beq is.length len&&Nat.beq te.size 1&&Nat.blt 0 len&&Nat.ble len 65536&&B2q is 0&&vs.all V.flat&&Nat.beq vs.length len) (cT.lenOfK h λm=>ER h [.var vs] λh'=>k (.sref m 1 0 len true) h')
  |_=>False
def dY (E:Env) (all l:List Oper):Nat->Tm->Hp->(Tm->Hp->Prop)->Prop:=
 List.rec (motive:=λ_=>Nat->Tm->Hp->(Tm->Hp->Prop)->Prop) (λ_ ts h k=>k ts h)
  (λo _ ih nf ts h k=>nfK false o.op nf λnf'=>BJ all ts o.guard
    (match ZG o.op with
    |some (t,x,e)=>evK ts x λv=>nilK E.T t v e h λq=>fU E.N ts o.dst (.d (.b q)) λts'=>ih nf' ts' h k
    |none=>RM ts (F9 o.op) λvs=>match o.op with
     | .call {callee:=.value f,..}=>wB E ts f vs h λv h'=>fU E.N ts o.dst v λts'=>ih nf' ts' h' k
     | .buildSlice t n parts=>match RB vs with
       |true=>wA E.T t n (ixs parts.toList) vs h λv h'=>fU E.N ts o.dst v λts'=>ih nf' ts' h' k
       |false=>vT (.buildSlice t n parts) vs h λvs h=>sE E (.buildSlice t n parts) vs nf h λv h'=>fU E.N ts o.dst v λts'=>ih nf' ts' h' k
     |op=>vT op vs h λvs h=>sE E op vs nf h λv h'=>fU E.N ts o.dst v λts'=>ih nf' ts' h' k)
    (fU E.N ts o.dst (.tup []) λts'=>ih nf' ts' h k)) l
theorem A0a (E:Env) (all:List Oper) (o:Oper) (r:List Oper) (nf:Nat) (ts:Tm) (h:Hp) (k:Tm->Hp->Prop):dY E all (o::r) nf ts h k=nfK false o.op nf λnf'=>BJ all ts o.guard
 (match ZG o.op with
 |some (t,x,e)=>evK ts x λv=>nilK E.T t v e h λq=>fU E.N ts o.dst (.d (.b q)) λts'=>dY E all r nf' ts' h k
 |none=>RM ts (F9 o.op) λvs=>match o.op with
  | .call {callee:=.value f,..}=>wB E ts f vs h λv h'=>fU E.N ts o.dst v λts'=>dY E all r nf' ts' h' k
  | .buildSlice t n parts=>match RB vs with
    |true=>wA E.T t n (ixs parts.toList) vs h λv h'=>fU E.N ts o.dst v λts'=>dY E all r nf' ts' h' k
    |false=>vT (.buildSlice t n parts) vs h λvs h=>sE E (.buildSlice t n parts) vs nf h λv h'=>fU E.N ts o.dst v λts'=>dY E all r nf' ts' h' k
  |op=>vT op vs h λvs h=>sE E op vs nf h λv h'=>fU E.N ts o.dst v λts'=>dY E all r nf' ts' h' k)
 (fU E.N ts o.dst (.tup []) λts'=>dY E all r nf' ts' h k):=rfl
abbrev Fp:=List (List Nat×Bool)
def tY (xs ys:List Nat):Bool:=xs.all λx=>ys.all λy=> !(Nat.beq x y)
def FH (a b:List Nat×Bool):Bool:=(a.2&&b.2)||tY a.1 b.1
def waits (o:Oper) (i:Nat):Bool:=o.after.toList.any λe=>Region.binds .any e&&Nat.beq e.on i
def uV (o:Oper) (i:Nat):Bool:=o.after.toList.all λe=> !Region.binds .any e||Nat.blt e.on i
def aK (op:Op):List Operand:=match op with
 | .call {callee:=.value f,args:=args,..}=>f::args.toList
 |op=>F9 op
def tmpsOf:List Operand->List Nat
 |[]=>[]
 | .tmp t::r=>t::tmpsOf r
 |_::r=>tmpsOf r
def pW (all:List Oper) (o:Oper):List Nat:=match o.guard with
 |none=>[]
 |some (j,_)=>match UX all j with
  |some g=>match g.dst with
   |some t=>[t]
   |none=>[]
  |none=>[]
def WN (o:Oper):List Nat:=match o.dst with
 |some d=>[d]
 |none=>[]
def yQ (all:List Oper) (a b:Oper):Bool:=
 tY (WN a) (tmpsOf (aK b.op))&&tY (WN a) (pW all b)&&tY (WN b) (tmpsOf (aK a.op))&&tY (WN b) (pW all a)&&tY (WN a) (WN b)
def dN (all:List Oper):Nat->Oper->Nat->Bool
 |0,o,i=>waits o i
 |n+1,o,i=>waits o i||o.after.toList.any λe=>Region.binds .any e&&match UX all e.on with
  |some q=>dN all n q i
  |none=>false
def vU (all:List Oper) (i:Nat) (o:Oper) (f:List Nat×Bool):List Oper->Fp->Bool
 |p::l,g::fs=>(waits p i||(FH f g&&yQ all o p)||(dN all 2 p i||dN all 5 p i))&&vU all i o f l fs
 |_,_=>true
def pT (all:List Oper):Nat->List Oper->Fp->Bool
 |i,o::l,f::fs=>uV o i&&vU all i o f l fs&&pT all (i+1) l fs
 |_,_,_=>true
def fnK (v:V) (vs:List V) (k:FuncId->List V->Prop):Prop:=match v with
 | .fn g cap=>wB.appV vs cap λargs=>k g args
 | .d (.k v)=>match v with
   | .func (.func g) a b=>match a.toList,b.toList with
     |[],[]=>k g vs
     |_,_=>False
   |_=>False
 |_=>False
def AA (E:Env) (op:Op) (vs:List V) (nf:Nat) (h:Hp) (k:List Nat->Bool->V->Hp->Prop):Prop:=match op,vs with
 | .store t a x,[.ptr pn pv pe po,.sref m ver lo len full]=>dV h pn λtb=>match tb with
   | .row _ _ _ _=>X4 (!(Nat.beq m pn)) (dV h m λb=>match b with
     | .row ver' sz _ xs=>Chk (ver=ver'/\lo+len<=xs.length) (Nam ((xs.drop lo).take len) λys=>iI h m (.row ver' sz true xs) λh1=>
        sE E (.store t a x) [.ptr pn pv pe po,.d (.sl sz full ys)] nf h1 λv h'=>k [m,pn] false v h')
     |_=>False)
   |_=>sE E (.store t a x) [.ptr pn pv pe po,.sref m ver lo len full] nf h λv h'=>k (opN (.store t a x) [.ptr pn pv pe po,.sref m ver lo len full] nf) (EK (.store t a x)) v h'
 | .call {callee:=.builtin .copy,args:=qs,argTypes:=ats},[.sref pn pv plo pl pf,.sref m ver lo len full]=>X4 (!(Nat.beq m pn)) (dV h m λb=>match b with
    | .row ver' sz _ xs=>Chk (ver=ver'/\lo+len<=xs.length) (Nam ((xs.drop lo).take len) λys=>iI h m (.row ver' sz true xs) λh1=>
       sE E (.call {callee:=.builtin .copy,args:=qs,argTypes:=ats}) [.sref pn pv plo pl pf,.d (.sl sz full ys)] nf h1 λv h'=>k [m,pn] false v h')
    |_=>False)
 |op,vs=>sE E op vs nf h λv h'=>k (opN op vs nf) (EK op) v h'
def tC (E:Env) (all l:List Oper):Nat->Tm->Hp->(Fp->Tm->Hp->Prop)->Prop:=
 List.rec (motive:=λ_=>Nat->Tm->Hp->(Fp->Tm->Hp->Prop)->Prop) (λ_ ts h k=>k [] ts h)
  (λo _ ih nf ts h k=>nfK true o.op nf λnf'=>BJ all ts o.guard
    (RM ts (F9 o.op) λvs=>match o.op with
     | .call {callee:=.value f,..}=>evK ts f λg=>fnK g vs λg args=>E.pcall g args h λx=>match x with
        | .d v=>fU E.N ts o.dst v λts'=>ih nf' ts' h λfs=>k (([],true)::fs)
        | .row sz ys=>dV h nf λb=>match b with
          | .res=>iI h nf (.row 0 sz false ys) λh'=>fU E.N ts o.dst (.sref nf 0 0 ys.length false) λts'=>ih nf' ts' h' λfs=>k (([nf],false)::fs)
          |_=>False
        | .map T' kt es=>dV h nf λb=>match b with
          | .res=>iI h nf (.map T' kt es) λh'=>fU E.N ts o.dst (.map nf) λts'=>ih nf' ts' h' λfs=>k (([nf],false)::fs)
          |_=>False
        | .fix m v=>dV h m λb=>match b with
          | .row ver sz _ xs=>iI h m (.row ver sz true xs) λh'=>fU E.N ts o.dst v λts'=>ih nf' ts' h' λfs=>k (([m],false)::fs)
          |_=>False
        | .keep ns v=>zW h ns λbs=>wZ h ns bs λh'=>fU E.N ts o.dst v λts'=>ih nf' ts' h' λfs=>k ((ns,true)::fs)
        | .upd ns bs' v=>zW h ns λ_=>wZ h ns bs' λh'=>fU E.N ts o.dst v λts'=>ih nf' ts' h' λfs=>k ((ns,false)::fs)
     |op=>AA E op vs nf h λns st v h'=>fU E.N ts o.dst v λts'=>ih nf' ts' h' λfs=>k ((ns,st)::fs))
    (fU E.N ts o.dst (.tup []) λts'=>ih nf' ts' h λfs=>k (([],true)::fs))) l
theorem A5g (E:Env) (all:List Oper) (o:Oper) (r:List Oper) (nf:Nat) (ts:Tm) (h:Hp) (k:Fp->Tm->Hp->Prop):tC E all (o::r) nf ts h k=nfK true o.op nf λnf'=>BJ all ts o.guard
 (RM ts (F9 o.op) λvs=>match o.op with
  | .call {callee:=.value f,..}=>evK ts f λg=>fnK g vs λg args=>E.pcall g args h λx=>match x with
     | .d v=>fU E.N ts o.dst v λts'=>tC E all r nf' ts' h λfs=>k (([],true)::fs)
     | .row sz ys=>dV h nf λb=>match b with
       | .res=>iI h nf (.row 0 sz false ys) λh'=>fU E.N ts o.dst (.sref nf 0 0 ys.length false) λts'=>tC E all r nf' ts' h' λfs=>k (([nf],false)::fs)
       |_=>False
     | .map T' kt es=>dV h nf λb=>match b with
       | .res=>iI h nf (.map T' kt es) λh'=>fU E.N ts o.dst (.map nf) λts'=>tC E all r nf' ts' h' λfs=>k (([nf],false)::fs)
       |_=>False
     | .fix m v=>dV h m λb=>match b with
       | .row ver sz _ xs=>iI h m (.row ver sz true xs) λh'=>fU E.N ts o.dst v λts'=>tC E all r nf' ts' h' λfs=>k (([m],false)::fs)
       |_=>False
     | .keep ns v=>zW h ns λbs=>wZ h ns bs λh'=>fU E.N ts o.dst v λts'=>tC E all r nf' ts' h' λfs=>k ((ns,true)::fs)
     | .upd ns bs' v=>zW h ns λ_=>wZ h ns bs' λh'=>fU E.N ts o.dst v λts'=>tC E all r nf' ts' h' λfs=>k ((ns,false)::fs)
  |op=>AA E op vs nf h λns st v h'=>fU E.N ts o.dst v λts'=>tC E all r nf' ts' h' λfs=>k ((ns,st)::fs))
 (fU E.N ts o.dst (.tup []) λts'=>tC E all r nf' ts' h λfs=>k (([],true)::fs)):=rfl
def seqK (b:Tm->Hp->(Ex->Tm->Hp->Prop)->Prop) (k:Ex->Tm->Hp->Prop):Ex->Tm->Hp->Prop
 | .normal,ts,h=>b ts h k
 |e,ts,h=>k e ts h
def B1r (id:Nat) (k:Ex->Tm->Hp->Prop):Ex->Tm->Hp->Prop
 | .exit j,ts,h=>match Nat.beq j id with
   |true=>k .normal ts h
   |false=>k (.exit j) ts h
 |e,ts,h=>k e ts h
def IV:List Oper->List Oper
 |[]=>[]
 |o::r=>match r with
  |[]=>[o]
  |_::_=>IV r
def oM:List Oper->List Oper
 |[]=>[]
 |o::r=>match r with
  |[]=>[]
  |_::_=>o::oM r
def yO (all:List Oper) (o:Oper):Nat->Bool
 |0=>true
 |i+1=>dN all 5 o i&&yO all o i
def FY (all:List Oper):Bool:=match IV all with
 |[]=>false
 |o::_=>yO all o (oM all).length&&uV o (oM all).length
def JQ (E:Env) (ops:Array Oper) (d:Bool) (ts:Tm) (h:Hp) (k:Ex->Tm->Hp->Prop):Prop:=match d with
 |false=>cT (V0 false ops.toList) h λnf h=>dY E ops.toList ops.toList nf ts h λts h=>k .normal ts h
 |true=>match RC ops.toList with
  |false=>cT (V0 true ops.toList) h λnf h=>tC E ops.toList ops.toList nf ts h λfs ts h=>X4 (pT ops.toList 0 ops.toList fs) (k .normal ts h)
  |true=>qP E.weak ts h (λts h=>cT (V0 true ops.toList) h λnf h=>tC E ops.toList ops.toList nf ts h λfs ts h=>X4 (pT ops.toList 0 ops.toList fs) (k .normal ts h))
    λts h=>cT (V0 true ops.toList) h λnf h=>tC E ops.toList (oM ops.toList) nf ts h λfs ts h=>X4 (pT ops.toList 0 (oM ops.toList) fs&&FY ops.toList) (dY E ops.toList (IV ops.toList) nf ts h λts h=>k .normal ts h)
def A0d (ts:Tm) (c:Operand) (A B:Prop):Prop:=evK ts c λv=>match v with
 | .d (.b x)=>br x A B
 |_=>False
def bH (E:Env) (c:Code):Tm->Hp->(Ex->Tm->Hp->Prop)->Prop:=
 Code.rec (motive:=λ_=>Tm->Hp->(Ex->Tm->Hp->Prop)->Prop)
  (skip:=λts h k=>k .normal ts h)
  (region:=λ_ ops d ts h k=>JQ E ops d ts h k)
  (seq:=λ_ _ a b ts h k=>a ts h (seqK b k))
  (cond:=λc _ _ a b ts h k=>A0d ts c (a ts h k) (b ts h k))
  (block:=λid _ c ts h k=>c ts h (B1r id k))
  (loop:=λc _ ts h k=>E.loop c ts h k)
  (rangeFunc:=λg ps qs body _ _ ts h k=>E.range g ps.toList qs body ts h k)
  (exit:=λid ts h k=>k (.exit id) ts h)
  (scope:=λ_ c ts h k=>c ts h k)
  (label:=λ_ ts h k=>k .normal ts h)
  (goto:=λ_ _ _ _=>False)
  (ret:=λts h k=>k .ret ts h)
  (refuse:=λ_ _ _ _=>False) c
def BA (T:TT) (h:Hp) (ts:Tm):List ResultVar->(List V->Prop)->Prop
 |[],k=>k []
 | .tmp t::r,k=>IM ts t λv=>BA T h ts r λvs=>k (v::vs)
 | .cell a t::r,k=>IM ts a λa=>zW h (fB a) λbs=>OU T t a bs λv _=>BA T h ts r λvs=>k (v::vs)
def UG:List V->V
 |[v]=>v
 |vs=>.tup vs
def GX (vs:List V) (k:V->Prop):Prop:=match vs with
 |[v]=>k v
 |vs=>k (.tup vs)
def vO:List V->Nat->Tm->(Tm->Prop)->Prop
 |[],_,ts,k=>k ts
 |v::vs,i,ts,k=>vO vs (i+1) ((i,v)::ts) k
def mK (E:Env) (fn:Func) (args:List V) (h:Hp) (k:V->Hp->Prop):Prop:=
 match fn.body with
 |none=>False
 |some c=>vO args 0 [] λts=>bH E c ts h λe ts h=>match e with
  | .exit _=>False
  |_=>BA E.T h ts fn.results.toList λvs=>GX vs λv=>k v h
abbrev Stb:=Nat->Nat->Prop
abbrev Bet:=List (Option (Nat×Nat))
def one:Value->Bool
 | .agg _=>false
 | .tuple _=>false
 |_=>true
inductive DR (w:World) (S:Stb):D->Value->Prop where
 |b (x:Bool):DR w S (.b x) (.bool x)
 |i (k:IntKind) (n:Int):DR w S (.i k n) (.int k n)
 |s (x:ByteArray):DR w S (.s x) (.string x)
 |k (v:Value):one v=true->DR w S (.k v) v
 |agg (cs:List D) (arr:Array Value):arr.size=cs.length->(∀(j:Nat) (c:D),cs[j]? =some c->c.flat=true)->
   (∀(j:Nat) (c:D) (u:Value),cs[j]? =some c->arr[j]? =some u->DR w S c u)->DR w S (.agg cs) (.agg arr)
 |sl (sz:Nat) (full:Bool) (xs:List D) (a:Option Addr) (cap b off:Nat) (uf:Nat->Nat->Value):xs.length<=cap->(full=true->cap=xs.length)->(sz=0->xs=[])->
   (xs≠[]->a=some ⟨b,off,none⟩)->(∀(i:Nat) (x:D),xs[i]? =some x->x.cells.length=sz)->
   (∀(i:Nat) (x:D) (j:Nat) (c:D),xs[i]? =some x->x.cells[j]? =some c->c.flat=true/\w.cell? ⟨b,off+i*sz+j,none⟩=some (uf i j)/\S b (off+i*sz+j))->
   (∀(i:Nat) (x:D) (j:Nat) (c:D),xs[i]? =some x->x.cells[j]? =some c->DR w S c (uf i j))->DR w S (.sl sz full xs) (.slice a xs.length cap)
 |any (t:TypeId) (x:D) (v:Value):DR w S x v->DR w S (.any t x) (.iface t v)
 |pt (cs:List D) (b off:Nat) (uf:Nat->Value):(∀(j:Nat) (c:D),cs[j]? =some c->c.flat=true/\w.cell? ⟨b,off+j,none⟩=some (uf j)/\S b (off+j))->
   (∀(j:Nat) (c:D),cs[j]? =some c->DR w S c (uf j))->DR w S (.pt cs) (.pointer (some ⟨b,off,none⟩))
 |cl (f:FuncId) (fs cs:List D) (a1 a2:Array Value):a1.size=fs.length->a2.size=cs.length->(∀(j:Nat) (c:D) (u:Value),fs[j]? =some c->a1[j]? =some u->DR w S c u)->
   (∀(j:Nat) (c:D) (u:Value),cs[j]? =some c->a2[j]? =some u->DR w S c u)->DR w S (.cl f fs cs) (.func (.func f) a1 a2)
theorem DR.one {w:World} {S:Stb} {x:D} {v:Value} (h:DR w S x v) (hx:x.flat=true):one v=true:=by
 cases h<;>simp_all[PM.one,D.flat]
theorem DR.evol {w w':World} {S S':Stb} {x:D} {v:Value} (h:DR w S x v) (hS:∀b o,S b o->S' b o)
 (hc:∀b o,S b o->w'.cell? ⟨b,o,none⟩=w.cell? ⟨b,o,none⟩):DR w' S' x v:=by
 induction h with
 |b x=>exact .b x
 |i k n=>exact .i k n
 |s x=>exact .s x
 |k v hv=>exact .k v hv
 |agg cs arr h1 h2 _ ih=>exact .agg cs arr h1 h2 ih
 |sl sz full xs a cap b off uf h1 h2 h3 h4 h5 h6 _ ih=>
  refine .sl sz full xs a cap b off uf h1 h2 h3 h4 h5 (λi x j c hi hj=> ?_) ih
  obtain⟨f1,f2,f3⟩:=h6 i x j c hi hj
  exact⟨f1,by rw[hc _ _ f3];exact f2,hS _ _ f3⟩
 |any t x v _ ih=>exact .any t x v ih
 |pt cs b off uf h1 _ ih=>
  refine .pt cs b off uf (λj c hj=> ?_) ih
  obtain⟨f1,f2,f3⟩:=h1 j c hj
  exact⟨f1,by rw[hc _ _ f3];exact f2,hS _ _ f3⟩
 |cl f fs cs a1 a2 h1 h2 _ _ ih1 ih2=>exact .cl f fs cs a1 a2 h1 h2 ih1 ih2
def PR (h:Hp) (β:Bet) (n ver e o:Nat) (v:Value):Prop:=
 match h[n]? with
 |some .gone=>∃b q,v=.pointer (some ⟨b,q,none⟩)
 |some (.var _)=>∃b,β[n]? =some (some (b,0))/\ver=0/\e=0/\v=.pointer (some ⟨b,o,none⟩)
 |some (.vard _)=>∃b,β[n]? =some (some (b,0))/\ver=0/\e=0/\v=.pointer (some ⟨b,o,none⟩)
 |some (.row ver' sz _ _)=>ver<=ver'/\(∃b q,v=.pointer (some ⟨b,q,none⟩))/\(ver=ver'->∃b base,β[n]? =some (some (b,base))/\v=.pointer (some ⟨b,base+e*sz+o,none⟩))
 |some (.ar vs)=>∃b,(vs[e]?).map Prod.fst=some b/\v=.pointer (some ⟨b,o,none⟩)
 |_=>False
def SR (w:World) (h:Hp) (β:Bet) (n ver lo len:Nat) (full:Bool) (v:Value):Prop:=
 ∃a cap,v=.slice a len cap/\len<=cap/\(full=true->cap=len)/\match h[n]? with
 |some .gone=>True
 |some (.row ver' sz _ _)=>ver<=ver'/\(ver=ver'->
   ((β[n]? =some none/\cap=0)∨∃b base cells elem fz,β[n]? =some (some (b,base))/\(0<cap->a=some ⟨b,base+lo*sz,none⟩)/\w.heap[b]? =some (.cells cells elem fz)/\base+(lo+cap)*sz<=cells.size))
 |some (.var _)=>ver=1/\∃b cells elem fz,β[n]? =some (some (b,0))/\(0<cap->a=some ⟨b,lo,none⟩)/\w.heap[b]? =some (.cells cells elem fz)/\lo+cap<=cells.size
 |some (.vard _)=>ver=1/\∃b cells elem fz,β[n]? =some (some (b,0))/\(0<cap->a=some ⟨b,lo,none⟩)/\w.heap[b]? =some (.cells cells elem fz)/\lo+cap<=cells.size
 |_=>False
def yA:Option Blk->Prop
 |some (.loop ..)=>True
 |some .gone=>True
 |_=>False
def isMap:Option Blk->Prop
 |some (.map _ _ _)=>True
 |some .gone=>True
 |_=>False
inductive VR (w:World) (S:Stb) (h:Hp) (β:Bet):V->Value->Prop where
 |u (v:Value):VR w S h β .u v
 |d {x:D} {v:Value}:DR w S x v->VR w S h β (.d x) v
 |agg (cs:List V) (arr:Array Value):arr.size=cs.length->(∀(j:Nat) (c:V),cs[j]? =some c->c.flat=true)->
   (∀(j:Nat) (c:V) (u:Value),cs[j]? =some c->arr[j]? =some u->VR w S h β c u)->VR w S h β (.agg cs) (.agg arr)
 |tup (cs:List V) (arr:Array Value):arr.size=cs.length->
   (∀(j:Nat) (c:V) (u:Value),cs[j]? =some c->arr[j]? =some u->VR w S h β c u)->VR w S h β (.tup cs) (.tuple arr)
 |ptr {n ver e o:Nat} {v:Value}:one v=true->PR h β n ver e o v->VR w S h β (.ptr n ver e o) v
 |rp (cs:List D) (o b off:Nat) (uf:Nat->Value):(∀(j:Nat) (c:D),cs[j]? =some c->c.flat=true/\w.cell? ⟨b,off+j,none⟩=some (uf j)/\S b (off+j))->
   (∀(j:Nat) (c:D),cs[j]? =some c->DR w S c (uf j))->VR w S h β (.rp cs o) (.pointer (some ⟨b,off+o,none⟩))
 |sref {n ver lo len:Nat} {full:Bool} {v:Value}:one v=true->SR w h β n ver lo len full v->VR w S h β (.sref n ver lo len full) v
 |fn (f:FuncId) (cap:List V) (arr:Array Value):arr.size=cap.length->
   (∀(j:Nat) (c:V) (u:Value),cap[j]? =some c->arr[j]? =some u->VR w S h β c u)->VR w S h β (.fn f cap) (.func (.func f) #[] arr)
 |yld {n b:Nat}:yA h[n]? ->(h[n]? ≠some .gone->β[n]? =some (some (b,0)))->VR w S h β (.yld n) (.func (.yield b) #[] #[])
 |map {n b:Nat}:isMap h[n]? ->(h[n]? ≠some .gone->β[n]? =some (some (b,0)))->VR w S h β (.map n) (.map (some b))
theorem VR.one {w:World} {S:Stb} {h:Hp} {β:Bet} {x:V} {v:Value} (hr:VR w S h β x v) (hx:x.flat=true):one v=true:=by
 cases hr<;>simp_all[V.flat,PM.one]
 exact DR.one ‹_› hx
def VRow (bt:Option (Option (Nat×Nat))) (blk':Blk) (bt':Option (Option (Nat×Nat))):Prop:=∃ver ro xs,blk'=.row ver 1 ro xs/\1<=ver/\(ver=1->bt'=bt)
def BEv (blk:Blk) (bt:Option (Option (Nat×Nat))) (blk':Blk) (bt':Option (Option (Nat×Nat))):Prop:=
 match blk with
 | .res=>True
 | .gone=>blk'=.gone
 | .var _=>blk'=.gone∨(((∃cs,blk'=.var cs)∨∃cs,blk'=.vard cs)/\bt'=bt)∨VRow bt blk' bt'
 | .vard _=>blk'=.gone∨(((∃cs,blk'=.var cs)∨∃cs,blk'=.vard cs)/\bt'=bt)∨VRow bt blk' bt'
 | .row ver sz _ _=>blk'=.gone∨∃ver' ro xs,blk'=.row ver' sz ro xs/\ver<=ver'/\(ver=ver'->bt'=bt)
 | .map T kt _=>blk'=.gone∨(∃es,blk'=.map T kt es)/\bt'=bt
 | .ar vs=>blk'=.gone∨∃vs',blk'=.ar vs'/\∀(i:Nat) (b:Nat),(vs[i]?).map Prod.fst=some b->(vs'[i]?).map Prod.fst=some b
 | .loop .. =>blk'=.gone∨(∃a b c d e f g,blk'=.loop a b c d e f g)/\bt'=bt
def img (β:Bet) (b:Nat):Prop:=∃(n p:Nat),β[n]? =some (some (b,p))
def Out (w w':World):Prop:=(w'.os=w.os/\w'.output=w.output)/\w'.tape=w.tape/\w.drawn<=w'.drawn
theorem Out.refl (w:World):Out w w:=⟨⟨rfl,rfl⟩,rfl,B1 _⟩
theorem Out.trans {w w1 w2:World} (a:Out w w1) (b:Out w1 w2):Out w w2:=⟨⟨b.1.1.trans a.1.1,b.1.2.trans a.1.2⟩,b.2.1.trans a.2.1,F5 a.2.2 b.2.2⟩
structure LB (w:World) (S:Stb) (h:Hp) (β:Bet) (w':World) (S':Stb) (h':Hp) (β':Bet):Prop where
 shape:∀(i:Nat) c e f,w.heap[i]? =some (.cells c e f)->∃c',w'.heap[i]? =some (.cells c' e f)/\c'.size=c.size
 sub:∀b o,S b o->S' b o
 cell:∀b o,S b o->w'.cell? ⟨b,o,none⟩=w.cell? ⟨b,o,none⟩
 blk:∀(n:Nat) (b:Blk),h[n]? =some b->∃b',h'[n]? =some b'/\BEv b β[n]? b' β'[n]?
structure F7 (w:World) (S:Stb) (h:Hp) (β:Bet) (w':World) (S':Stb) (h':Hp) (β':Bet):Prop where
 outer:Out w w'
 size:w.heap.size<=w'.heap.size
 frame:∀(i:Nat),i<w.heap.size->¬img β i->w'.heap[i]? =w.heap[i]?
 shape:∀(i:Nat) c e f,w.heap[i]? =some (.cells c e f)->∃c',w'.heap[i]? =some (.cells c' e f)/\c'.size=c.size
 loops:∀(i:Nat) l,w.heap[i]? =some (.loop l)->∃l',w'.heap[i]? =some (.loop l')
 froz:∀a,a.block<w.heap.size->w'.frozen? a=w.frozen? a
 sub:∀b o,S b o->S' b o
 new:∀b o,S' b o->S b o∨w.heap.size<=b∨img β b
 cell:∀b o,S b o->w'.cell? ⟨b,o,none⟩=w.cell? ⟨b,o,none⟩
 imgs:∀(b:Nat),img β' b->img β b∨w.heap.size<=b
 len:h.length<=h'.length
 blk:∀(n:Nat) (b:Blk),h[n]? =some b->∃b',h'[n]? =some b'/\BEv b β[n]? b' β'[n]?
theorem BEv.refl (b:Blk) (t:Option (Option (Nat×Nat))):BEv b t b t:=by
 cases b with
 |ar vs=>exact .inr ⟨vs,rfl,λ_ _ h=>h⟩
 |_=>simp[BEv]
theorem F7.refl (w:World) (S:Stb) (h:Hp) (β:Bet):F7 w S h β w S h β where
 outer:=Out.refl _
 size:=B1 _
 frame:=λ_ _ _=>rfl
 shape:=λ_ c _ _ hi=>⟨c,hi,rfl⟩
 loops:=λ_ l hl=>⟨l,hl⟩
 froz:=λ_ _=>rfl
 sub:=λ_ _ h=>h
 new:=λ_ _ h=>.inl h
 cell:=λ_ _ _=>rfl
 imgs:=λ_ h=>.inl h
 len:=B1 _
 blk:=λ_ b hb=>⟨b,hb,BEv.refl _ _⟩
theorem BEv.trans {a b c:Blk} {ta tb tc:Option (Option (Nat×Nat))} (h1:BEv a ta b tb) (h2:BEv b tb c tc):BEv a ta c tc:=by
 cases a with
 |res=>trivial
 |gone=>simp only[BEv] at h1;subst h1;exact h2
 |var cs=>
  rcases h1 with rfl|⟨⟨cs',rfl⟩|⟨cs',rfl⟩,rfl⟩|⟨v1,ro,xs,rfl,hv,ht⟩
  ·exact .inl h2
  ·exact h2
  ·exact h2
  ·rcases h2 with rfl|⟨v2,ro2,xs2,rfl,hv2,ht2⟩
   ·exact .inl rfl
   ·exact .inr (.inr ⟨v2,ro2,xs2,rfl,by omega,λe=>by rw[ht2 (by omega),ht (by omega)]⟩)
 |vard cs=>
  rcases h1 with rfl|⟨⟨cs',rfl⟩|⟨cs',rfl⟩,rfl⟩|⟨v1,ro,xs,rfl,hv,ht⟩
  ·exact .inl h2
  ·exact h2
  ·exact h2
  ·rcases h2 with rfl|⟨v2,ro2,xs2,rfl,hv2,ht2⟩
   ·exact .inl rfl
   ·exact .inr (.inr ⟨v2,ro2,xs2,rfl,by omega,λe=>by rw[ht2 (by omega),ht (by omega)]⟩)
 |row ver sz ro xs=>
  rcases h1 with rfl|⟨ver',ro',xs',rfl,hv,ht⟩
  ·exact .inl h2
  ·rcases h2 with rfl|⟨ver2,ro2,xs2,rfl,hv2,ht2⟩
   ·exact .inl rfl
   ·exact .inr ⟨ver2,ro2,xs2,rfl,by omega,λe=>by rw[ht2 (by omega),ht (by omega)]⟩
 |map T kt es=>
  rcases h1 with rfl|⟨⟨es',rfl⟩,rfl⟩
  ·exact .inl h2
  ·exact h2
 |ar vs=>
  rcases h1 with rfl|⟨vs',rfl,h1⟩
  ·exact .inl h2
  ·rcases h2 with rfl|⟨vs2,rfl,h2⟩
   ·exact .inl rfl
   ·exact .inr ⟨vs2,rfl,λi b hi=>h2 i b (h1 i b hi)⟩
 |loop=>
  rcases h1 with rfl|⟨⟨a,b,c,d,e,f,g,rfl⟩,rfl⟩
  ·exact .inl h2
  ·exact h2
theorem F7.trans {w w1 w2:World} {S S1 S2:Stb} {h h1 h2:Hp} {β β1 β2:Bet} (a:F7 w S h β w1 S1 h1 β1) (b:F7 w1 S1 h1 β1 w2 S2 h2 β2):F7 w S h β w2 S2 h2 β2 where
 outer:=a.outer.trans b.outer
 size:=F5 a.size b.size
 frame:=λi hi hn=>by
  rw[b.frame i (D3 hi a.size) (λh=>by rcases a.imgs i h with h|h;exact hn h;omega),a.frame i hi hn]
 shape:=λi c e f hi=>by
  obtain⟨c1,h1,s1⟩:=a.shape i c e f hi
  obtain⟨c2,h2,s2⟩:=b.shape i c1 e f h1
  exact⟨c2,h2,by omega⟩
 loops:=λi l hl=>by
  obtain⟨l1,h1⟩:=a.loops i l hl
  exact b.loops i l1 h1
 froz:=λx hx=>(b.froz x (D3 hx a.size)).trans (a.froz x hx)
 sub:=λx y h=>b.sub _ _ (a.sub _ _ h)
 new:=λx y h=>by
  rcases b.new x y h with h|h|h
  ·exact a.new x y h
  ·exact .inr (.inl (F5 a.size h))
  ·rcases a.imgs x h with h|h
   ·exact .inr (.inr h)
   ·exact .inr (.inl h)
 cell:=λx y h=>(b.cell x y (a.sub _ _ h)).trans (a.cell x y h)
 imgs:=λx h=>by
  rcases b.imgs x h with h|h
  ·exact a.imgs x h
  ·exact .inr (F5 a.size h)
 len:=F5 a.len b.len
 blk:=λn x hx=>by
  obtain⟨y,hy,e1⟩:=a.blk n x hx
  obtain⟨z,hz,e2⟩:=b.blk n y hy
  exact⟨z,hz,e1.trans e2⟩
theorem PR.evol0 {w w':World} {S S':Stb} {h h':Hp} {β β':Bet} (E:LB w S h β w' S' h' β') {n ver e o:Nat} {v:Value} (hp:PR h β n ver e o v):PR h' β' n ver e o v:=by
 unfold PR at hp ⊢
 cases hn:h[n]? with
 |none=>simp[hn] at hp
 |some b=>
  obtain⟨b',hb',ev⟩:=E.blk n b hn
  rw[hn] at hp
  rw[hb']
  cases b with
  |res=>exact hp.elim
  |gone=>simp only[BEv] at ev;subst ev;exact hp
  |var cs=>
   rcases ev with rfl|⟨⟨cs',rfl⟩|⟨cs',rfl⟩,ht⟩|⟨v1,ro,xs,rfl,hv1,ht⟩
   ·obtain⟨b,_,_,_,hv⟩:=hp;exact⟨_,_,hv⟩
   ·simpa[ht] using hp
   ·simpa[ht] using hp
   ·obtain⟨b,_,rfl,_,hv⟩:=hp;exact⟨by omega,⟨_,_,hv⟩,λe=>by omega⟩
  |vard cs=>
   rcases ev with rfl|⟨⟨cs',rfl⟩|⟨cs',rfl⟩,ht⟩|⟨v1,ro,xs,rfl,hv1,ht⟩
   ·obtain⟨b,_,_,_,hv⟩:=hp;exact⟨_,_,hv⟩
   ·simpa[ht] using hp
   ·simpa[ht] using hp
   ·obtain⟨b,_,rfl,_,hv⟩:=hp;exact⟨by omega,⟨_,_,hv⟩,λe=>by omega⟩
  |row ver1 sz ro xs=>
   obtain⟨h1,h0,h2⟩:=hp
   rcases ev with rfl|⟨ver',ro',xs',rfl,hv,ht⟩
   ·exact h0
   ·refine⟨by omega,h0,λe=> ?_⟩
    rw[ht (by omega)]
    exact h2 (by omega)
  |map=>exact hp.elim
  |ar vs=>
   obtain⟨b,h1,hv⟩:=hp
   rcases ev with rfl|⟨vs',rfl,h2⟩
   ·exact⟨_,_,hv⟩
   ·exact⟨b,h2 _ _ h1,hv⟩
  |loop=>exact hp.elim
theorem SR.evol0 {w w':World} {S S':Stb} {h h':Hp} {β β':Bet} (E:LB w S h β w' S' h' β') {n ver lo len:Nat} {full:Bool} {v:Value} (hp:SR w h β n ver lo len full v):SR w' h' β' n ver lo len full v:=by
 obtain⟨a,cap,rfl,hc,hf,hp⟩:=hp
 refine⟨a,cap,rfl,hc,hf,?_⟩
 cases hn:h[n]? with
 |none=>simp[hn] at hp
 |some b=>
  obtain⟨b',hb',ev⟩:=E.blk n b hn
  rw[hn] at hp
  rw[hb']
  cases b with
  |res=>exact hp.elim
  |gone=>simp only[BEv] at ev;subst ev;trivial
  |var cs=>
   obtain⟨h1,b,cells,elem,fz,g1,g2,g3,g4⟩:=hp
   obtain⟨c',k1,k2⟩:=E.shape b cells elem fz g3
   rcases ev with rfl|⟨⟨cs',rfl⟩|⟨cs',rfl⟩,ht⟩|⟨v1,ro,xs,rfl,hv1,ht⟩
   ·trivial
   ·exact⟨h1,b,c',elem,fz,by rw[ht];exact g1,g2,k1,by omega⟩
   ·exact⟨h1,b,c',elem,fz,by rw[ht];exact g1,g2,k1,by omega⟩
   ·exact⟨by omega,λe=>.inr ⟨b,0,c',elem,fz,by rw[ht (by omega)];exact g1,λh=>by rw[g2 h];simp,k1,by omega⟩⟩
  |vard cs=>
   obtain⟨h1,b,cells,elem,fz,g1,g2,g3,g4⟩:=hp
   obtain⟨c',k1,k2⟩:=E.shape b cells elem fz g3
   rcases ev with rfl|⟨⟨cs',rfl⟩|⟨cs',rfl⟩,ht⟩|⟨v1,ro,xs,rfl,hv1,ht⟩
   ·trivial
   ·exact⟨h1,b,c',elem,fz,by rw[ht];exact g1,g2,k1,by omega⟩
   ·exact⟨h1,b,c',elem,fz,by rw[ht];exact g1,g2,k1,by omega⟩
   ·exact⟨by omega,λe=>.inr ⟨b,0,c',elem,fz,by rw[ht (by omega)];exact g1,λh=>by rw[g2 h];simp,k1,by omega⟩⟩
  |row ver1 sz ro xs=>
   rcases ev with rfl|⟨ver',ro',xs',rfl,hv,ht⟩
   ·trivial
   ·obtain⟨h1,h2⟩:=hp
    refine⟨by omega,λe=> ?_⟩
    rw[ht (by omega)]
    rcases h2 (by omega) with hr|⟨b,base,cells,elem,fz,g1,g2,g3,g4⟩
    ·exact .inl hr
    ·obtain⟨c',k1,k2⟩:=E.shape b cells elem fz g3
     exact .inr ⟨b,base,c',elem,fz,g1,g2,k1,by omega⟩
  |map=>exact hp.elim
  |ar=>exact hp.elim
  |loop=>exact hp.elim
theorem PR.ptr {h:Hp} {β:Bet} {n ver e o:Nat} {v:Value} (hp:PR h β n ver e o v):∃b q,v=.pointer (some ⟨b,q,none⟩):=by
 unfold PR at hp
 split at hp
 ·exact hp
 ·obtain⟨b,_,_,_,hv⟩:=hp;exact⟨_,_,hv⟩
 ·obtain⟨b,_,_,_,hv⟩:=hp;exact⟨_,_,hv⟩
 ·exact hp.2.1
 ·obtain⟨b,_,hv⟩:=hp;exact⟨_,_,hv⟩
 ·exact hp.elim
theorem PR.add {h:Hp} {β:Bet} {n ver e o b q:Nat} (hp:PR h β n ver e o (.pointer (some ⟨b,q,none⟩))) (k:Nat):PR h β n ver e (o+k) (.pointer (some ⟨b,q+k,none⟩)):=by
 unfold PR at hp ⊢
 split at hp
 ·exact⟨_,_,rfl⟩
 ·obtain⟨b',h1,h2,h3,h4⟩:=hp
  simp at h4;obtain⟨rfl,rfl⟩:=h4
  exact⟨_,h1,h2,h3,rfl⟩
 ·obtain⟨b',h1,h2,h3,h4⟩:=hp
  simp at h4;obtain⟨rfl,rfl⟩:=h4
  exact⟨_,h1,h2,h3,rfl⟩
 ·obtain⟨h1,_,h2⟩:=hp
  refine⟨h1,⟨_,_,rfl⟩,λe=> ?_⟩
  obtain⟨b',base,g1,g2⟩:=h2 e
  simp at g2;obtain⟨rfl,rfl⟩:=g2
  exact⟨_,_,g1,by rw[aP]⟩
 ·obtain⟨b',h1,h4⟩:=hp
  simp at h4;obtain⟨rfl,rfl⟩:=h4
  exact⟨_,h1,rfl⟩
 ·exact hp.elim
theorem VR.evol0 {w w':World} {S S':Stb} {h h':Hp} {β β':Bet} (E:LB w S h β w' S' h' β') {x:V} {v:Value} (hr:VR w S h β x v):VR w' S' h' β' x v:=by
 induction hr with
 |u v=>exact .u v
 |d hx=>exact .d (hx.evol E.sub E.cell)
 |agg cs arr h1 h2 _ ih=>exact .agg cs arr h1 h2 ih
 |tup cs arr h1 _ ih=>exact .tup cs arr h1 ih
 |ptr h1 h2=>exact .ptr h1 (h2.evol0 E)
 |rp cs o b off uf h1 h2=>
  refine .rp cs o b off uf (λj c hj=> ?_) (λj c hj=>(h2 j c hj).evol E.sub E.cell)
  obtain⟨f1,f2,f3⟩:=h1 j c hj
  exact⟨f1,by rw[E.cell _ _ f3];exact f2,E.sub _ _ f3⟩
 |sref h1 h2=>exact .sref h1 (h2.evol0 E)
 |fn f cap arr h1 _ ih=>exact .fn f cap arr h1 ih
 | @yld n b h1 h2=>
   cases hn:h[n]? with
   |none=>simp[hn,yA] at h1
   |some x=>
    obtain⟨b',hb',ev⟩:=E.blk n x hn
    cases x<;>simp[hn,yA] at h1
    ·simp only[BEv] at ev;subst ev
     exact .yld (by simp[hb',yA]) (λe=>absurd hb' e)
    ·rcases ev with rfl|⟨⟨_,_,_,_,_,_,_,rfl⟩,ht⟩
     ·exact .yld (by simp[hb',yA]) (λe=>absurd hb' e)
     ·exact .yld (by simp[hb',yA]) (λ_=>by rw[ht];exact h2 (by simp[hn]))
 | @map n b h1 h2=>
   cases hn:h[n]? with
   |none=>simp[hn,isMap] at h1
   |some x=>
    obtain⟨b',hb',ev⟩:=E.blk n x hn
    cases x<;>simp[hn,isMap] at h1
    ·simp only[BEv] at ev;subst ev
     exact .map (by simp[hb',isMap]) (λe=>absurd hb' e)
    ·rcases ev with rfl|⟨⟨_,rfl⟩,ht⟩
     ·exact .map (by simp[hb',isMap]) (λe=>absurd hb' e)
     ·exact .map (by simp[hb',isMap]) (λ_=>by rw[ht];exact h2 (by simp[hn]))
theorem F7.to0 {w w':World} {S S':Stb} {h h':Hp} {β β':Bet} (E:F7 w S h β w' S' h' β'):LB w S h β w' S' h' β':=⟨E.shape,E.sub,E.cell,E.blk⟩
theorem VR.evol {w w':World} {S S':Stb} {h h':Hp} {β β':Bet} (E:F7 w S h β w' S' h' β') {x:V} {v:Value} (hr:VR w S h β x v):VR w' S' h' β' x v:=hr.evol0 E.to0
def TR (w:World) (S:Stb) (h:Hp) (β:Bet) (ts:Tm) (tmps:Array Value):Prop:=∀t,VR w S h β (look ts t) (tmps.getD t undef)
def tl (h:Hp) (β:Bet) (r:Nat):Option (Option (Nat×Nat)):=β[h.length+r]?
def AL (mes:Array MapEntry) (clock:Nat):Prop:=(mes.toList.map (·.born)).Nodup/\∀m∈mes.toList,m.born<clock
theorem AL.nil:AL #[] 0:=⟨by simp,by simp⟩
theorem AL.push {mes:Array MapEntry} {clock:Nat} (h:AL mes clock) (k v:Value):AL (mes.push {key:=k,val:=v,born:=clock}) (clock+1):=by
 refine⟨?_,λm hm=> ?_⟩
 ·simp only[Array.toList_push,D2,E8,L4]
  rw[List.nodup_append]
  refine⟨h.1,by simp,λa ha b hb=> ?_⟩
  obtain⟨m,hm,rfl⟩:=K4.1 ha
  have:=h.2 m hm
  simp at hb
  omega
 ·simp only[Array.toList_push,K0,J0,O9,oI] at hm
  rcases hm with hm|rfl
  ·have:=h.2 m hm;omega
  ·exact DX _
theorem AL.of_map {mes mes':Array MapEntry} {clock:Nat} (h:AL mes clock) (e:mes'.toList.map (·.born)=mes.toList.map (·.born)):AL mes' clock:=by
 refine⟨by rw[e];exact h.1,λm hm=> ?_⟩
 have:m.born∈mes'.toList.map (·.born):=K4.2 ⟨m,hm,rfl⟩
 rw[e] at this
 obtain⟨m',h1,h2⟩:=K4.1 this
 rw[<-h2];exact h.2 m' h1
theorem AL.modify {mes:Array MapEntry} {clock:Nat} (h:AL mes clock) (j:Nat) (f:MapEntry->MapEntry) (hf:∀m,(f m).born=m.born):AL (mes.modify j f) clock:=by
 refine h.of_map (L9 λi=> ?_)
 rw[A8,A8,L1,L1,LD]
 split
 ·cases mes[i]? <;>simp[hf]
 ·rfl
def BR (w:World) (S:Stb) (h:Hp) (β:Bet) (n:Nat):Blk->Prop
 | .res=>β[n]? =some none
 | .gone=>β[n]? =some none
 | .var cs=>∃b cells elem,β[n]? =some (some (b,0))/\w.heap[b]? =some (.cells cells elem (0,0))/\cells.size=cs.length/\
    (∀(j:Nat) (c:V) (u:Value),cs[j]? =some c->cells[j]? =some u->c.flat=true/\VR w S h β c u)/\∀o,¬S b o
 | .vard cs=>∃b cells elem,β[n]? =some (some (b,0))/\w.heap[b]? =some (.cells cells elem (0,0))/\cells.size=cs.length/\
    (∀(j:Nat) (c:D) (u:Value),cs[j]? =some c->cells[j]? =some u->c.flat=true/\DR w S c u)/\∀o,¬S b o
 | .row _ sz ro xs=>0<sz/\(∀(i:Nat) (x:D),xs[i]? =some x->x.cells.length=sz/\∀(j:Nat) (c:D),x.cells[j]? =some c->c.flat=true)/\
    ((xs=[]/\β[n]? =some none)∨∃b base cells elem,β[n]? =some (some (b,base))/\w.heap[b]? =some (.cells cells elem (0,0))/\base+xs.length*sz<=cells.size/\
      (∀(i:Nat) (x:D) (j:Nat) (c:D),xs[i]? =some x->x.cells[j]? =some c->∃u,cells[base+i*sz+j]? =some u/\DR w S c u)/\
      ∀o,S b o->ro=true/\o<base+xs.length*sz)
 | .map T kt es=>∃b mes clock,β[n]? =some (some (b,0))/\w.heap[b]? =some (.map mes clock)/\mes.size=es.length/\
    (∀(j:Nat) (p:D×D) (m:MapEntry),es[j]? =some p->mes[j]? =some m->nO T kt p.1=true/\DR w S p.1 m.key/\DR w S p.2 m.val)/\AL mes clock/\∀o,¬S b o
 | .ar vs=>β[n]? =some none/\∃q:Nat->Nat,(∀(i a:Nat) (cs:List D),vs[i]? =some (a,cs)->tl h β (q i)=some (some (a,0))/\(∃cells elem,w.heap[a]? =some (.cells cells elem (0,0))/\cells.size=cs.length/\
    ∀(j:Nat) (c:D) (u:Value),cs[j]? =some c->cells[j]? =some u->c.flat=true/\DR w S c u)/\∀o,¬S a o)/\∀(i j:Nat),i<vs.length->j<vs.length->q i=q j->i=j
 | .loop st pend N ts ps qs body=>∃b l,β[n]? =some (some (b,0))/\w.heap[b]? =some (.loop l)/\l.pending=pend/\l.params.toList=ps/\l.assign=qs/\l.body=body/\
    l.tmps.size=N/\TR w S h β ts l.tmps/\(∀o,¬S b o)/\
    l.state=(match st with| .ready=>Go.LoopState.ready| .busy=>.busy| .done=>.done| .exhausted=>.exhausted)
structure jY (w:World) (S:Stb):Prop where
 cells:∀p∈CN.cells,∀(j:Nat) (c:D),p.2[j]? =some c->c.flat=true/\∃u,w.cell? ⟨p.1,j,none⟩=some u/\DR w S c u/\S p.1 j
 size:∀p∈CN.cells,∃cs e f,w.heap[p.1]? =some (.cells cs e f)/\cs.size=p.2.length
theorem jY.evol0 {w w':World} {S S':Stb} {h h':Hp} {β β':Bet} (g:jY w S) (E:LB w S h β w' S' h' β'):jY w' S':=⟨λp hp j c hj=>by
 obtain⟨h1,u,h2,h3,h4⟩:=g.cells p hp j c hj
 exact⟨h1,u,by rw[E.cell _ _ h4];exact h2,h3.evol E.sub E.cell,E.sub _ _ h4⟩,λp hp=>by
 obtain⟨cs,e,f,h1,h2⟩:=g.size p hp
 obtain⟨cs',h3,h4⟩:=E.shape _ _ _ _ h1
 exact⟨cs',e,f,h3,h4.trans h2⟩⟩
theorem jY.evol {w w':World} {S S':Stb} {h h':Hp} {β β':Bet} (g:jY w S) (E:F7 w S h β w' S' h' β'):jY w' S':=g.evol0 E.to0
structure HR (w:World) (S:Stb) (h:Hp) (β:Bet):Prop where
 len:h.length<=β.length
 blk:∀(n:Nat) (b:Blk),h[n]? =some b->BR w S h β n b
 inj:∀(n m b p q:Nat),β[n]? =some (some (b,p))->β[m]? =some (some (b,q))->n=m
 old:∀b o,S b o->b<w.heap.size
 glob:jY w S
 tlt:∀r b p,tl h β r=some (some (b,p))->b<w.heap.size
 one:∀(n m:Nat) (b c:Blk),h[n]? =some b->h[m]? =some c->b.own=true->c.own=true->n=m
theorem QN (v:Value):one v=v.oneCell':=by cases v<;>rfl
theorem HR.lt {w:World} {S:Stb} {h:Hp} {β:Bet} (hr:HR w S h β) {n b p:Nat} (hn:β[n]? =some (some (b,p))):b<w.heap.size:=by
 by_cases hlt:n<h.length
 case neg=>
  refine hr.tlt (n-h.length) b p ?_
  unfold tl
  rw[show h.length+(n-h.length)=n by omega]
  exact hn
 have hb:=hr.blk n h[n] (A3 hlt)
 have key:∀{b':Nat} {o:Obj},w.heap[b']? =some o->b'<w.heap.size:=λh=>(C4.1 h).1
 cases hx:h[n] with
 |res=>rw[hx] at hb;simp only[BR] at hb;rw[hn] at hb;simp at hb
 |gone=>rw[hx] at hb;simp only[BR] at hb;rw[hn] at hb;simp at hb
 |var cs=>
  rw[hx] at hb;obtain⟨b',c,e,h1,h2,_⟩:=hb
  rw[hn] at h1;simp at h1;obtain⟨rfl,_⟩:=h1;exact key h2
 |vard cs=>
  rw[hx] at hb;obtain⟨b',c,e,h1,h2,_⟩:=hb
  rw[hn] at h1;simp at h1;obtain⟨rfl,_⟩:=h1;exact key h2
 |row ver sz ro xs=>
  rw[hx] at hb;obtain⟨_,_,⟨_,h1⟩|⟨b',base,c,e,h1,h2,_⟩⟩:=hb
  ·rw[hn] at h1;simp at h1
  ·rw[hn] at h1;simp at h1;obtain⟨rfl,_⟩:=h1;exact key h2
 |map T kt es=>
  rw[hx] at hb;obtain⟨b',c,e,h1,h2,_⟩:=hb
  rw[hn] at h1;simp at h1;obtain⟨rfl,_⟩:=h1;exact key h2
 |ar vs=>
  rw[hx] at hb;obtain⟨h1,_⟩:=hb
  rw[hn] at h1;simp at h1
 |loop=>
  rw[hx] at hb;obtain⟨b',l,h1,h2,_⟩:=hb
  rw[hn] at h1;simp at h1;obtain⟨rfl,_⟩:=h1;exact key h2
theorem BR.keep0 {w w':World} {S S':Stb} {h h':Hp} {β β':Bet} (E:LB w S h β w' S' h' β') {m:Nat} {blk:Blk} (hβ:β'[m]? =β[m]?)
 (hT:blk.own=true->∀r b p,tl h β r=some (some (b,p))->tl h' β' r=some (some (b,p))/\w'.heap[b]? =w.heap[b]? /\∀o,S' b o->S b o)
 (hb:∀b p,β[m]? =some (some (b,p))->w'.heap[b]? =w.heap[b]? /\∀o,S' b o->S b o) (hx:BR w S h β m blk):BR w' S' h' β' m blk:=by
 cases blk with
 |res=>simp only[BR] at hx ⊢;rw[hβ];exact hx
 |gone=>simp only[BR] at hx ⊢;rw[hβ];exact hx
 |var cs=>
  obtain⟨b,c,e,h1,h2,h3,h4,h5⟩:=hx
  obtain⟨k1,k2⟩:=hb b 0 h1
  exact⟨b,c,e,by rw[hβ];exact h1,by rw[k1];exact h2,h3,λj x u hj hu=>⟨(h4 j x u hj hu).1,(h4 j x u hj hu).2.evol0 E⟩,λo ho=>h5 o (k2 o ho)⟩
 |vard cs=>
  obtain⟨b,c,e,h1,h2,h3,h4,h5⟩:=hx
  obtain⟨k1,k2⟩:=hb b 0 h1
  exact⟨b,c,e,by rw[hβ];exact h1,by rw[k1];exact h2,h3,λj x u hj hu=>⟨(h4 j x u hj hu).1,(h4 j x u hj hu).2.evol E.sub E.cell⟩,λo ho=>h5 o (k2 o ho)⟩
 |row ver sz ro xs=>
  obtain⟨h0,h1,h2⟩:=hx
  refine⟨h0,h1,?_⟩
  rcases h2 with⟨h2,h3⟩|⟨b,base,c,e,h2,h3,h4,h5,h6⟩
  ·exact .inl ⟨h2,by rw[hβ];exact h3⟩
  ·obtain⟨k1,k2⟩:=hb b base h2
   refine .inr ⟨b,base,c,e,by rw[hβ];exact h2,by rw[k1];exact h3,h4,λi x j y hi hj=> ?_,λo ho=>h6 o (k2 o ho)⟩
   obtain⟨u,hu,hd⟩:=h5 i x j y hi hj
   exact⟨u,hu,hd.evol E.sub E.cell⟩
 |map T kt es=>
  obtain⟨b,c,e,h1,h2,h3,h4,h5⟩:=hx
  obtain⟨k1,k2⟩:=hb b 0 h1
  refine⟨b,c,e,by rw[hβ];exact h1,by rw[k1];exact h2,h3,λj p m hj hu=> ?_,h5.1,λo ho=>h5.2 o (k2 o ho)⟩
  obtain⟨a1,a2,a3⟩:=h4 j p m hj hu
  exact⟨a1,a2.evol E.sub E.cell,a3.evol E.sub E.cell⟩
 |ar vs=>
  obtain⟨h1,q,h2,h3⟩:=hx
  refine⟨by rw[hβ];exact h1,q,λi a cs hi=> ?_,h3⟩
  obtain⟨g1,⟨cells,elem,g2,g3,g4⟩,g5⟩:=h2 i a cs hi
  obtain⟨t1,t2,t3⟩:=hT rfl _ _ _ g1
  exact⟨t1,⟨cells,elem,by rw[t2];exact g2,g3,λj c u hj hu=>⟨(g4 j c u hj hu).1,(g4 j c u hj hu).2.evol E.sub E.cell⟩⟩,λo ho=>g5 o (t3 o ho)⟩
 |loop st pend N ts ps qs body=>
  obtain⟨b,l,h1,h2,h3,h4,h5,h6,h7,h8,h9,h10⟩:=hx
  obtain⟨k1,k2⟩:=hb b 0 h1
  exact⟨b,l,by rw[hβ];exact h1,by rw[k1];exact h2,h3,h4,h5,h6,h7,λt=>(h8 t).evol0 E,λo ho=>h9 o (k2 o ho),h10⟩
theorem BR.keep {w w':World} {S S':Stb} {h h':Hp} {β β':Bet} (E:F7 w S h β w' S' h' β') {m:Nat} {blk:Blk} (hβ:β'[m]? =β[m]?)
 (hT:blk.own=true->∀r b p,tl h β r=some (some (b,p))->tl h' β' r=some (some (b,p))/\w'.heap[b]? =w.heap[b]? /\∀o,S' b o->S b o)
 (hb:∀b p,β[m]? =some (some (b,p))->w'.heap[b]? =w.heap[b]? /\∀o,S' b o->S b o) (hx:BR w S h β m blk):BR w' S' h' β' m blk:=BR.keep0 E.to0 hβ hT hb hx
theorem tM {h:Hp} {β:Bet} {n:Nat} (hn:n<h.length) (b:Blk) (t:Option (Nat×Nat)) (r:Nat):tl (h.set n b) (β.set n t) r=tl h β r:=by
 unfold tl
 rw[L5,C3 (by omega)]
theorem A1p {h:Hp} {β:Bet} {n:Nat} (b:Blk) (r:Nat):tl (h.set n b) β r=tl h β r:=by
 unfold tl
 rw[L5]
theorem A7d {h:Hp} {β:Bet} {r b p:Nat} (ht:tl h β r=some (some (b,p))):img β b:=⟨_,p,ht⟩
theorem HR.tne {w:World} {S:Stb} {h:Hp} {β:Bet} (hr:HR w S h β) {n b p r c q:Nat} (hn:n<h.length) (h1:β[n]? =some (some (b,p))) (h2:tl h β r=some (some (c,q))):c≠b:=by
 rintro rfl
 have:=hr.inj _ _ _ _ _ h1 h2
 omega
theorem vP {h:Hp} {n:Nat} {blk blk':Blk} (ho:∀(n m:Nat) (b c:Blk),h[n]? =some b->h[m]? =some c->b.own=true->c.own=true->n=m) (hn:h[n]? =some blk) (hb:blk'.own=true->blk.own=true):
 ∀(k m:Nat) (b c:Blk),(h.set n blk')[k]? =some b->(h.set n blk')[m]? =some c->b.own=true->c.own=true->k=m:=by
 have key:∀{m:Nat} {c:Blk},(h.set n blk')[m]? =some c->c.own=true->∃c':Blk,h[m]? =some c'/\c'.own=true:=λ{m c} hm hc=>by
  by_cases hmn:n=m
  ·subst hmn
   have hl:=(A4.1 hn).1
   rw[G1 hl] at hm
   cases hm
   exact⟨blk,hn,hb hc⟩
  ·rw[C3 hmn] at hm
   exact⟨c,hm,hc⟩
 intro k m b c h1 h2 h3 h4
 obtain⟨b',e1,e2⟩:=key h1 h3
 obtain⟨c',e3,e4⟩:=key h2 h4
 exact ho _ _ _ _ e1 e3 e2 e4
theorem updG {w w':World} {S:Stb} {h:Hp} {β:Bet} (hr:HR w S h β) {n:Nat} {blk blk':Blk} (hn:h[n]? =some blk) (t':Option (Nat×Nat))
 (size:w.heap.size<=w'.heap.size)
 (others:∀i,i<w.heap.size->(∀p,β[n]? ≠some (some (i,p)))->w'.heap[i]? =w.heap[i]?)
 (own:∀i p c e f,β[n]? =some (some (i,p))->w.heap[i]? =some (.cells c e f)->∃c',w'.heap[i]? =some (.cells c' e f)/\c'.size=c.size)
 (ownl:∀i p l,β[n]? =some (some (i,p))->w.heap[i]? =some (.loop l)->∃l',w'.heap[i]? =some (.loop l'))
 (froz:∀a,a.block<w.heap.size->w'.frozen? a=w.frozen? a)
 (cell:∀i p o,β[n]? =some (some (i,p))->S i o->w'.cell? ⟨i,o,none⟩=w.cell? ⟨i,o,none⟩)
 (ht:∀b p,t'=some (b,p)->(∃q,β[n]? =some (some (b,q)))∨w.heap.size<=b)
 (hev:BEv blk β[n]? blk' (some t'))
 (hbr:F7 w S h β w' S (h.set n blk') (β.set n t')->BR w' S (h.set n blk') (β.set n t') n blk') (hout:Out w w':=by exact⟨⟨rfl,rfl⟩,rfl,by first|exact B1 _|exact Nat.le_succ _⟩) (hone:∀(k m:Nat) (b c:Blk),(h.set n blk')[k]? =some b->(h.set n blk')[m]? =some c->b.own=true->c.own=true->k=m):
 HR w' S (h.set n blk') (β.set n t')/\F7 w S h β w' S (h.set n blk') (β.set n t'):=by
 have hnl:n<h.length:=(A4.1 hn).1
 have hnb:n<β.length:=D3 hnl hr.len
 have J3:(β.set n t')[n]? =some t':=by simp[hnb]
 have E:F7 w S h β w' S (h.set n blk') (β.set n t'):=by
  constructor
  ·exact hout
  ·exact size
  ·intro i hi hni
   exact others i hi λp hp=>hni ⟨n,p,hp⟩
  ·intro i c e f hi
   by_cases hc:∃p,β[n]? =some (some (i,p))
   ·obtain⟨p,hp⟩:=hc
    exact own i p c e f hp hi
   ·rw[others i (C4.1 hi).1 λp hp=>hc ⟨p,hp⟩]
    exact⟨c,hi,rfl⟩
  ·intro i l hi
   by_cases hc:∃p,β[n]? =some (some (i,p))
   ·obtain⟨p,hp⟩:=hc
    exact ownl i p l hp hi
   ·rw[others i (C4.1 hi).1 λp hp=>hc ⟨p,hp⟩]
    exact⟨l,hi⟩
  ·exact froz
  ·exact λ_ _ h=>h
  ·exact λ_ _ h=>.inl h
  ·intro b o hs
   by_cases hc:∃p,β[n]? =some (some (b,p))
   ·obtain⟨p,hp⟩:=hc
    exact cell b p o hp hs
   ·exact World.cell?_of_block (a:=⟨b,o,none⟩) (others b (hr.old b o hs) λp hp=>hc ⟨p,hp⟩)
  ·rintro b ⟨m,p,hm⟩
   by_cases hmn:m=n
   ·subst hmn
    rw[J3] at hm
    rcases ht b p (by simpa using hm) with⟨q,hq⟩|hb
    ·exact .inl ⟨m,q,hq⟩
    ·exact .inr hb
   ·rw[C3 (N9 hmn)] at hm
    exact .inl ⟨m,p,hm⟩
  ·simp
  ·intro m b hm
   by_cases hmn:m=n
   ·subst hmn
    rw[hn] at hm;cases hm
    exact⟨blk',by simp[hnl],by rw[J3];exact hev⟩
   ·exact⟨b,by rw[C3 (N9 hmn)];exact hm,by rw[C3 (N9 hmn)];exact BEv.refl _ _⟩
 have htl:∀r b p,tl h β r=some (some (b,p))->w'.heap[b]? =w.heap[b]? :=λr b p hb=>by
  refine others b (hr.lt hb) λq hq=> ?_
  exact hr.tne hnl hq hb rfl
 refine⟨⟨by simpa using hr.len,λm b hm=> ?_,?_,λb o hs=>D3 (hr.old b o hs) size,hr.glob.evol E,λr b p hb=>by
  rw[tM hnl] at hb
  exact D3 (hr.tlt r b p hb) size,hone⟩,E⟩
 ·by_cases hmn:m=n
  ·subst hmn
   have:b=blk':=by simpa[hnl] using hm.symm
   subst this
   exact hbr E
  ·rw[C3 (N9 hmn)] at hm
   refine BR.keep E (by rw[C3 (N9 hmn)]) (λ_ r b p hb=>⟨by rw[tM hnl];exact hb,htl r b p hb,λ_ h=>h⟩) (λb' p hb'=>⟨?_,λ_ h=>h⟩) (hr.blk m b hm)
   exact others b' (hr.lt hb') λq hq=>hmn (hr.inj m n b' p q hb' hq)
 ·intro m1 m2 b p q h1 h2
  have hcase:∀m p,(β.set n t')[m]? =some (some (b,p))->(m≠n/\β[m]? =some (some (b,p)))∨(m=n/\t'=some (b,p)):=by
   intro m p hm
   by_cases hmn:m=n
   ·subst hmn;rw[J3] at hm;exact .inr ⟨rfl,by simpa using hm⟩
   ·rw[C3 (N9 hmn)] at hm;exact .inl ⟨hmn,hm⟩
  rcases hcase m1 p h1 with⟨a1,a2⟩|⟨a1,a2⟩<;>rcases hcase m2 q h2 with⟨b1,b2⟩|⟨b1,b2⟩
  ·exact hr.inj _ _ _ _ _ a2 b2
  ·rcases ht b q b2 with⟨r,hr'⟩|hge
   ·exact absurd (hr.inj _ _ _ _ _ a2 hr') a1
   ·exact absurd (hr.lt a2) (by omega)
  ·rcases ht b p a2 with⟨r,hr'⟩|hge
   ·exact absurd (hr.inj _ _ _ _ _ b2 hr') b1
   ·exact absurd (hr.lt b2) (by omega)
  ·omega
theorem updF {w w':World} {S:Stb} {h:Hp} {β:Bet} (hr:HR w S h β) {n:Nat} {blk blk':Blk} (hn:h[n]? =some blk) (t':Option (Nat×Nat))
 (size:w.heap.size<=w'.heap.size)
 (others:∀i,i<w.heap.size->(∀p,β[n]? ≠some (some (i,p)))->w'.heap[i]? =w.heap[i]?)
 (own:∀i p c e f,β[n]? =some (some (i,p))->w.heap[i]? =some (.cells c e f)->∃c',w'.heap[i]? =some (.cells c' e f)/\c'.size=c.size)
 (ownl:∀i p l,β[n]? =some (some (i,p))->w.heap[i]? =some (.loop l)->∃l',w'.heap[i]? =some (.loop l'))
 (froz:∀a,a.block<w.heap.size->w'.frozen? a=w.frozen? a)
 (cell:∀i p o,β[n]? =some (some (i,p))->S i o->w'.cell? ⟨i,o,none⟩=w.cell? ⟨i,o,none⟩)
 (ht:∀b p,t'=some (b,p)->(∃q,β[n]? =some (some (b,q)))∨w.heap.size<=b)
 (hev:BEv blk β[n]? blk' (some t'))
 (hbr:F7 w S h β w' S (h.set n blk') (β.set n t')->BR w' S (h.set n blk') (β.set n t') n blk') (hout:Out w w':=by exact⟨⟨rfl,rfl⟩,rfl,by first|exact B1 _|exact Nat.le_succ _⟩) (hone:blk'.own=true->blk.own=true:=by first|exact λh=>nomatch h|exact λh=>h|exact λ_=>rfl):
 HR w' S (h.set n blk') (β.set n t')/\F7 w S h β w' S (h.set n blk') (β.set n t'):=
 updG hr hn t' size others own ownl froz cell ht hev hbr hout (vP hr.one hn hone)
theorem upd {w w':World} {S:Stb} {h:Hp} {β:Bet} (hr:HR w S h β) {n:Nat} {blk blk':Blk} (hn:h[n]? =some blk) (t':Option (Nat×Nat))
 (size:w.heap.size<=w'.heap.size)
 (others:∀i,i<w.heap.size->(∀p,β[n]? ≠some (some (i,p)))->w'.heap[i]? =w.heap[i]?)
 (own:∀i p c e f,β[n]? =some (some (i,p))->w.heap[i]? =some (.cells c e f)->∃c',w'.heap[i]? =some (.cells c' e f)/\c'.size=c.size)
 (ownl:∀i p l,β[n]? =some (some (i,p))->w.heap[i]? =some (.loop l)->∃l',w'.heap[i]? =some (.loop l'))
 (froz:∀a,w'.frozen? a=w.frozen? a)
 (cell:∀i p o,β[n]? =some (some (i,p))->S i o->w'.cell? ⟨i,o,none⟩=w.cell? ⟨i,o,none⟩)
 (ht:∀b p,t'=some (b,p)->(∃q,β[n]? =some (some (b,q)))∨w.heap.size<=b)
 (hev:BEv blk β[n]? blk' (some t'))
 (hbr:F7 w S h β w' S (h.set n blk') (β.set n t')->BR w' S (h.set n blk') (β.set n t') n blk') (hout:Out w w':=by exact⟨⟨rfl,rfl⟩,rfl,by first|exact B1 _|exact Nat.le_succ _⟩) (hone:blk'.own=true->blk.own=true:=by first|exact λh=>nomatch h|exact λh=>h|exact λ_=>rfl):
 HR w' S (h.set n blk') (β.set n t')/\F7 w S h β w' S (h.set n blk') (β.set n t'):=
 updF hr hn t' size others own ownl (λa _=>froz a) cell ht hev hbr hout hone
theorem drawn {w:World} {S:Stb} {h:Hp} {β:Bet} (hr:HR w S h β):HR w.drew S h β/\F7 w S h β w.drew S h β:=by
 have E:F7 w S h β w.drew S h β:=
  ⟨⟨⟨rfl,rfl⟩,rfl,Nat.le_succ _⟩,B1 _,λ_ _ _=>rfl,λ_ c _ _ hi=>⟨c,hi,rfl⟩,λ_ l hl=>⟨l,hl⟩,λ_ _=>rfl,λ_ _ h=>h,λ_ _ h=>.inl h,λ_ _ _=>rfl,λ_ h=>.inl h,B1 _,λ_ b hb=>⟨b,hb,BEv.refl _ _⟩⟩
 exact⟨⟨hr.len,λn b hn=>BR.keep E rfl (λ_ _ _ _ h=>⟨h,rfl,λ_ h=>h⟩) (λ_ _ _=>⟨rfl,λ_ h=>h⟩) (hr.blk n b hn),hr.inj,hr.old,hr.glob.evol E,hr.tlt,hr.one⟩,E⟩
theorem iT {w:World} {S:Stb} {h:Hp} {β:Bet} (hr:HR w S h β) (m:Nat):∃β',HR w S (h++List.replicate m .res) β'/\F7 w S h β w S (h++List.replicate m .res) β':=by
 have hlen:=hr.len
 obtain⟨β',hβ'⟩:∃β',β'=β.take h.length++(List.replicate m none++β.drop h.length):=⟨_,rfl⟩
 have htk:(β.take h.length).length=h.length:=by rw[D0];omega
 have hold:∀(k:Nat),k<h.length->β'[k]? =β[k]? :=λk hk=>by
  rw[hβ',B8 (by omega),I8 hk]
 have hmid:∀(k:Nat),h.length<=k->k<h.length+m->β'[k]? =some none:=λk h1 h2=>by
  rw[hβ',B3 (by omega),B8 (by rw[K9];omega),J2,if_pos (by omega)]
 have htail:∀(k:Nat),h.length+m<=k->β'[k]? =β[k-m]? :=λk h1=>by
  rw[hβ',B3 (by omega),B3 (by rw[K9];omega),J4,K9]
  congr 1;omega
 have hcase:∀(k b p:Nat),β'[k]? =some (some (b,p))->(k<h.length/\β[k]? =some (some (b,p)))∨(h.length+m<=k/\β[k-m]? =some (some (b,p))):=λk b p hk=>by
  by_cases h1:k<h.length
  ·exact .inl ⟨h1,by rw[<-hold k h1];exact hk⟩
  ·by_cases h2:k<h.length+m
   ·rw[hmid k (by omega) h2] at hk;cases hk
   ·exact .inr ⟨by omega,by rw[<-htail k (by omega)];exact hk⟩
 have htl:∀r,tl (h++List.replicate m .res) β' r=tl h β r:=λr=>by
  unfold tl
  rw[B4,K9,htail _ (by omega)]
  congr 1;omega
 refine⟨β',?_⟩
 have E:F7 w S h β w S (h++List.replicate m .res) β':=by
  refine⟨Out.refl _,B1 _,λ_ _ _=>rfl,λ_ c _ _ hi=>⟨c,hi,rfl⟩,λ_ l hl=>⟨l,hl⟩,λ_ _=>rfl,λ_ _ h=>h,λ_ _ h=>.inl h,λ_ _ _=>rfl,?_,by simp,?_⟩
  ·rintro b ⟨k,p,hk⟩
   rcases hcase k b p hk with⟨_,h1⟩|⟨_,h1⟩
   ·exact .inl ⟨_,p,h1⟩
   ·exact .inl ⟨_,p,h1⟩
  ·intro k b hk
   have hkl:k<h.length:=(A4.1 hk).1
   exact⟨b,by rw[B8 hkl];exact hk,by rw[hold k hkl];exact BEv.refl _ _⟩
 refine⟨⟨by rw[hβ'];simp only[B4,K9,htk,aA];omega,λk b hk=> ?_,?_,hr.old,hr.glob.evol E,λr b p hb=>by rw[htl] at hb;exact hr.tlt r b p hb,?_⟩,E⟩
 ·by_cases hkl:k<h.length
  ·rw[B8 hkl] at hk
   exact BR.keep E (hold k hkl) (λ_ r b p hb=>⟨by rw[htl];exact hb,rfl,λ_ h=>h⟩) (λ_ _ _=>⟨rfl,λ_ h=>h⟩) (hr.blk k b hk)
  ·rw[B3 (by omega),J2] at hk
   split at hk<;>simp at hk
   subst hk
   simp only[BR]
   exact hmid k (by omega) (by omega)
 ·intro k1 k2 b p q h1 h2
  rcases hcase _ _ _ h1 with⟨a1,a2⟩|⟨a1,a2⟩<;>rcases hcase _ _ _ h2 with⟨b1,b2⟩|⟨b1,b2⟩
  all_goals(have:=hr.inj _ _ _ _ _ a2 b2;omega)
 ·have key:∀{m':Nat} {c:Blk},(h++List.replicate m Blk.res)[m']? =some c->c.own=true->h[m']? =some c:=λ{m' c} hm hc=>by
   by_cases hkl:m'<h.length
   ·rw[B8 hkl] at hm;exact hm
   ·rw[B3 (by omega),J2] at hm
    split at hm<;>simp at hm
    subst hm;cases hc
  exact λn1 n2 b c h1 h2 h3 h4=>hr.one _ _ _ _ (key h1 h3) (key h2 h4) h3 h4
theorem X8 (w:World) (c:Array Value) (t:TypeId) (a:Addr):(w.alloc (.cells c t)).frozen? a=w.frozen? a:=by
 by_cases h:a.block=w.heap.size
 ·have e1:(w.alloc (.cells c t)).heap[a.block]? =some (.cells c t):=by rw[h];exact heap_alloc_new w _
  have e2:w.heap[a.block]? =none:=by rw[h];simp
  simp[World.frozen?,e1,e2]
 ·exact World.frozen?_alloc_old _ _ _ h
theorem jV (w:World) (o:Obj) (ho:∀c t f,o≠.cells c t f) (a:Addr):(w.alloc o).frozen? a=w.frozen? a:=by
 by_cases h:a.block=w.heap.size
 ·have e1:(w.alloc o).heap[a.block]? =some o:=by rw[h];exact heap_alloc_new w _
  have e2:w.heap[a.block]? =none:=by rw[h];simp
  unfold World.frozen?
  rw[e1,e2]
  cases o<;>first|rfl|exact absurd rfl (ho _ _ _)
 ·exact World.frozen?_alloc_old _ _ _ h
theorem xW (w:World) (o:Obj) (i:Nat) (hi:i<w.heap.size):(w.alloc o).heap[i]? =w.heap[i]? :=heap_alloc_old w o i hi
theorem wG {w:World} {S:Stb} {h:Hp} {β:Bet} (hr:HR w S h β) {n:Nat} (hn:h[n]? =some .res) (o:Obj) (blk':Blk) (base:Nat)
 (hfz:∀a,(w.alloc o).frozen? a=w.frozen? a)
 (hbr:F7 w S h β (w.alloc o) S (h.set n blk') (β.set n (some (w.heap.size,base)))->(∀o,¬S w.heap.size o)->(β.set n (some (w.heap.size,base)))[n]? =some (some (w.heap.size,base))->
   (w.alloc o).heap[w.heap.size]? =some o->BR (w.alloc o) S (h.set n blk') (β.set n (some (w.heap.size,base))) n blk') (hone:blk'.own=false:=by rfl):
 HR (w.alloc o) S (h.set n blk') (β.set n (some (w.heap.size,base)))/\F7 w S h β (w.alloc o) S (h.set n blk') (β.set n (some (w.heap.size,base))):=by
 have hnone:β[n]? =some none:=by have:=hr.blk n _ hn;simpa[BR] using this
 have hnb:n<β.length:=(A4.1 hnone).1
 refine upd hr hn (some (w.heap.size,base)) (by simp) (λi hi _=>heap_alloc_old w o i hi) (λi p c e f hp=>by rw[hnone] at hp;simp at hp) (λi p l hp=>by rw[hnone] at hp;simp at hp) hfz
  (λi p o hp=>by rw[hnone] at hp;simp at hp) (λb p hb=>.inr (by cases hb;exact B1 _)) (by simp[BEv]) (λE=>hbr E (λo ho=>absurd (hr.old _ _ ho) (by omega)) (by simp[hnb]) (heap_alloc_new w o)) (hone:=λh=>absurd (hone.symm.trans h) (by decide))
theorem written {w:World} {S:Stb} {h:Hp} {β:Bet} (hr:HR w S h β) {n b base:Nat} {blk blk':Blk} (hn:h[n]? =some blk) (hb:β[n]? =some (some (b,base))) {cells cells':Array Value} {e:TypeId}
 (hw:w.heap[b]? =some (.cells cells e (0,0))) (hsz:cells'.size=cells.size) (base':Nat)
 (hS:∀o,S b o->cells'[o]? =cells[o]?) (hev:BEv blk (some (some (b,base))) blk' (some (some (b,base'))))
 (hbr:F7 w S h β (w.setRow b cells') S (h.set n blk') (β.set n (some (b,base')))->(β.set n (some (b,base')))[n]? =some (some (b,base'))->
   (w.setRow b cells').heap[b]? =some (.cells cells' e (0,0))->BR (w.setRow b cells') S (h.set n blk') (β.set n (some (b,base'))) n blk') (hone:blk'.own=false:=by rfl):
 HR (w.setRow b cells') S (h.set n blk') (β.set n (some (b,base')))/\F7 w S h β (w.setRow b cells') S (h.set n blk') (β.set n (some (b,base'))):=by
 have hnb:n<β.length:=(A4.1 hb).1
 have hnew:=setRow_heap w b cells cells' e (0,0) hw
 refine upd hr hn (some (b,base')) (by simp) (λi hi hne=>setRow_other w b i _ (λe=>hne base (by rw[e];exact hb))) (λi p c e' f hp hi=> ?_) (λi p l hp hi=>by rw[hb] at hp;simp at hp;obtain⟨rfl,_⟩:=hp;rw[hw] at hi;simp at hi) (λa=> ?_) (λi p o hp hs=> ?_)
  (λb' p hb'=>.inl ⟨base,by cases hb';exact hb⟩) (by rw[hb];exact hev) (λE=>hbr E (by simp[hnb]) hnew) (hone:=λh=>absurd (hone.symm.trans h) (by decide))
 ·rw[hb] at hp;simp at hp;obtain⟨rfl,_⟩:=hp
  rw[hw] at hi;simp at hi;obtain⟨rfl,rfl,rfl⟩:=hi
  exact⟨cells',hnew,hsz⟩
 ·by_cases hab:a.block=b
  ·unfold World.frozen?
   rw[hab,hnew,hw]
  ·exact World.frozen?_of_block (setRow_other w b a.block _ hab)
 ·rw[hb] at hp;simp at hp;obtain⟨rfl,_⟩:=hp
  rw[cell_of_row _ b o cells' e (0,0) hnew,cell_of_row _ b o cells e (0,0) hw]
  exact hS o hs
theorem fT {α:Type} {l:List α} {n:Nat} {x:α} (h:l[n]? =some x):l.set n x=l:=by
 apply L9
 intro i
 by_cases hi:n=i
 ·subst hi
  rw[G1 (A4.1 h).1,h]
 ·rw[C3 hi]
def J5:Hp->List Nat->List Blk->Hp
 |h,[],_=>h
 |h,n::ns,bs=>match bs with
  |[]=>h
  |b::bs=>J5 (h.set n b) ns bs
theorem jN:∀{ns:List Nat} {bs:List Blk} {h:Hp},(∀(i n:Nat) (b:Blk),ns[i]? =some n->bs[i]? =some b->h[n]? =some b)->J5 h ns bs=h
 |[],bs,h,_=>by simp[J5]
 |n::ns,[],h,_=>by simp[J5]
 |n::ns,b::bs,h,hh=>by
  rw[J5,fT (hh 0 n b rfl rfl)]
  exact jN λi m c hi hc=>hh (i+1) m c hi hc
theorem vJ:∀(ns:List Nat) (bs:List Blk) (h:Hp) (k:Hp->Prop),wZ h ns bs k->k (J5 h ns bs)
 |[],bs,h,k,hk=>by simpa[wZ,J5] using hk
 |n::ns,[],h,k,hk=>by simpa[wZ,J5] using hk
 |n::ns,b::bs,h,k,hk=>by
  simp only[wZ] at hk
  have:=(aG.1 hk).2
  simpa[J5] using vJ ns bs (h.set n b) k this
theorem pX:∀{ns:List Nat} {h:Hp} {k:List Blk->Prop},zW h ns k->∃bs,bs.length=ns.length/\(∀(i n:Nat),ns[i]? =some n->h[n]? =bs[i]?)/\k bs
 |[],h,k,hk=>⟨[],rfl,λi n hi=>by simp at hi,hk⟩
 |n::ns,h,k,hk=>by
  simp only[zW] at hk
  obtain⟨b,hb,hk⟩:=O6.1 hk
  obtain⟨bs,h1,h2,h3⟩:=pX hk
  refine⟨b::bs,by simp[h1],λi m hi=> ?_,h3⟩
  cases i with
  |zero=>simp at hi;subst hi;simpa using hb
  |succ i=>simpa using h2 i m (by simpa using hi)
end Go.PM
namespace Go.PM
variable [CN]
variable {P:Program} {T:TT}
def zEq:D->Value->Bool
 | .b x,.bool y=>x==y
 | .i k n,.int k' m=>decide (k=k')&&decide (n=m)
 | .s x,.string y=>decide (x.data.toList=y.data.toList)
 | .sl _ true [],.slice none 0 0=>true
 | .k (.pointer none),.pointer none=>true
 | .k .nilFunc,.nilFunc=>true
 | .k (.map none),.map none=>true
 | .k .nilIface,.nilIface=>true
 |_,_=>false
def TB:List D->List Value->Bool
 |[],[]=>true
 |x::xs,v::vs=>zEq x v&&TB xs vs
 |_,_=>false
theorem OK {x y:ByteArray} (h:x.data.toList=y.data.toList):x=y:=by
 cases x;cases y;simp at h;simp[h]
theorem A6s {x:D} {v:Value} (h:zEq x v=true) (w:World) (S:Stb):DR w S x v/\x.flat=true:=by
 unfold zEq at h
 split at h
 ·rw[beq_iff_eq.1 h];exact⟨.b _,rfl⟩
 ·simp at h;obtain⟨rfl,rfl⟩:=h;exact⟨.i _ _,rfl⟩
 ·rw[OK (G4 h)];exact⟨.s _,rfl⟩
 ·refine⟨?_,rfl⟩
  exact .sl _ true [] none 0 0 0 (λ_ _=>undef) (by simp) (by simp) (by simp) (by simp) (by simp) (by simp) (by simp)
 ·exact⟨.k _ rfl,rfl⟩
 ·exact⟨.k _ rfl,rfl⟩
 ·exact⟨.k _ rfl,rfl⟩
 ·exact⟨.k _ rfl,rfl⟩
 ·cases h
theorem gZ:∀{xs:List D} {vs:List Value},TB xs vs=true->xs.length=vs.length/\∀(j:Nat) (x:D) (v:Value),xs[j]? =some x->vs[j]? =some v->∀w S,DR w S x v/\x.flat=true
 |[],[],_=>by simp
 |[],_::_,h=>by simp[TB] at h
 |_::_,[],h=>by simp[TB] at h
 |x::xs,v::vs,h=>by
  simp only[TB,C8] at h
  obtain⟨h1,h2⟩:=h
  obtain⟨i1,i2⟩:=gZ h2
  refine⟨by simp[i1],λj y u hy hu w S=> ?_⟩
  cases j with
  |zero=>simp at hy hu;subst hy;subst hu;exact A6s h1 w S
  |succ j=>exact i2 j y u (by simpa using hy) (by simpa using hu) w S
def T3 (P:Program):List (Nat×TypeId)->List Field->Bool
 |[],[]=>true
 |p::ps,f::fs=>decide (p.1=f.offset)&&decide (p.2=f.type)&&decide (f.name≠ "_")&&decide (P.cellsOf f.type≠0)&&T3 P ps fs
 |_,_=>false
def kindOk (P:Program) (t:TypeId):TK->Bool
 | .bool=>match P.underlying t with|some .bool=>true|_=>false
 | .int k=>match P.underlying t with|some (.int k')=>decide (k=k')|_=>false
 | .string=>match P.underlying t with|some .string=>true|_=>false
 | .str fs=>match P.underlying t with|some (.struct fields)=>T3 P fs fields.toList&& !P.stoodInHeld t&& !P.eqGuardType P.depth t|_=>false
 | .arr n e=>match P.underlying t with|some (.array n' e')=>decide (n=n')&&decide (e=e')&& !P.eqGuardType P.depth t|_=>false
 | .slice e=>match P.underlying t with|some (.slice e')=>decide (e=e')|_=>false
 | .map k e=>match P.underlying t with|some (.map k' e')=>decide (k=k')&&decide (e=e')|_=>false
 | .other=>match P.underlying t with|some (.struct _)=>false|some (.array _ _)=>false|some _=>true|none=>false
def B2m (ti:TI) (z:Value):Bool:=match z with
 | .agg _=>G8 ti
 | .tuple _=>false
 |_=> !G8 ti
def dO (P:Program) (t:TypeId) (ti:TI):Bool:=
 kindOk P t ti.kind&&match P.info? t with
  |some i=>decide (i.size=ti.size)&&decide (i.bytes=ti.bytes)&&decide (ti.zero.length=ti.size)&&match i.zero with
   |some z=>TB ti.zero z.cells.toList&&B2m ti z
   |none=>false
  |none=>false
def W9 (P:Program) (T:TT):Bool:=T.all λp=>dO P p.1 p.2
theorem H7 {T:TT} {t:TypeId} {ti:TI} (hT:W9 P T=true) (h:J8 T t=some ti):dO P t ti=true:=by
 induction T with
 |nil=>simp[J8] at h
 |cons p T ih=>
  obtain⟨k,v⟩:=p
  simp only[W9,AO,C8] at hT
  simp only[J8] at h
  split at h
  ·rename_i hk
   have:k=t:=B2 hk
   subst this;cases h;exact hT.1
  ·exact ih hT.2 h
structure nZ (P:Program) (t:TypeId) (ti:TI) (i:TypeInfo) (z:Value):Prop where
 info:P.info? t=some i
 size:i.size=ti.size
 bytes:i.bytes=ti.bytes
 zlen:ti.zero.length=ti.size
 zero:i.zero=some z
 zs:TB ti.zero z.cells.toList=true
 zk:B2m ti z=true
theorem S5 {t:TypeId} {ti:TI} (h:dO P t ti=true):∃i z,nZ P t ti i z:=by
 simp only[dO,C8] at h
 obtain⟨_,h⟩:=h
 cases hi:P.info? t with
 |none=>simp[hi] at h
 |some i=>
  simp only[hi] at h
  cases hz:i.zero with
  |none=>simp[hz] at h
  |some z=>
   simp only[hz,C8,F3] at h
   exact⟨i,z,hi,h.1.1.1,h.1.1.2,h.1.2,hz,h.2.1,h.2.2⟩
theorem nZ.agg {t:TypeId} {ti:TI} {i:TypeInfo} {z:Value} (h:nZ P t ti i z) (ha:G8 ti=true):∃cs,z=.agg cs:=by
 have:=h.zk
 unfold B2m at this
 split at this
 ·exact⟨_,rfl⟩
 ·cases this
 ·rw[ha] at this;cases this
theorem nZ.nag {t:TypeId} {ti:TI} {i:TypeInfo} {z:Value} (h:nZ P t ti i z) (ha:G8 ti=false):one z=true:=by
 have:=h.zk
 unfold B2m at this
 split at this
 ·rw[ha] at this;cases this
 ·cases this
 ·cases z<;>simp_all[one]
theorem cG {t:TypeId} {ti:TI} (h:dO P t ti=true):kindOk P t ti.kind=true:=by
 simp only[dO,C8] at h;exact h.1
theorem P8 {t e:TypeId} {ti:TI} (h:dO P t ti=true) (hk:ti.kind=.slice e):P.underlying t=some (.slice e):=by
 have:=cG h
 rw[hk] at this
 simp only[kindOk] at this
 split at this
 ·rename_i e' he;rw[he,G4 this]
 ·cases this
theorem iY {t e:TypeId} {n:Nat} {ti:TI} (h:dO P t ti=true) (hk:ti.kind=.arr n e):P.underlying t=some (.array n e):=by
 have:=cG h
 rw[hk] at this
 simp only[kindOk] at this
 split at this
 ·rename_i n' e' he;simp at this;rw[he,this.1.1,this.1.2]
 ·cases this
theorem IW {t e:TypeId} {n:Nat} {ti:TI} (h:dO P t ti=true) (hk:ti.kind=.arr n e):P.eqGuardType P.depth t=false:=by
 have:=cG h
 rw[hk] at this
 simp only[kindOk] at this
 split at this
 ·rename_i n' e' he;simp at this;exact this.2
 ·cases this
theorem zS {t k e:TypeId} {ti:TI} (h:dO P t ti=true) (hk:ti.kind=.map k e):P.underlying t=some (.map k e):=by
 have:=cG h
 rw[hk] at this
 simp only[kindOk] at this
 split at this
 ·rename_i n' e' he;simp at this;rw[he,this.1,this.2]
 ·cases this
theorem fZ {t:TypeId} {k:IntKind} {ti:TI} (h:dO P t ti=true) (hk:ti.kind=.int k):P.underlying t=some (.int k):=by
 have:=cG h
 rw[hk] at this
 simp only[kindOk] at this
 split at this
 ·rename_i k' he;rw[he,G4 this]
 ·cases this
theorem jU {t:TypeId} {ti:TI} (h:dO P t ti=true) (hk:ti.kind=.bool):P.underlying t=some .bool:=by
 have:=cG h
 rw[hk] at this
 simp only[kindOk] at this
 split at this
 ·assumption
 ·cases this
theorem X0 {t:TypeId} {ti:TI} (h:dO P t ti=true) (hk:ti.kind=.string):P.underlying t=some .string:=by
 have:=cG h
 rw[hk] at this
 simp only[kindOk] at this
 split at this
 ·assumption
 ·cases this
theorem iX {t:TypeId} {fs:List (Nat×TypeId)} {ti:TI} (h:dO P t ti=true) (hk:ti.kind=.str fs):
 ∃fields,P.underlying t=some (.struct fields)/\T3 P fs fields.toList=true/\P.stoodInHeld t=false/\P.eqGuardType P.depth t=false:=by
 have:=cG h
 rw[hk] at this
 simp only[kindOk] at this
 split at this
 ·rename_i fields he
  simp only[C8,jD] at this
  exact⟨fields,he,this.1.1,this.1.2,this.2⟩
 ·cases this
theorem iZ:∀{ps:List (Nat×TypeId)} {fs:List Field},T3 P ps fs=true->ps.length=fs.length/\∀(j:Nat) (p:Nat×TypeId),ps[j]? =some p->
 ∃f,fs[j]? =some f/\p.1=f.offset/\p.2=f.type/\f.name≠ "_" /\P.cellsOf f.type≠0
 |[],[],_=>by simp
 |[],_::_,h=>by simp[T3] at h
 |_::_,[],h=>by simp[T3] at h
 |p::ps,f::fs,h=>by
  simp only[T3,C8,F3] at h
  obtain⟨⟨⟨⟨h1,h2⟩,h3⟩,h4⟩,h5⟩:=h
  obtain⟨i1,i2⟩:=iZ h5
  refine⟨by simp[i1],λj q hq=> ?_⟩
  cases j with
  |zero=>simp at hq;subst hq;exact⟨f,rfl,h1,h2,h3,h4⟩
  |succ j=>
   obtain⟨g,hg,r⟩:=i2 j q (by simpa using hq)
   exact⟨g,by simpa using hg,r⟩
theorem vL {t:TypeId} {ti:TI} (h:dO P t ti=true) (w:World):(isAgg t).run P w=.ok (G8 ti) w:=by
 have hk:=cG h
 unfold isAgg G8
 cases hkk:ti.kind with
 |bool=>simp[run_underlying (jU h hkk)]
 |int k=>simp[run_underlying (fZ h hkk)]
 |string=>simp[run_underlying (X0 h hkk)]
 |str fs=>obtain⟨f,hf,_⟩:=iX h hkk;simp[run_underlying hf]
 |arr n e=>simp[run_underlying (iY h hkk)]
 |slice e=>simp[run_underlying (P8 h hkk)]
 |map k e=>simp[run_underlying (zS h hkk)]
 |other=>
  rw[hkk] at hk
  simp only[kindOk] at hk
  cases hu:P.underlying t with
  |none=>simp[hu] at hk
  |some d=>cases d<;>simp_all[run_underlying hu]
theorem Z2 {t:TypeId} {i:TypeInfo} (h:P.info? t=some i) (w:World):(typeInfo t).run P w=.ok i w:=by
 unfold typeInfo
 simp[program,Sem.run,h]
theorem P7 {t:TypeId} {ti:TI} (h:dO P t ti=true) (w:World):(sizeOf t).run P w=.ok ti.size w:=by
 obtain⟨i,z,hi⟩:=S5 h
 simp[sizeOf,Z2 hi.info,hi.size]
theorem cH {t:TypeId} {ti:TI} {i:TypeInfo} {z:Value} (h:nZ P t ti i z) (w:World):(zeroValue t).run P w=.ok z w:=by
 simp[zeroValue,Z2 h.info,h.zero]
def ov {α:Type} (xs:List α) (o:Nat) (ys:List α):List α:=xs.take o++ys++xs.drop (o+ys.length)
theorem eK {α:Type} {xs ys:List α} {o:Nat} (h:o+ys.length<=xs.length) (j:Nat):
 (ov xs o ys)[j]? =if j<o then xs[j]? else if j<o+ys.length then ys[j-o]? else xs[j]? :=by
 unfold ov
 have ht:(xs.take o).length=o:=by simp;omega
 by_cases h1:j<o
 ·rw[if_pos h1,D5,B8 (by omega),I8 h1]
 ·rw[if_neg h1]
  by_cases h2:j<o+ys.length
  ·rw[if_pos h2,B8 (by simp;omega),B3 (by omega),ht]
  ·rw[if_neg h2,B3 (by simp;omega),J4]
   congr 1
   simp
   omega
theorem bK {α:Type} {xs ys:List α} {o:Nat} (h:o+ys.length<=xs.length):(ov xs o ys).length=xs.length:=by
 unfold ov;simp;omega
theorem jT {α:Type}:∀(ys xs:List α) (o:Nat) (k:List α->Prop),IU xs o ys k->ys=[]/\k xs∨ys≠[]/\o+ys.length<=xs.length/\k (ov xs o ys)
 |[],xs,o,k,h=>.inl ⟨rfl,by simpa[IU] using h⟩
 |y::ys,xs,o,k,h=>by
  simp only[IU] at h
  obtain⟨h1,h2⟩:=aG.1 h
  refine .inr ⟨by simp,?_⟩
  rcases jT ys _ _ _ h2 with⟨rfl,h3⟩|⟨_,h3,h4⟩
  ·refine⟨by simp;omega,?_⟩
   have:xs.set o y=ov xs o [y]:=by
    apply L9
    intro j
    rw[eK (by simp;omega),K5]
    by_cases hj:o=j
    ·subst hj;simp[h1]
    ·rw[if_neg hj]
     split
     ·rfl
     ·rw[if_neg (by simp;omega)]
   rwa[<-this]
  ·have hl:o+1+ys.length<=xs.length:=by simpa using h3
   refine⟨by simp;omega,?_⟩
   have:ov (xs.set o y) (o+1) ys=ov xs o (y::ys):=by
    apply L9
    intro j
    rw[eK h3,eK (by simp;omega),K5]
    by_cases hj:o=j
    ·subst hj;simp[h1]
    ·simp only[if_neg hj,M2]
     by_cases a:j<o
     ·rw[if_pos a,if_pos (by omega)]
     ·rw[if_neg a,if_neg (by omega:¬j<o+1)]
      by_cases b:j<o+1+ys.length
      ·rw[if_pos b,if_pos (by omega),show j-o=(j-(o+1))+1 from by omega,R6]
      ·rw[if_neg b,if_neg (by omega)]
   rwa[<-this]
def OR (w:World) (S:Stb) (h:Hp) (β:Bet) (ρ:Operand->Value) (xs:List Operand) (vs:List V):Prop:=
 xs.length=vs.length/\∀(i:Nat) (x:Operand) (v:V),xs[i]? =some x->vs[i]? =some v->VR w S h β v (ρ x)
def OpS (P:Program) (o:Oper) (vs:List V) (ns:List Nat) (bs bs':List Blk) (v:V):Prop:=
 ∀(ρ:Operand->Value) (w:World) (S:Stb) (h:Hp) (β:Bet),HR w S h β->OR w S h β ρ (F9 o.op) vs->(∀(i n:Nat),ns[i]? =some n->h[n]? =bs[i]?)->
  ∃nx w' S' β' cv,(execOp ρ o).run P w=.ok nx w'/\(nx=.value cv∨(nx=.skip/\cv=undef))/\
   HR w' S' (J5 h ns bs') β'/\VR w' S' (J5 h ns bs') β' v cv/\F7 w S h β w' S' (J5 h ns bs') β'
theorem OpS.pure {o:Oper} {vs:List V} {ns:List Nat} {bs:List Blk} {v:V}
 (h:∀(ρ:Operand->Value) (w:World) (S:Stb) (h:Hp) (β:Bet),HR w S h β->OR w S h β ρ (F9 o.op) vs->(∀(i n:Nat),ns[i]? =some n->h[n]? =bs[i]?)->
   ∃nx cv,(execOp ρ o).run P w=.ok nx w/\(nx=.value cv∨(nx=.skip/\cv=undef))/\VR w S h β v cv):OpS P o vs ns bs bs v:=by
 intro ρ w S hp β hr ho hb
 obtain⟨nx,cv,h1,h2,h3⟩:=h ρ w S hp β hr ho hb
 have hs:J5 hp ns bs=hp:=jN λi n b hi hbi=>by rw[hb i n hi,hbi]
 rw[hs]
 exact⟨nx,w,S,β,cv,h1,h2,hr,h3,F7.refl _ _ _ _⟩
theorem OR.one {w:World} {S:Stb} {h:Hp} {β:Bet} {ρ:Operand->Value} {x:Operand} {v:V} (ho:OR w S h β ρ [x] [v]):VR w S h β v (ρ x):=ho.2 0 x v rfl rfl
theorem OR.two {w:World} {S:Stb} {h:Hp} {β:Bet} {ρ:Operand->Value} {x y:Operand} {p v:V} (ho:OR w S h β ρ [x,y] [p,v]):VR w S h β p (ρ x)/\VR w S h β v (ρ y):=
 ⟨ho.2 0 x p rfl rfl,ho.2 1 y v rfl rfl⟩
theorem OR.three {w:World} {S:Stb} {h:Hp} {β:Bet} {ρ:Operand->Value} {x y z:Operand} {p v t:V} (ho:OR w S h β ρ [x,y,z] [p,v,t]):
 VR w S h β p (ρ x)/\VR w S h β v (ρ y)/\VR w S h β t (ρ z):=
 ⟨ho.2 0 x p rfl rfl,ho.2 1 y v rfl rfl,ho.2 2 z t rfl rfl⟩
def FR (w:World) (S:Stb) (b off:Nat) (cs:List D):Prop:=
 ∀(j:Nat) (c:D),cs[j]? =some c->∃u,w.cell? ⟨b,off+j,none⟩=some u/\DR w S c u/\c.flat=true
def XW (w:World) (S:Stb) (h:Hp) (β:Bet) (b off:Nat) (cs:List V):Prop:=
 ∀(j:Nat) (c:V),cs[j]? =some c->∃u,w.cell? ⟨b,off+j,none⟩=some u/\VR w S h β c u/\c.flat=true
theorem bR (b o n:Nat):(⟨b,o,none⟩:Addr).add n=⟨b,o+n,none⟩:=Addr.add_lit b o n
theorem KB {α:Type} {R:α->Value->Prop} {w:World} {b off:Nat}:∀(cs:List α),(∀(j:Nat) (c:α),cs[j]? =some c->∃u,w.cell? ⟨b,off+j,none⟩=some u/\R c u)->
 ∃us:List Value,us.length=cs.length/\(∀(j:Nat) (y:Value),us[j]? =some y->w.cell? ((⟨b,off,none⟩:Addr).add j)=some y)/\∀(j:Nat) (c:α) (y:Value),cs[j]? =some c->us[j]? =some y->R c y:=by
 intro cs
 induction cs generalizing off with
 |nil=>exact λ_=>⟨[],rfl,by simp,by simp⟩
 |cons c cs ih=>
  intro h
  obtain⟨y0,h1,h2⟩:=h 0 c rfl
  obtain⟨us,g1,g2,g3⟩:=ih (off:=off+1) λj x hx=>by
   obtain⟨u,a,b⟩:=h (j+1) x (by simpa using hx)
   exact⟨u,by rwa[show off+1+j=off+(j+1) by omega],b⟩
  refine⟨y0::us,by simp[g1],λj v hv=> ?_,λj x v hx hv=> ?_⟩
  ·cases j with
   |zero=>simp at hv;subst hv;rw[bR];exact h1
   |succ j=>
    have:=g2 j v (by simpa using hv)
    rw[bR] at this ⊢
    rwa[show off+1+j=off+(j+1) by omega] at this
  ·cases j with
   |zero=>simp at hx hv;subst hx;subst hv;exact h2
   |succ j=>exact g3 j x v (by simpa using hx) (by simpa using hv)
theorem oE {t:TypeId} {ti:TI} (h:dO P t ti=true) (ha:G8 ti=true) {w:World} {b off:Nat} {us:List Value} (hl:us.length=ti.size)
 (hu:∀(j:Nat) (y:Value),us[j]? =some y->w.cell? ((⟨b,off,none⟩:Addr).add j)=some y):(loadVar t ⟨b,off,none⟩).run P w=.ok (.agg us.toArray) w:=by
 simp[loadVar,vL h,ha,P7 h,<-hl,run_loadCells_list w _ us hu]
theorem sI {t:TypeId} {ti:TI} (h:dO P t ti=true) (ha:G8 ti=false) {w:World} {a:Addr} {u:Value} (hu:w.cell? a=some u):(loadVar t a).run P w=.ok u w:=by
 simp[loadVar,vL h,ha,load,Sem.run,hu]
theorem qV {α:Type}:∀(n:Nat) (xs:List α) (k:List α->Prop),CU xs n k->n<=xs.length/\k (xs.take n)
 |0,xs,k,h=>by simpa[CU] using h
 |n+1,[],k,h=>by simp[CU] at h
 |n+1,x::xs,k,h=>by
  simp only[CU] at h
  obtain⟨h1,h2⟩:=qV n xs _ h
  exact⟨by simp;omega,by simpa using h2⟩
theorem yF {α:Type}:∀(n:Nat) (xs:List α) (k:List α->Prop),JV xs n k->n<=xs.length/\k (xs.drop n)
 |0,xs,k,h=>by simpa[JV] using h
 |n+1,[],k,h=>by simp[JV] at h
 |n+1,x::xs,k,h=>by
  simp only[JV] at h
  obtain⟨h1,h2⟩:=yF n xs _ h
  exact⟨by simp;omega,by simpa using h2⟩
theorem CC:∀(cs:List V) (k:List D->Prop) (no:Prop),A0z cs k no->(∃l:List D,cs=l.map .d/\k l)∨no
 |[],k,no,h=>.inl ⟨[],rfl,by simpa[A0z] using h⟩
 |x::r,k,no,h=>by
  cases x with
  |d y=>
   simp only[A0z] at h
   rcases CC r _ _ h with⟨l,rfl,hk⟩|hno
   ·exact .inl ⟨y::l,rfl,hk⟩
   ·exact .inr hno
  |_=>exact .inr (by simpa[A0z] using h)
def MkA (cs:List V) (v:V):Prop:=(∃l:List D,cs=l.map .d/\v=.d (.agg l))∨v=.agg cs
theorem BI {cs:List V} {k:V->Prop} (h:VA cs k):∃v,k v/\MkA cs v:=by
 unfold VA at h
 rcases CC _ _ _ h with⟨l,rfl,hk⟩|hno
 ·exact⟨_,hk,.inl ⟨l,rfl,rfl⟩⟩
 ·exact⟨_,hno,.inr rfl⟩
theorem MkA.rel {cs:List V} {v:V} (h:MkA cs v) {w:World} {S:Stb} {hp:Hp} {β:Bet} {us:List Value} (hl:us.length=cs.length)
 (hr:∀(j:Nat) (c:V) (y:Value),cs[j]? =some c->us[j]? =some y->VR w S hp β c y/\c.flat=true):VR w S hp β v (.agg us.toArray):=by
 have hget:∀(j:Nat) (c:V),cs[j]? =some c->∃y,us[j]? =some y:=λj c hc=>by
  have hj:j<us.length:=by rw[hl];exact(A4.1 hc).1
  exact⟨us[j],A3 hj⟩
 rcases h with⟨l,rfl,rfl⟩|rfl
 ·refine .d (.agg l _ (by simpa using hl) (λj c hc=> ?_) λj c y hc hy=> ?_)
  ·obtain⟨y,hy⟩:=hget j (.d c) (by simp[hc])
   exact(hr j (.d c) y (by simp[hc]) hy).2
  ·have:=(hr j (.d c) y (by simp[hc]) (by simpa using hy)).1
   cases this;assumption
 ·refine .agg cs _ (by simpa using hl) (λj c hc=> ?_) λj c y hc hy=>(hr j c y hc (by simpa using hy)).1
  obtain⟨y,hy⟩:=hget j c hc
  exact(hr j c y hc hy).2
def RdD (ti:TI) (cs:List D) (o:Nat) (x:D):Prop:=
 (G8 ti=true/\o+ti.size<=cs.length/\x=.agg ((cs.drop o).take ti.size))∨(G8 ti=false/\cs[o]? =some x)
theorem fC {ti:TI} {cs:List D} {o:Nat} {k:D->Prop} (hk:HC ti cs o k):∃x,k x/\RdD ti cs o x:=by
 unfold HC at hk
 cases ha:G8 ti with
 |true=>
  simp only[ha] at hk
  cases o with
  |zero=>
   simp only[] at hk
   split at hk
   ·rename_i h1
    have h1:=B2 h1
    exact⟨_,hk,.inl ⟨ha,by omega,by simp[<-h1]⟩⟩
   ·obtain⟨h3,h4⟩:=qV _ _ _ hk
    exact⟨_,h4,.inl ⟨ha,by omega,by simp⟩⟩
  |succ o=>
   simp only[] at hk
   obtain⟨h1,h2⟩:=yF _ _ _ hk
   obtain⟨h3,h4⟩:=qV _ _ _ h2
   exact⟨_,h4,.inl ⟨ha,by simp at h3;omega,rfl⟩⟩
 |false=>
  simp only[ha] at hk
  obtain⟨x,h1,h2⟩:=O6.1 hk
  exact⟨x,h2,.inr ⟨ha,h1⟩⟩
theorem bM {α:Type} {cs:List α} {o n j:Nat} {c:α} (hj:((cs.drop o).take n)[j]? =some c):cs[o+j]? =some c:=by
 rw[gQ] at hj
 split at hj
 ·simpa using hj
 ·cases hj
theorem RdD.run {t:TypeId} {ti:TI} (h:dO P t ti=true) {cs:List D} {o:Nat} {x:D} (hk:RdD ti cs o x) {w:World} {S:Stb} {b off:Nat} (hc:FR w S b off cs):
 ∃cv,(loadVar t ⟨b,off+o,none⟩).run P w=.ok cv w/\DR w S x cv:=by
 rcases hk with⟨ha,hl,rfl⟩|⟨ha,hx⟩
 ·obtain⟨us,g1,g2,g3⟩:=KB (R:=λc y=>DR w S c y/\c.flat=true) (w:=w) (b:=b) (off:=off+o) ((cs.drop o).take ti.size) λj c hj=>by
   obtain⟨y,a1,a2,a3⟩:=hc _ c (bM hj)
   exact⟨y,by rwa[show off+o+j=off+(o+j) by omega],a2,a3⟩
  have hlen:((cs.drop o).take ti.size).length=ti.size:=by simp;omega
  refine⟨_,oE h ha (by omega) g2,.agg _ _ (by simpa using g1) (λj c hj=> ?_) λj c y hj hu=>(g3 j c y hj (by simpa using hu)).1⟩
  have hjl:j<us.length:=by rw[g1];exact(A4.1 hj).1
  exact(g3 j c _ hj (A3 hjl)).2
 ·obtain⟨y,a1,a2,_⟩:=hc o x hx
  exact⟨y,sI h ha a1,a2⟩
def RdV (ti:TI) (cs:List V) (o:Nat) (x:V):Prop:=
 (G8 ti=true/\o+ti.size<=cs.length/\MkA ((cs.drop o).take ti.size) x)∨(G8 ti=false/\cs[o]? =some x)
theorem BD {ti:TI} {cs:List V} {o:Nat} {k:V->Prop} (hk:A2c ti cs o k):∃x,k x/\RdV ti cs o x:=by
 unfold A2c at hk
 cases ha:G8 ti with
 |true=>
  simp only[ha] at hk
  obtain⟨h1,h2⟩:=yF _ _ _ hk
  obtain⟨h3,h4⟩:=qV _ _ _ h2
  obtain⟨v,hv,hm⟩:=BI h4
  exact⟨v,hv,.inl ⟨ha,by simp at h3;omega,hm⟩⟩
 |false=>
  simp only[ha] at hk
  obtain⟨x,h1,h2⟩:=O6.1 hk
  exact⟨x,h2,.inr ⟨ha,h1⟩⟩
theorem RdV.run {t:TypeId} {ti:TI} (h:dO P t ti=true) {cs:List V} {o:Nat} {x:V} (hk:RdV ti cs o x) {w:World} {S:Stb} {hp:Hp} {β:Bet} {b off:Nat} (hc:XW w S hp β b off cs):
 ∃cv,(loadVar t ⟨b,off+o,none⟩).run P w=.ok cv w/\VR w S hp β x cv:=by
 rcases hk with⟨ha,hl,hm⟩|⟨ha,hx⟩
 ·obtain⟨us,g1,g2,g3⟩:=KB (R:=λc y=>VR w S hp β c y/\c.flat=true) (w:=w) (b:=b) (off:=off+o) ((cs.drop o).take ti.size) λj c hj=>by
   obtain⟨y,a1,a2,a3⟩:=hc _ c (bM hj)
   exact⟨y,by rwa[show off+o+j=off+(o+j) by omega],a2,a3⟩
  have hlen:((cs.drop o).take ti.size).length=ti.size:=by simp;omega
  exact⟨_,oE h ha (by omega) g2,hm.rel g1 λj c y hj hu=>g3 j c y hj hu⟩
 ·obtain⟨y,a1,a2,_⟩:=hc o x hx
  exact⟨y,sI h ha a1,a2⟩
theorem BR.vard_cells {w:World} {S:Stb} {h:Hp} {β:Bet} {n:Nat} {cs:List D} (hb:BR w S h β n (.vard cs)):∃b,β[n]? =some (some (b,0))/\FR w S b 0 cs:=by
 obtain⟨b,c,e,h1,h2,h3,h4,h5⟩:=hb
 refine⟨b,h1,λj x hj=> ?_⟩
 have hj':j<c.size:=by rw[h3];exact(A4.1 hj).1
 obtain⟨a1,a2⟩:=h4 j x c[j] hj (B7 hj')
 exact⟨c[j],by rw[C1,cell_of_row w b j c e (0,0) h2,B7 hj'],a2,a1⟩
theorem BR.var_cells {w:World} {S:Stb} {h:Hp} {β:Bet} {n:Nat} {cs:List V} (hb:BR w S h β n (.var cs)):∃b,β[n]? =some (some (b,0))/\XW w S h β b 0 cs:=by
 obtain⟨b,c,e,h1,h2,h3,h4,h5⟩:=hb
 refine⟨b,h1,λj x hj=> ?_⟩
 have hj':j<c.size:=by rw[h3];exact(A4.1 hj).1
 obtain⟨a1,a2⟩:=h4 j x c[j] hj (B7 hj')
 exact⟨c[j],by rw[C1,cell_of_row w b j c e (0,0) h2,B7 hj'],a2,a1⟩
theorem BR.row_cells {w:World} {S:Stb} {h:Hp} {β:Bet} {n ver sz:Nat} {ro:Bool} {xs:List D} (hb:BR w S h β n (.row ver sz ro xs)) {i:Nat} {x:D} (hx:xs[i]? =some x):
 ∃b base,β[n]? =some (some (b,base))/\FR w S b (base+i*sz) x.cells:=by
 obtain⟨h0,h1,⟨rfl,_⟩|⟨b,base,c,e,h2,h3,h4,h5,h6⟩⟩:=hb
 ·simp at hx
 ·refine⟨b,base,h2,λj y hy=> ?_⟩
  obtain⟨u,hu,hd⟩:=h5 i x j y hx hy
  exact⟨u,by rw[cell_of_row w b _ c e (0,0) h3];exact hu,hd,(h1 i x hx).2 j y hy⟩
theorem BR.ar_cells {w:World} {S:Stb} {h:Hp} {β:Bet} {n:Nat} {vs:List (Nat×List D)} (hb:BR w S h β n (.ar vs)) {i a:Nat} {cs:List D} (hi:vs[i]? =some (a,cs)):FR w S a 0 cs:=by
 obtain⟨_,q,h2,_⟩:=hb
 obtain⟨_,⟨c,e,g2,g3,g4⟩,_⟩:=h2 i a cs hi
 intro j x hj
 have hj':j<c.size:=by rw[g3];exact(A4.1 hj).1
 obtain⟨a1,a2⟩:=g4 j x c[j] hj (B7 hj')
 exact⟨c[j],by rw[C1,cell_of_row w a j c e (0,0) g2,B7 hj'],a2,a1⟩
theorem XN (hT:W9 P T=true) {o:Oper} {t:TypeId} {a:Operand} (ho:o.op=.load t a) {av:V} {bs:List Blk} {K:Kt} (hbs:bs.length=(fB av).length) (h:OU T t av bs K):
 ∃v,K v bs/\OpS P o [av] (fB av) bs bs v:=by
 unfold OU at h
 cases hty:J8 T t with
 |none=>simp[hty] at h
 |some ti=>
  have hti:=H7 hT hty
  simp only[hty] at h
  have hexec:∀(ρ:Operand->Value) (w:World) (b off:Nat) cv,ρ a=.pointer (some ⟨b,off,none⟩)->(loadVar t ⟨b,off,none⟩).run P w=.ok cv w->(execOp ρ o).run P w=.ok (.value cv) w:=by
   intro ρ w b off cv hρ hl
   simp[execOp,ho,Instr.loadAt,Instr.sureAddr,hρ,hl]
  split at h
  ·rename_i cs off
   obtain⟨x,hk,hx⟩:=fC h
   refine⟨_,hk,OpS.pure λρ w S hp β hr hor _=> ?_⟩
   have hv:=(show OR w S hp β ρ [a] _ by simpa[ho,F9] using hor).one
   generalize ha:ρ a=av at hv
   cases hv with
   |rp _ _ b base uf h1 h2=>
    obtain⟨cv,e1,e2⟩:=hx.run hti (w:=w) (S:=S) (b:=b) (off:=base) λj c hj=>⟨uf j,(h1 j c hj).2.1,h2 j c hj,(h1 j c hj).1⟩
    exact⟨_,cv,hexec ρ w b _ cv ha e1,.inl rfl,.d e2⟩
  ·rename_i n ver e off cs
   obtain⟨x,hk,hx⟩:=fC h
   refine⟨_,hk,OpS.pure λρ w S hp β hr hor hb=> ?_⟩
   have hv:=(show OR w S hp β ρ [a] _ by simpa[ho,F9] using hor).one
   have hn:hp[n]? =some (.vard cs):=by simpa[fB] using hb 0 n rfl
   generalize ha:ρ a=av at hv
   cases hv with
   |ptr h1 h2=>
    simp only[PR,hn] at h2
    obtain⟨b,hbn,rfl,rfl,rfl⟩:=h2
    obtain⟨b',hb',hc⟩:=(hr.blk n _ hn).vard_cells
    rw[hbn] at hb';simp at hb';subst hb'
    obtain⟨cv,e1,e2⟩:=hx.run hti hc
    rw[C1] at e1
    exact⟨_,cv,hexec ρ w b _ cv ha e1,.inl rfl,.d e2⟩
  ·rename_i n ver e off cs
   obtain⟨x,hk,hx⟩:=BD h
   refine⟨_,hk,OpS.pure λρ w S hp β hr hor hb=> ?_⟩
   have hv:=(show OR w S hp β ρ [a] _ by simpa[ho,F9] using hor).one
   have hn:hp[n]? =some (.var cs):=by simpa[fB] using hb 0 n rfl
   generalize ha:ρ a=av at hv
   cases hv with
   |ptr h1 h2=>
    simp only[PR,hn] at h2
    obtain⟨b,hbn,rfl,rfl,rfl⟩:=h2
    obtain⟨b',hb',hc⟩:=(hr.blk n _ hn).var_cells
    rw[hbn] at hb';simp at hb';subst hb'
    obtain⟨cv,e1,e2⟩:=hx.run hti hc
    rw[C1] at e1
    exact⟨_,cv,hexec ρ w b _ cv ha e1,.inl rfl,e2⟩
  ·rename_i n ver e off ver' sz ro xs
   obtain⟨hver,h⟩:=h.elim
   subst hver
   obtain⟨y,hy,h⟩:=O6.1 h
   obtain⟨x,hk,hx⟩:=fC h
   refine⟨_,hk,OpS.pure λρ w S hp β hr hor hb=> ?_⟩
   have hv:=(show OR w S hp β ρ [a] _ by simpa[ho,F9] using hor).one
   have hn:hp[n]? =some (.row ver sz ro xs):=by simpa[fB] using hb 0 n rfl
   generalize ha:ρ a=av at hv
   cases hv with
   |ptr h1 h2=>
    simp only[PR,hn] at h2
    obtain⟨_,_,h2⟩:=h2
    obtain⟨b,base,hbn,rfl⟩:=h2 trivial
    obtain⟨b',base',hb',hc⟩:=(hr.blk n _ hn).row_cells hy
    rw[hbn] at hb';simp at hb';obtain⟨rfl,rfl⟩:=hb'
    obtain⟨cv,e1,e2⟩:=hx.run hti hc
    exact⟨_,cv,hexec ρ w b _ cv ha e1,.inl rfl,.d e2⟩
  ·rename_i n ver e off vs
   obtain⟨⟨ad,cs⟩,hy,h⟩:=O6.1 h
   obtain⟨x,hk,hx⟩:=fC h
   refine⟨_,hk,OpS.pure λρ w S hp β hr hor hb=> ?_⟩
   have hv:=(show OR w S hp β ρ [a] _ by simpa[ho,F9] using hor).one
   have hn:hp[n]? =some (.ar vs):=by simpa[fB] using hb 0 n rfl
   generalize ha:ρ a=av at hv
   cases hv with
   |ptr h1 h2=>
    simp only[PR,hn] at h2
    obtain⟨b,h2,rfl⟩:=h2
    rw[hy] at h2;simp at h2;subst h2
    obtain⟨cv,e1,e2⟩:=hx.run hti ((hr.blk n _ hn).ar_cells hy)
    rw[C1] at e1
    exact⟨_,cv,hexec ρ w _ _ cv ha e1,.inl rfl,.d e2⟩
  ·exact h.elim
end Go.PM

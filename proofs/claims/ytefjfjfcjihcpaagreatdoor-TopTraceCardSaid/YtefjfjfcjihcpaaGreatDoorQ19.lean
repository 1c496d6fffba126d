/- TopTrace: part 19 of the proof: for every input the law returns true, and its arguments read behind the call as they read before; where the library's table is as its own text lays it. -/
import Derived.Test.YtefjfjfcjihcpaaGreatDoorQ18
set_option maxRecDepth 10000
set_option maxHeartbeats 400000000
set_option linter.unusedSectionVars false
namespace Go.Proofs.YtefjfjfcjihcpaaGreatDoor
open Go.ChangeShapes Go.WideShapes Go.ChangeAt Go.RowKit Go.PM
def laid:List (String×DataW Unit):=[("math/bits.deBruijn64tab",Lib.tabData .u8 tab2)]
theorem glob_of_laid {W:World} (h:laidMetH Tryz.prog laid W):jY W (CO W):=by
 obtain⟨ps,hv,_⟩:=(show laidMet Tryz.prog laid W from h)
 obtain⟨t2,_,_⟩:=tab_head (t:=257) (e:=5) (n:=64) gNo2 (by kernel_rfl) (by kernel_rfl) (by kernel_rfl) (by kernel_rfl) (by kernel_rfl) hv
 have c2:=tab_cells t2 gNo2
 have hp:∀p∈CN.cells,p=(2,tab2.map (D.i .u8)):=λp hp=>by
  have hp:p∈[(2,tab2.map (D.i .u8))]:=hp
  simpa using hp
 constructor
 ·intro p h
  cases hp p h
  exact c2.1
 ·intro p h
  cases hp p h
  exact c2.2
def tabObj (cs:Array Value):Obj->Obj
 | .cells _ t f=>.cells cs t f
 |o=>o
def tabHeap (h:Array Obj):Array Obj:=
 h.modify 2 (tabObj (tab2.map (Value.int .u8)).toArray)
noncomputable def laidWorld (os:Os):World:=
 {World.holding Tryz.prog os ⟨#[],#[],[]⟩ with heap:=tabHeap (World.holding Tryz.prog os ⟨#[],#[],[]⟩).heap}
theorem topTrace_pure {xs:List D} (h:TA tt 12 Tryz.f3.params.toList xs):C9 Tryz.prog 3 (xs.map .d) (E5 [.b true]):=by
 obtain⟨_,_,rfl,⟨_,ha,rfl⟩,⟨_,_,rfl,⟨_,hs,rfl⟩,rfl⟩⟩:=h
 obtain⟨b,l,ho,hr⟩:=B4o (n:=4) ha
 obtain⟨s,e⟩:=B2x (n:=7) hs
 refine C9.le ?_ (PU b ho hr s)
 exact⟨VLe.d l,VLe.d (by rw[e];exact DLe.refl _),rfl⟩
theorem topTrace_reads (os:Os) {H:Type} (enc:TypeId×Value->H):∃places,DataW.whole enc Tryz.prog ((laidWorld os).forCall (λ_ _=>0) ⟨#[],#[(.agg #[.slice none 0 0,.int .i64 0,.slice none 0 0]),(.agg #[.int .i64 0,.int .i64 0])],[]⟩).memory Tryz.f3.params.toList Rows.topTraceSpec.vars false #[(.agg #[.slice none 0 0,.int .i64 0,.slice none 0 0]),(.agg #[.int .i64 0,.int .i64 0])].toList 8=some ([.agg [.nil,.lit (.int .i64 0),.nil],.agg [.lit (.int .i64 0),.lit (.int .i64 0)]],[],places):=⟨[],by kernel_rfl⟩
theorem topTrace_met (os:Os):laidMet Tryz.prog Rows.topTraceRow.laid ((laidWorld os).forCall (λ_ _=>0) ⟨#[],#[(.agg #[.slice none 0 0,.int .i64 0,.slice none 0 0]),(.agg #[.int .i64 0,.int .i64 0])],[]⟩).memory:=laidMet_of_run' 8 (by kernel_rfl) (by kernel_rfl)
set_option maxRecDepth 100000 in
theorem topTrace_lifted (os:Os) (started:os.Started) (H:Type) (enc:TypeId×Value->H) (F:Stop.Interp):
 ReturnsInHanded {} Tryz.checked os 3 .any ((OpenSpec.ofChange Rows.topTraceSpec).preRow enc Tryz.prog Tryz.f3 Rows.topTraceRow.domain false Rows.topTraceRow.laid) (((OpenSpec.ofChange Rows.topTraceSpec).at F).post enc Tryz.prog Tryz.f3 false true false false):=by
 obtain⟨places,hx⟩:=topTrace_reads os enc
 refine returnsInHanded_of_row (C:=Tryz.checked) (s:=OpenSpec.ofChange Rows.topTraceSpec) own started (by kernel_rfl) Tryz.func3
  (witness_row_at (enc:=enc) (C:=Tryz.checked) false (laidWorld os) #[(.agg #[.slice none 0 0,.int .i64 0,.slice none 0 0]),(.agg #[.int .i64 0,.int .i64 0])] rfl (by kernel_rfl) (by kernel_rfl) (by kernel_rfl)
    (OpenSpec.preRow_of_cond 8 hx (by kernel_rfl) (λk hk=>by cases hk) (by kernel_rfl) (topTrace_met os))) ?_
 intro W base args ds gs before hval hW _ hcond _ hL _ _
 exact QX (C:=Tryz.checked) (T:=tt) T5 (n:=12) Tryz.func3 rfl rfl (by kernel_rfl) laidOut (by kernel_rfl) rfl (tb:=4) (by kernel_rfl) rfl (m:=2) rfl
  (λds h=>by match ds,h with|[a0,a1],_=>rfl) (λxs hx=>topTrace_pure hx) W (glob_of_laid hL) base args ds gs before hval hW
theorem topTrace_said:Rows.TopTraceSaid:=
 OpenClaim.holds_of_cond 3 Tryz.f3 rfl rfl rfl rfl rfl rfl rfl ⟨rfl,rfl,rfl,rfl,rfl⟩ rfl rfl rfl rfl rfl (by kernel_rfl) Tryz.func3 (by kernel_rfl)
  (G4 (by kernel_rfl)) (by unfold Func.isWrapper;first|(rw[if_pos (by decide+kernel)];kernel_rfl)|(rw[if_neg (by decide+kernel)];exact⟨rfl,rfl⟩))
  (λos started H enc _ F=>by rw[OpenClaim.pre_eq_preRow];exact topTrace_lifted os started H enc F)
theorem topTrace_holds:Rows.TopTraceCardSaid:=
 Claim7.holds_tied_plain_at .later [] _ _ _ _ topTrace_said (λ_ h=>by cases h) (by kernel_rfl) (λ_ h=>by cases h) topTrace_row_tie rfl ⟨rfl,rfl⟩ (by kernel_rfl) rfl
  (λf fn hf hfn=>by
    obtain rfl:f=3:=T7 ((show Tryz.prog.funcNamed "backflush/backflushtop.TopTrace" =some 3 by kernel_rfl).symm.trans hf) |>.symm
    obtain rfl:fn=Tryz.f3:=(T7 (Tryz.func3.symm.trans hfn)).symm
    refine⟨by kernel_rfl,λj t ht=> ?_⟩
    have hall:(Tryz.f3.params.toList.all λt=> !Tryz.prog.wantsStandIn t)=true:=by kernel_rfl
    have:=C5.1 hall t (A7 (by simpa using ht))
    have e:Tryz.prog.wantsStandIn t=false:=by simpa using this
    exact e)
  (by kernel_rfl)
end Go.Proofs.YtefjfjfcjihcpaaGreatDoor

/- TopTrace: part 6 of the proof: for every input the law returns true, and its arguments read behind the call as they read before; where the library's table is as its own text lays it. -/
import Derived.Test.YtefjfjfcjihcpaaGreatDoorQ5
import Derived.RecoverIn
import Derived.KernelRfl
import Derived.Test.YtefjfjfcjihcpaaGreatDoorProg
set_option maxRecDepth 10000
set_option maxHeartbeats 400000000
set_option linter.unusedSectionVars false
namespace Go.PM
variable [CN]
variable {P:Program}
inductive XD where
 |ex (x:Ex)
 |pan (d:D)
def B2l (w:World) (S:Stb) (h:Hp) (β:Bet) (dopt:Option (FuncId×List V)) (ds:List Deferred):Prop:=match dopt with
 |none=>ds=[]
 |some (f,vs)=>∃arr:Array Value,ds=[{target:=.fn (.func f) arr,args:= #[]}]/\VRs w S h β vs arr
theorem VRs.evol {w w':World} {S S':Stb} {h h':Hp} {β β':Bet} {vs:List V} {arr:Array Value} (hv:VRs w S h β vs arr) (E:F7 w S h β w' S' h' β'):VRs w' S' h' β' vs arr:=
 ⟨hv.1,λj c u hj hu=>(hv.2 j c u hj hu).evol E⟩
theorem B2l.evol {w w':World} {S S':Stb} {h h':Hp} {β β':Bet} {dopt:Option (FuncId×List V)} {ds:List Deferred} (hd:B2l w S h β dopt ds) (E:F7 w S h β w' S' h' β'):B2l w' S' h' β' dopt ds:=by
 cases dopt with
 |none=>exact hd
 |some p=>obtain⟨arr,h1,h2⟩:=hd;exact⟨arr,h1,h2.evol E⟩
def EndR (w:World) (S:Stb) (x:XD) (e:Exit):Prop:=match x with
 | .ex x=>e=nU x
 | .pan d=>∃v,e=.panic [{v,recovered:=false}]/\DR w S d v
def A3d (N:Nat) (C:Cx) (w:World) (S:Stb) (h:Hp) (β:Bet) (k:XD->Option (FuncId×List V)->Tm->Hp->Prop) (e:Exit) (a':Act) (w':World):Prop:=
 ∃x dopt ts' h' S' β' ds,k x dopt ts' h'/\EndR w' S' x e/\St N ⟨C.ro,C.B,ds⟩ a' w' S' ts' h' β'/\F7 w S h β w' S' h' β'/\B2l w' S' h' β' dopt ds
structure DWP (P:Program) (N:Nat) (c:Code) (dopt:Option (FuncId×List V)) (ts:Tm) (h:Hp) (k:XD->Option (FuncId×List V)->Tm->Hp->Prop):Prop where
 wrap::
 holds:∀(n:Nat) (C:Cx) (a:Act) (w:World) (S:Stb) (β:Bet),St N C a w S ts h β->C.ro=none->B2l w S h β dopt C.D->c.wpIn (FF C.ro) n P (A3d N C w S h β k) a w
theorem A3d.then {N:Nat} {C:Cx} {ds:List Deferred} {w w1:World} {S S1:Stb} {h h1:Hp} {β β1:Bet} {k:XD->Option (FuncId×List V)->Tm->Hp->Prop} {e:Exit} {a':Act} {w':World}
 (hp:A3d N ⟨C.ro,C.B,ds⟩ w1 S1 h1 β1 k e a' w') (E:F7 w S h β w1 S1 h1 β1):A3d N C w S h β k e a' w':=by
 obtain⟨x,dopt,ts',h',S',β',ds',p1,p2,p3,p4,p5⟩:=hp
 exact⟨x,dopt,ts',h',S',β',ds',p1,p2,p3,E.trans p4,p5⟩
theorem DWP.of {E:Env} (hE:E.Ok P) {c:Code} {dopt:Option (FuncId×List V)} {ts:Tm} {h:Hp} {k:XD->Option (FuncId×List V)->Tm->Hp->Prop} (hx:bH E c ts h λe ts h=>k (.ex e) dopt ts h):DWP P E.N c dopt ts h k:=by
 refine⟨λn C a w S β hs hro hd=> ?_⟩
 refine wpIn_mono (bP hE c ts h _ hx n C a w S β hs) λe a' w' hp=> ?_
 obtain⟨x,rfl,ts',h',S',β',p1,p2,p3⟩:=hp
 exact⟨.ex x,dopt,ts',h',S',β',C.D,p1,rfl,p2,p3,hd.evol p3⟩
theorem DWP.seq {E:Env} (hE:E.Ok P) {c d:Code} {dopt:Option (FuncId×List V)} {ts:Tm} {h:Hp} {k:XD->Option (FuncId×List V)->Tm->Hp->Prop}
 (hx:bH E c ts h λe ts h=>match e with
   | .normal=>DWP P E.N d dopt ts h k
   | .exit id=>k (.ex (.exit id)) dopt ts h
   | .ret=>k (.ex .ret) dopt ts h):DWP P E.N (.seq c d) dopt ts h k:=by
 refine⟨λn C a w S β hs hro hd=> ?_⟩
 refine wpIn_seq (wpIn_mono (bP hE c ts h _ hx n C a w S β hs) λe a' w' hp=> ?_)
 obtain⟨x,rfl,ts',h',S',β',p1,p2,p3⟩:=hp
 cases x with
 |normal=>exact wpIn_mono (p1.holds n C a' w' S' β' p2 hro (hd.evol p3)) λe a2 w2 hp2=>hp2.then p3
 |exit id=>exact⟨.ex (.exit id),dopt,ts',h',S',β',C.D,p1,rfl,p2,p3,hd.evol p3⟩
 |ret=>exact⟨.ex .ret,dopt,ts',h',S',β',C.D,p1,rfl,p2,p3,hd.evol p3⟩
structure A3f (P:Program) (f:FuncId) (args:List V) (h:Hp) (k:D->Hp->Prop):Prop where
 wrap::
 holds:∀(w:World) (S:Stb) (β:Bet) (argv:Array Value),HR w S h β->VRs w S h β args argv->
  (callFunc f argv).run P w=.ok (.enter f argv) w/\Calls P f argv w λe w'=>∃v,e=.panicked [{v,recovered:=false}]/\∃d h' S' β',k d h'/\HR w' S' h' β'/\DR w' S' d v/\F7 w S h β w' S' h' β'
theorem HS {E:Env} (hE:E.Ok P) {id:Nat} {ops:Array Oper} {l tl:List Oper} {o:Oper} {n:Nat} {C:Cx} {a:Act} {w:World} {S:Stb} {β:Bet} {ts:Tm} {h:Hp} {k:Tm->Hp->Prop} {Q:Exit->Act->World->Prop}
 (hops:ops.toList=l++o::tl) (hx:cT (V0 false l) h λnf h=>dY E ops.toList l nf ts h k) (hs:St E.N C a w S ts h β)
 (hQ:∀a' w',CM E.N C w S h β k a' w'->wpOpsIn (FF C.ro) n P ops Q (l.length::List.range' (l.length+1) tl.length) a' w'):(Code.region id ops false).wpIn (FF C.ro) n P Q a w:=by
 obtain⟨nf,hx⟩:=nB hx
 obtain⟨β',r1,r2⟩:=iT hs.hr (V0 false l)
 have hs':=hs.evol r2 r1
 have hsz:ops.size=l.length+(tl.length+1):=by
  have:=N8 List.length hops
  simpa using this
 refine wpIn_region ?_
 rw[List.range_eq_range',hsz,<-List.range'_append_1,C1,List.range'_succ]
 refine mJ (n:=n) (C:=C) hE ops _ l 0 nf ts _ a w S β' Q (λi hi=> ?_) hx hs' λa' w' hp=>hQ a' w' (hp.then r2)
 rw[C1,<-L1,hops,B8 hi]
theorem ZC {ops:Array Oper} {l tl:List Oper} {o:Oper} (hops:ops.toList=l++o::tl):ops[l.length]? =some o:=by
 rw[<-L1,hops,B3 (B1 _),G2];rfl
theorem kM {o:Oper} (hg:o.guard=none) (y:Nat->Option Bool):Region.wanted o y=true:=by
 unfold Region.wanted;rw[hg]
theorem DWP.defer {E:Env} (hE:E.Ok P) {id:Nat} {ops:Array Oper} {l:List Oper} {o:Oper} {x:Operand} {at':Array TypeId} {rest:Code} {ts:Tm} {h:Hp} {k:XD->Option (FuncId×List V)->Tm->Hp->Prop}
 (hops:ops.toList=l++[o]) (ho:o.op=.defer {callee:=.value x,args:= #[],argTypes:=at'}) (hg:o.guard=none) (hd:o.dst=none)
 (hx:cT (V0 false l) h λnf h=>dY E ops.toList l nf ts h λts h=>evK ts x λv=>match v with
   | .fn g vs=>DWP P E.N rest (some (g,vs)) ts h k
   |_=>False):DWP P E.N (.seq (.region id ops false) rest) none ts h k:=by
 refine⟨λn C a w S β hs hro hdr=> ?_⟩
 refine wpIn_seq (HS (tl:=[]) hE hops hx hs λa' w' hp=> ?_)
 obtain⟨ts',h',S',β',hk,hs',hE'⟩:=hp
 have hk:=gC _ _ _ hk
 have hv:=rS hs'.hr.glob hs'.tr x
 generalize hxv:a'.eval x=xv at hv
 split at hk
 case h_2=>exact hk.elim
 rename_i g vs hev
 rw[hev] at hv
 cases hv with
 |fn _ _ arr h1 h2=>
  simp only[V7,List.range'_zero,wpOpsIn,ZC hops,kM hg,if_true]
  refine⟨λf _=>FF.all C.ro f,?_⟩
  have hrun:((o.semAt (FF C.ro).round a'.eval).run P w')=.ok (.defer {target:=.fn (.func g) arr,args:= #[]}) w':=by
   have:(FF C.ro).round=none:=hro
   rw[this]
   simp[Oper.semAt,ho,resolve,Deferred.ofValue,hxv,execOp]
  rw[hrun,Oper.uponIn_defer]
  have hput:({a' with defers:={target:=.fn (.func g) arr,args:= #[]}::a'.defers}:Act).put o.dst undef={a' with defers:={target:=.fn (.func g) arr,args:= #[]}::a'.defers}:=by rw[hd];rfl
  rw[hput]
  have hcd:C.D=[]:=hdr
  obtain⟨ms,ms2,m1,m2⟩:=hs'.marks
  rw[hcd,G5] at m1
  have hst:St E.N ⟨C.ro,C.B,[{target:=.fn (.func g) arr,args:= #[]}]⟩ {a' with defers:={target:=.fn (.func g) arr,args:= #[]}::a'.defers} w' S' ts' h' β':=
   ⟨hs'.hr,hs'.tr,hs'.size,⟨[],ms++ms2,by rw[m1];rfl,m2⟩,hs'.round,hs'.base⟩
  have h9:=hk.holds n ⟨C.ro,C.B,[{target:=.fn (.func g) arr,args:= #[]}]⟩ _ w' S' β' hst hro ⟨arr,rfl,h1,h2⟩
  refine wpIn_mono h9 λe a2 w2 hp2=> ?_
  obtain⟨x2,d2,t2,hh2,S2,β2,ds2,p1,p2,p3,p4,p5⟩:=hp2
  exact⟨x2,d2,t2,hh2,S2,β2,ds2,p1,p2,p3,hE'.trans p4,p5⟩
theorem LL (t:TypeId) (v:Value) (w:World):(Instr.panic (.iface t v)).run P w=.halt (.panic (.iface t v)) w:=rfl
theorem DWP.panic {E:Env} (hE:E.Ok P) {id:Nat} {ops:Array Oper} {l:List Oper} {o:Oper} {x:Operand} {dopt:Option (FuncId×List V)} {ts:Tm} {h:Hp} {k:XD->Option (FuncId×List V)->Tm->Hp->Prop}
 (hops:ops.toList=l++[o]) (ho:o.op=.panic x) (hg:o.guard=none)
 (hx:cT (V0 false l) h λnf h=>dY E ops.toList l nf ts h λts h=>evK ts x λv=>match v with
   | .d (.any t d)=>k (.pan (.any t d)) dopt ts h
   |_=>False):DWP P E.N (.region id ops false) dopt ts h k:=by
 refine⟨λn C a w S β hs hro hdr=> ?_⟩
 refine HS (tl:=[]) hE hops hx hs λa' w' hp=> ?_
 obtain⟨ts',h',S',β',hk,hs',hE'⟩:=hp
 have hk:=gC _ _ _ hk
 have hv:=rS hs'.hr.glob hs'.tr x
 generalize hxv:a'.eval x=xv at hv
 split at hk
 case h_2=>exact hk.elim
 rename_i t d hev
 rw[hev] at hv
 cases hv with
 |d hd=>
  cases hd with
  |any _ _ v hd=>
   simp only[V7,List.range'_zero,wpOpsIn,ZC hops,kM hg,if_true]
   refine⟨λf _=>FF.all C.ro f,?_⟩
   have hrun:((o.semAt (FF C.ro).round a'.eval).run P w')=.halt (.panic (.iface t v)) w':=by
    rw[Oper.semAt_eq _ _ _ (λc' h=>by rw[ho] at h;cases h)]
    simp[ho,hxv,execOp,LL]
   rw[hrun,Oper.uponIn_panic]
   exact⟨.pan (.any t d),dopt,ts',h',S',β',C.D,hk,⟨_,rfl,.any t d v hd⟩,hs',hE',hdr.evol hE'⟩
theorem DWP.pcall {E:Env} (hE:E.Ok P) {id:Nat} {ops:Array Oper} {l tl:List Oper} {o:Oper} {f:Operand} {qs:Array Operand} {ats:Array TypeId} {dopt:Option (FuncId×List V)} {ts:Tm} {h:Hp} {k:XD->Option (FuncId×List V)->Tm->Hp->Prop}
 (hops:ops.toList=l++o::tl) (ho:o.op=.call {callee:=.value f,args:=qs,argTypes:=ats}) (hg:o.guard=none)
 (hx:cT (V0 false l) h λnf h=>dY E ops.toList l nf ts h λts h=>RM ts qs.toList λvs=>evK ts f λv=>match v with
   | .fn g cap=>A3f P g (vs++cap) h λd h=>k (.pan d) dopt ts h
   |_=>False):DWP P E.N (.region id ops false) dopt ts h k:=by
 refine⟨λn C a w S β hs hro hdr=> ?_⟩
 refine HS hE hops hx hs λa' w' hp=> ?_
 obtain⟨ts',h',S',β',hk,hs',hE'⟩:=hp
 have hk:=qE _ _ _ hk
 have hk:=gC _ _ _ hk
 have hv:=rS hs'.hr.glob hs'.tr f
 generalize hxv:a'.eval f=xv at hv
 split at hk
 case h_2=>exact hk.elim
 rename_i g cap hev
 rw[hev] at hv
 cases hv with
 |fn _ _ arr h1 h2=>
  simp only[wpOpsIn,ZC hops,kM hg,if_true]
  refine⟨λf _=>FF.all C.ro f,?_⟩
  have hor:=gJ hs'.hr.glob hs'.tr qs.toList
  obtain⟨e1,e2⟩:=hk.holds w' S' β' _ hs'.hr (VRs.of_or hor ⟨h1,h2⟩)
  have hrun:((o.semAt (FF C.ro).round a'.eval).run P w')=(callFunc g (qs.map a'.eval++arr)).run P w':=by
   rw[Oper.semAt_eq _ _ _ (λc' h=>by rw[ho] at h;cases h)]
   simp[ho,hxv,execOp,resolve,Deferred.ofValue,invoke]
  rw[hrun,e1,Oper.uponIn_enter]
  refine⟨λh=>by simp[FF,Fence.wide] at h,CallsIn.mono (gW.2 e2) λe w2 he=> ?_⟩
  obtain⟨v,rfl,d,h2,S2,β2,k1,k2,k3,k4⟩:=he
  exact⟨.pan d,dopt,ts',h2,S2,β2,C.D,k1,⟨v,rfl,k3⟩,hs'.evol k4 k2,hE'.trans k4,(hdr.evol hE').evol k4⟩
theorem kI {F:Fence} {n:Nat} {fn:Func} {tmps:Array Value} {R:Ending->World->Prop} {B:Nat} {β:Bet} {u:FrameMode} (hu:u≠.run) (rest ms2:List Deferred):∀(ds:List Deferred) (w:World),pH B w β (ds++ms2)->
 (∀w',rZ B β w w'->pH B w' β ms2->LeavesInM F n P fn tmps R rest u w')->LeavesInM F n P fn tmps R (ds++rest) u w
 |[],w,hm,hk=>hk w (rZ.refl _ _ _) hm
 |d::ds,w,hm,hk=>by
  obtain⟨r,h1,h2,h3,h4⟩:=hm.2 d (.head _)
  have s1:=UA h2 h3 h4
  refine⟨hu,.inl ⟨r,_,h1,run_takeDeferred h3,kI hu rest ms2 ds _ ⟨(xK.1 hm.1).2,λe he=> ?_⟩ λw' s=>hk w' (s1.trans s)⟩⟩
  obtain⟨r',g1,g2,g3,g4⟩:=hm.2 e (.tail _ he)
  refine⟨r',g1,g2,?_,g4⟩
  have hne:r'≠r:=by
   rintro rfl
   exact(xK.1 hm.1).1 e he (h1.trans g1.symm)
  simp only[World.putObj]
  rw[G3 (N9 hne)]
  exact g3
structure LC (P:Program) (f:FuncId) (vs:List V) (h:Hp) (K:Hp->Prop):Prop where
 wrap::
 holds:∀(w:World) (S:Stb) (β:Bet) (arr:Array Value),HR w S h β->VRs w S h β vs arr->(callFunc f arr).run P w=.ok (.enter f arr) w/\
  CallsDIn (FF none) 0 P f arr .returning w λe u' w'=>(∃v,e=.returned v)/\u'=.returning/\∃h' S' β',K h'/\HR w' S' h' β'/\F7 w S h β w' S' h' β'
structure B5k (P:Program) (f:FuncId) (vs:List V) (h:Hp) (d:D) (K:Hp->Prop):Prop where
 wrap::
 holds:∀(w:World) (S:Stb) (β:Bet) (arr:Array Value) (v:Value),HR w S h β->VRs w S h β vs arr->DR w S d v->(callFunc f arr).run P w=.ok (.enter f arr) w/\
  CallsDIn (FF none) 0 P f arr (.panicking [{v,recovered:=false}]) w λe u' w'=>(∃v,e=.returned v)/\settle u'=.returning/\∃h' S' β',K h'/\HR w' S' h' β'/\F7 w S h β w' S' h' β'
def B4g (P:Program) (T:TT) (res:List ResultVar) (kR:V->Hp->Prop) (kP:D->Hp->Prop) (x:XD) (dopt:Option (FuncId×List V)) (ts:Tm) (h:Hp):Prop:=match dopt with
 |none=>match x with
  | .ex (.exit _)=>False
  | .ex _=>BA T h ts res λvs=>GX vs λv=>kR v h
  | .pan d=>kP d h
 |some (f,vs)=>match x with
  | .ex (.exit _)=>False
  | .ex _=>LC P f vs h λh=>BA T h ts res λvs=>GX vs λv=>kR v h
  | .pan d=>B5k P f vs h d λh=>BA T h ts res λvs=>GX vs λv=>kR v h
def SV (w:World) (S:Stb) (h:Hp) (β:Bet) (kR:V->Hp->Prop) (kP:D->Hp->Prop) (e:Ending) (w':World):Prop:=
 (∃v,e=.returned v/\∃va h' S' β',kR va h'/\HR w' S' h' β'/\VR w' S' h' β' va v/\F7 w S h β w' S' h' β')∨
 (∃v,e=.panicked [{v,recovered:=false}]/\∃d h' S' β',kP d h'/\HR w' S' h' β'/\DR w' S' d v/\F7 w S h β w' S' h' β')
theorem rZ.evolAll {B:Nat} {β β0:Bet} {w w2 w0:World} {S S':Stb} {h h':Hp} (s:rZ B β w w2) (hB:w0.heap.size<=B) (E:F7 w0 S h β0 w S' h' β):F7 w0 S h β0 w2 S' h' β:=by
 refine⟨E.outer.trans s.outer,by rw[s.size];exact E.size,λi hi hni=>by rw[s.frame i (.inl (by omega))];exact E.frame i hi hni,λi c e f hi=> ?_,λi l hl=> ?_,λa ha=>(s.froz a).trans (E.froz a ha),E.sub,E.new,λb o hs=>(s.cell _).trans (E.cell b o hs),E.imgs,E.len,E.blk⟩
 ·obtain⟨c',h1,h2⟩:=E.shape i c e f hi
  exact⟨c',s.cells i c' e f h1,h2⟩
 ·obtain⟨l',h1⟩:=E.loops i l hl
  exact⟨l',s.loops i l' h1⟩
theorem JS {T:TT} (hT:W9 P T=true) {f:FuncId} {fn:Func} (hf:P.funcs[f]? =some fn) {c:Code} (hb:fn.body=some c) {args:List V} {h:Hp} {kR:V->Hp->Prop} {kP:D->Hp->Prop}
 (hsz:args.length<=fn.ntmps) (hx:vO args 0 [] λts=>DWP P fn.ntmps c none ts h (B4g P T fn.results.toList kR kP)) {w:World} {S:Stb} {β:Bet} {argv:Array Value} (hr:HR w S h β) (hv:VRs w S h β args argv):
 Calls P f argv w (SV w S h β kR kP):=by
 have hx:=rK _ _ _ _ hx
 have hst:St fn.ntmps ⟨none,w.heap.size,[]⟩ {tmps:=argv++Array.replicate (fn.ntmps-argv.size) undef,defers:=[]} w S (rJ args 0 []) h β:=by
  refine⟨hr,λt=> ?_,?_,⟨[],[],rfl,.nil,by simp⟩,by simp,B1 _⟩
  ·rw[uG]
   split
   ·rename_i ht
    have ht:t<args.length:=by omega
    have hta:t<argv.size:=by rw[hv.1];exact ht
    rw[Nat.sub_zero,A5,A3 ht]
    rw[C0,V6 hta,B7 hta]
    exact hv.2 t args[t] argv[t] (A3 ht) (B7 hta)
   ·exact .u _
  ·simp[hv.1];omega
 refine gW (ro:=none) (n:=0) |>.1 (callsIn_of_wp_marks hf hb (FF.all none f) (wpIn_mono (hx.holds 0 ⟨none,w.heap.size,[]⟩ _ w S β hst rfl rfl) λe a' w' hp=> ?_))
 obtain⟨x,dopt,ts',h',S',β',ds,hk,he,hs',hE',hdr⟩:=hp
 obtain⟨ms,ms2,hms,hm⟩:=hs'.marks
 have res:∀(w2:World) (h2:Hp) (S2:Stb) (β2:Bet),(BA T h2 ts' fn.results.toList λvs=>GX vs λv=>kR v h2)->HR w2 S2 h2 β2->(∀t,VR w2 S2 h2 β2 (look ts' t) (a'.tmps.getD t undef))->F7 w S h β w2 S2 h2 β2->
  ∃v,(results fn a'.tmps).run P w2=.ok v w2/\SV w S h β kR kP (.returned v) w2:=λw2 h2 S2 β2 hk hr2 ht2 E2=>by
  obtain⟨vs,hk,hl,hh⟩:=MT hT _ _ hk
  obtain⟨us,u1,u2,u3⟩:=hh w2 S2 β2 a'.tmps hr2 ht2
  exact⟨_,CX u2,.inl ⟨_,rfl,UG vs,h2,S2,β2,MR hk,hr2,A2b (by omega) u3,E2⟩⟩
 have plain:dopt=none->∀(u:FrameMode),u≠.run->(∀w2,rZ w.heap.size β' w' w2->LeavesIn (FF none) 0 P fn a'.tmps (SV w S h β kR kP) [] u w2)->LeavesInM (FF none) 0 P fn a'.tmps (SV w S h β kR kP) a'.defers u w':=λhd u hu hq=>by
  subst hd
  have hd:ds=[]:=hdr
  subst hd
  rw[G5] at hms
  have:=kI (F:=FF none) (n:=0) (fn:=fn) (tmps:=a'.tmps) (R:=SV w S h β kR kP) hu [] [] (ms++ms2) w' (by rw[I3];exact hm) λw2 s _=>hq w2 s
  rw[I3] at this
  rw[hms];exact this
 have called:∀{g:FuncId} {vs:List V},dopt=some (g,vs)->∀(u:FrameMode),u≠.run->(∀(w2:World) (arr:Array Value),rZ w.heap.size β' w' w2->HR w2 S' h' β'->VRs w2 S' h' β' vs arr->(callFunc g arr).run P w2=.ok (.enter g arr) w2/\
  CallsDIn (FF none) 0 P g arr u w2 λe u' w3=>(∃v,e=.returned v)/\settle u'=.returning/\∃h3 S3 β3,(BA T h3 ts' fn.results.toList λvs=>GX vs λv=>kR v h3)/\HR w3 S3 h3 β3/\F7 w2 S' h' β' w3 S3 h3 β3)->
  LeavesInM (FF none) 0 P fn a'.tmps (SV w S h β kR kP) a'.defers u w':=λ{g vs} hd u hu hq=>by
  subst hd
  obtain⟨arr,hds,hvs⟩:=hdr
  subst hds
  rw[hms]
  refine kI hu _ ms2 ms w' hm λw2 s hm2=> ?_
  have hr2:=s.hr hs'.hr
  have E2:=s.evolAll (B1 _) hE'
  have e0:=s.evol0 S' h'
  obtain⟨c1,c2⟩:=hq w2 arr s hr2 ⟨hvs.1,λj c u hj hu=>(hvs.2 j c u hj hu).evol0 e0⟩
  refine⟨hu,.inr ⟨λh=>by simp[FF,Fence.wide] at h,.func g,arr,g,arr,rfl,by simpa[invoke] using c1,λg' _=>FF.all none g',CallsDIn.mono c2 λe u' w3 he=> ?_⟩⟩
  obtain⟨⟨v,rfl⟩,J3,h3,S3,β3,k1,k2,k3⟩:=he
  dsimp only
  rw[J3]
  have E3:=E2.trans k3
  have:=kI (F:=FF none) (n:=0) (fn:=fn) (tmps:=a'.tmps) (R:=SV w S h β kR kP) (u:=.returning) (by simp) [] [] ms2 w3 (by rw[I3];exact hm2.evol k3) λw4 s4 _=>
   res w4 h3 S3 β3 k1 (s4.hr k2) (λt=>(((hs'.tr t).evol0 e0).evol k3).evol0 (s4.evol0 S3 h3)) (s4.evolAll (B1 _) E3)
  rw[I3] at this
  exact this
 unfold B4g at hk
 cases dopt with
 |none=>
  cases x with
  |ex x=>
   have he:e=nU x:=he
   subst he
   have fin:(BA T h' ts' fn.results.toList λvs=>GX vs λv=>kR v h')->LeavesInM (FF none) 0 P fn a'.tmps (SV w S h β kR kP) a'.defers .returning w':=λhk=>plain rfl .returning (by simp) λw2 s=>
    res w2 h' S' β' hk (s.hr hs'.hr) (λt=>(hs'.tr t).evol0 (s.evol0 S' h')) (s.evolAll (B1 _) hE')
   cases x with
   |normal=>exact fin hk
   |exit id=>exact hk.elim
   |ret=>exact fin hk
  |pan d=>
   obtain⟨v,rfl,hd⟩:=he
   exact plain rfl _ (by simp) λw2 s=>.inr ⟨v,rfl,d,h',S',β',hk,s.hr hs'.hr,hd.evol (s.evol0 S' h').sub (s.evol0 S' h').cell,s.evolAll (B1 _) hE'⟩
 |some gv=>
  obtain⟨g,vs⟩:=gv
  cases x with
  |ex x=>
   have he:e=nU x:=he
   subst he
   have fin:(LC P g vs h' λh=>BA T h ts' fn.results.toList λvs=>GX vs λv=>kR v h)->LeavesInM (FF none) 0 P fn a'.tmps (SV w S h β kR kP) a'.defers .returning w':=λhk=>called rfl .returning (by simp) λw2 arr _ r2 v2=>by
    obtain⟨c1,c2⟩:=hk.holds w2 S' β' arr r2 v2
    refine⟨c1,CallsDIn.mono c2 λe u' w3 he=> ?_⟩
    obtain⟨h1,rfl,h3⟩:=he
    exact⟨h1,rfl,h3⟩
   cases x with
   |normal=>exact fin hk
   |exit id=>exact hk.elim
   |ret=>exact fin hk
  |pan d=>
   obtain⟨v,rfl,hd⟩:=he
   exact called rfl _ (by simp) λw2 arr s r2 v2=>hk.holds w2 S' β' arr v r2 v2 (hd.evol (s.evol0 S' h').sub (s.evol0 S' h').cell)
theorem Z3 {T:TT} (hT:W9 P T=true) {f:FuncId} {fn:Func} (hf:P.funcs[f]? =some fn) (hname:(fn.name== "runtime.NumGoroutine")=false) {c:Code} (hb:fn.body=some c) {args:List V} {h:Hp} {k:V->Hp->Prop}
 (hsz:args.length<=fn.ntmps) (hx:vO args 0 [] λts=>DWP P fn.ntmps c none ts h (B4g P T fn.results.toList k λ_ _=>False)):M4 P f args h k:=λw S β argv hr hv=>
 .inl ⟨Go.MuLone.run_callFunc_enter hf hname hb argv w,Calls.mono (JS hT hf hb hsz hx hr hv) λe w' he=>by
  rcases he with he|⟨_,_,_,_,_,_,hk,_⟩
  ·exact he
  ·exact hk.elim⟩
theorem uN {T:TT} (hT:W9 P T=true) {f:FuncId} {fn:Func} (hf:P.funcs[f]? =some fn) (hname:(fn.name== "runtime.NumGoroutine")=false) {c:Code} (hb:fn.body=some c) {args:List V} {h:Hp} {k:D->Hp->Prop}
 (hsz:args.length<=fn.ntmps) (hx:vO args 0 [] λts=>DWP P fn.ntmps c none ts h (B4g P T fn.results.toList (λ_ _=>False) k)):A3f P f args h k:=⟨λw S β argv hr hv=>
 ⟨Go.MuLone.run_callFunc_enter hf hname hb argv w,Calls.mono (JS hT hf hb hsz hx hr hv) λe w' he=>by
   rcases he with⟨_,_,_,_,_,_,hk,_⟩|he
   ·exact hk.elim
   ·exact he⟩⟩
theorem bX {f:FuncId} {args:List V} {r:List D} (hc:M4 P f args [] λv h=>eO v h λds=>VLe (nG v ds) (E5 r)) (hargs:args.all (nmV 0)=true):C9 P f args (E5 r):=by
 intro w S h β argv hr hv
 have hc:=hc w S [] argv (rQ hr.old hr.glob) ⟨hv.1,λj c u hj hu=>by
  exact(hv.2 j c u hj hu).nil (C5.1 hargs _ (A7 hj))⟩
 have key:∀(cv:Value) (w':World),(∃v h' S' β',(eO v h' λds=>VLe (nG v ds) (E5 r))/\HR w' S' h' β'/\VR w' S' h' β' v cv/\F7 w S [] [] w' S' h' β')->
  ∃S' β',HR w' S' h β'/\VR w' S' h β' (E5 r) cv/\F7 w S h β w' S' h β':=λcv w' ⟨v,h',S',β',hk,hr',hv',hE'⟩=>by
  obtain⟨ds,hd,hh⟩:=kH hk
  obtain⟨S2,h2,r2,e2,d2⟩:=hh w' S' β' cv hr' hv'
  have eT:=hE'.trans e2
  refine⟨S2,β,?_⟩
  have E2:F7 w S h β w' S2 h β:=by
   refine⟨eT.outer,eT.size,λi hi _=>eT.frame i hi ?_,eT.shape,eT.loops,eT.froz,eT.sub,λb o hs=> ?_,eT.cell,λb hb=>.inl hb,B1 _,λm b hm=>⟨b,hm,BEv.refl _ _⟩⟩
   ·rintro⟨m,p,hm⟩;simp at hm
   ·rcases eT.new b o hs with h|h|⟨m,p,hm⟩
    ·exact .inl h
    ·exact .inr (.inl h)
    ·simp at hm
  have stays:∀b',b'<w.heap.size->w'.heap[b']? =w.heap[b']? /\∀o,S2 b' o->S b' o:=λb' hlt=>by
   refine⟨eT.frame b' hlt (by rintro⟨m,p,hm⟩;simp at hm),λo ho=> ?_⟩
   rcases eT.new b' o ho with h|h|⟨m,p,hm⟩
   ·exact h
   ·omega
   ·simp at hm
  exact⟨⟨hr.len,λm b hm=>BR.keep E2 rfl (λ_ r b p ht=>⟨ht,stays b (hr.tlt r b p ht)⟩) (λb' p hb'=>stays b' (hr.lt hb')) (hr.blk m b hm),hr.inj,r2.old,r2.glob,λr b p ht=>D3 (hr.tlt r b p ht) eT.size,hr.one⟩,hd.vr (d2 h β),E2⟩
 exact bC.mono (hc) key
theorem GJ {α:Type} {l:List α} {i:Nat} {o:α} (h:l[i]? =some o):l=l.take i++o::l.drop (i+1):=by
 obtain⟨hi,rfl⟩:=A4.1 h
 rw[<-dM hi,Z4]
theorem DWP.deferAt {E:Env} (hE:E.Ok P) (i:Nat) {id:Nat} {ops:Array Oper} {o:Oper} {x:Operand} {at':Array TypeId} {rest:Code} {ts:Tm} {h:Hp} {k:XD->Option (FuncId×List V)->Tm->Hp->Prop}
 (hi:ops.toList[i]? =some o) (hlast:ops.toList.drop (i+1)=[]) (ho:o.op=.defer {callee:=.value x,args:= #[],argTypes:=at'}) (hg:o.guard=none) (hd:o.dst=none)
 (hx:cT (V0 false (ops.toList.take i)) h λnf h=>dY E ops.toList (ops.toList.take i) nf ts h λts h=>evK ts x λv=>match v with
   | .fn g vs=>DWP P E.N rest (some (g,vs)) ts h k
   |_=>False):DWP P E.N (.seq (.region id ops false) rest) none ts h k:=
 DWP.defer hE (l:=ops.toList.take i) (by have:=GJ hi;rw[hlast] at this;exact this) ho hg hd hx
theorem DWP.panicAt {E:Env} (hE:E.Ok P) (i:Nat) {id:Nat} {ops:Array Oper} {o:Oper} {x:Operand} {dopt:Option (FuncId×List V)} {ts:Tm} {h:Hp} {k:XD->Option (FuncId×List V)->Tm->Hp->Prop}
 (hi:ops.toList[i]? =some o) (hlast:ops.toList.drop (i+1)=[]) (ho:o.op=.panic x) (hg:o.guard=none)
 (hx:cT (V0 false (ops.toList.take i)) h λnf h=>dY E ops.toList (ops.toList.take i) nf ts h λts h=>evK ts x λv=>match v with
   | .d (.any t d)=>k (.pan (.any t d)) dopt ts h
   |_=>False):DWP P E.N (.region id ops false) dopt ts h k:=
 DWP.panic hE (l:=ops.toList.take i) (by have:=GJ hi;rw[hlast] at this;exact this) ho hg hx
theorem DWP.pcallAt {E:Env} (hE:E.Ok P) (i:Nat) {id:Nat} {ops:Array Oper} {o:Oper} {f:Operand} {qs:Array Operand} {ats:Array TypeId} {dopt:Option (FuncId×List V)} {ts:Tm} {h:Hp} {k:XD->Option (FuncId×List V)->Tm->Hp->Prop}
 (hi:ops.toList[i]? =some o) (ho:o.op=.call {callee:=.value f,args:=qs,argTypes:=ats}) (hg:o.guard=none)
 (hx:cT (V0 false (ops.toList.take i)) h λnf h=>dY E ops.toList (ops.toList.take i) nf ts h λts h=>RM ts qs.toList λvs=>evK ts f λv=>match v with
   | .fn g cap=>A3f P g (vs++cap) h λd h=>k (.pan d) dopt ts h
   |_=>False):DWP P E.N (.region id ops false) dopt ts h k:=
 DWP.pcall hE (l:=ops.toList.take i) (tl:=ops.toList.drop (i+1)) (GJ hi) ho hg hx
theorem RK {E:Env} (hE:E.Ok P) {f:FuncId} {fn:Func} (hf:P.funcs[f]? =some fn) (hname:(fn.name== "runtime.NumGoroutine")=false) (hN:E.N=fn.ntmps) {args:List V} {H H':Hp} (hH':H'.all (okB H.length)=true)
 (hsz:args.length<=fn.ntmps) {r:D} (hx:mK E fn args H λv h=>bL v h λds h'=>VLe (nG v ds) (E5 [r])/\h'.take H.length=H'):
 M4 P f args H λv h'=>okV H.length v=true/\h'.length=H.length/\h'.all (okB H.length)=true/\(v=E5 [r]/\h'=H'):=by
 intro w S β argv hr hv
 have hc:=X9 hE hf hname hN hsz hx w S β argv hr hv
 have key:∀(cv:Value) (w':World),(∃v h' S' β',(bL v h' λds h'=>VLe (nG v ds) (E5 [r])/\h'.take H.length=H')/\HR w' S' h' β'/\VR w' S' h' β' v cv/\F7 w S H β w' S' h' β')->
  ∃v h' S' β',(okV H.length v=true/\h'.length=H.length/\h'.all (okB H.length)=true/\(v=E5 [r]/\h'=H'))/\HR w' S' h' β'/\VR w' S' h' β' v cv/\F7 w S H β w' S' h' β':=λcv w' ⟨v,h',S',β',hk,hr',hv',hE'⟩=>by
  obtain⟨ds,h2,⟨hd,ht⟩,hh⟩:=iV hk
  obtain⟨S2,r2,e2,d2⟩:=hh w' S' β' cv hr' hv'
  have e4:=hE'.trans e2
  have hle:H.length<=h2.length:=e4.len
  have hl':H'.length=H.length:=by rw[<-ht,D0];omega
  have r3:=r2.drop (n:=H.length) (C5.2 λb hb=>dQ (C5.1 (ht▸hH') b hb))
  have e3:=e4.drop (n:=H.length) (B1 _) r2.len
  rw[ht] at r3 e3
  exact⟨E5 [r],H',S2,_,⟨rfl,hl',hH',rfl,rfl⟩,r3,hd.vr (d2 _ _),e3⟩
 exact bC.mono (hc) key
theorem GR:∀(ns:List Nat) (bs:List Blk) (h:Hp),(∀(i m:Nat),ns[i]? =some m->h[m]? =bs[i]?)->J5 h ns bs=h
 |[],bs,h,_=>by cases bs<;>rfl
 |n::ns,[],h,hb=>rfl
 |n::ns,b::bs,h,hb=>by
  have h0:h[n]? =some b:=by simpa using hb 0 n rfl
  have e:h.set n b=h:=by
   refine L9 λj=> ?_
   by_cases hj:n=j
   ·subst hj
    rw[G1 (A4.1 h0).1,h0]
   ·rw[C3 hj]
  show J5 (h.set n b) ns bs=h
  rw[e]
  exact GR ns bs h λi m hi=>by simpa using hb (i+1) m hi
theorem eW {f:FuncId} {args:List V} {H:Hp} {v0:V} (hH:H.all (okB H.length)=true) (ha:args.all (okV H.length)=true)
 (hc:M4 P f args H λv h'=>okV H.length v=true/\h'.length=H.length/\h'.all (okB H.length)=true/\(v=v0/\h'=H)) (ns:List Nat) (hnd:ns.Nodup) (hq:ns.length=H.length):
 mC P f (args.map (bG ns)) ns (H.map (P4 ns)) (bG ns v0):=by
 intro w S h β argv hpre hr hv
 have h2:=yC hH ha hc hnd hq (h:=h) (λi m hi=>by rw[hpre i m hi,A8]) (k:=λv h'=>v=bG ns v0/\h'=h) (λv H1 e _=>⟨by rw[e.1],by rw[e.2,pV];exact GR _ _ _ hpre⟩)
 rcases h2 w S β argv hr hv with⟨h1,h2⟩|⟨cv,w',h1,v',h',S',β',⟨rfl,rfl⟩,g1,g2,g3⟩
 ·refine .inl ⟨h1,λcs=> ?_⟩
  obtain⟨e,w',fr,⟨cv,he,v',h',S',β',⟨rfl,rfl⟩,g1,g2,g3⟩,r⟩:=h2 cs
  exact⟨e,w',fr,⟨cv,he,S',β',g1,g2,g3⟩,r⟩
 ·exact .inr ⟨cv,w',h1,S',β',g1,g2,g3⟩
theorem H6.keepN {f:FuncId} {args args':List V} {h:Hp} {k:Res->Prop} {ns:List Nat} {bs:List Blk} {v:V} (hc:mC P f args ns bs v) (he:args'=args) (hl:bs.length=ns.length) (hn:∀(i m:Nat),ns[i]? =some m->h[m]? =bs[i]?) (hk:k (.keep ns v)):H6 P f args' h k:=
 ⟨.keep ns v,hk,λbs' hl' hb'=>by
   subst he
   have e:bs'=bs:=by
    apply L9
    intro i
    by_cases hi:i<ns.length
    ·rw[<-hb' i ns[i] (A3 hi),hn i ns[i] (A3 hi)]
    ·rw[E0 (by omega),E0 (by omega)]
   rw[e]
   exact hc⟩
theorem E6.keepN {f:FuncId} {args args':List V} {h:Hp} {k:V->Hp->Prop} {ns:List Nat} {bs:List Blk} {v:V} (hc:mC P f args ns bs v) (he:args'=args) (hn:∀(i m:Nat),ns[i]? =some m->h[m]? =bs[i]?) (hk:k v h):E6 P f args' h k:=.ofV λw S β argv hr hv=>by
 subst he
 rcases hc w S h β argv hn hr hv with⟨h1,h2⟩|⟨cv,w',h1,S',β',g1,g2,g3⟩
 ·refine .inl ⟨h1,λcs=> ?_⟩
  obtain⟨e,w',fr,⟨cv,he,S',β',g1,g2,g3⟩,r⟩:=h2 cs
  exact⟨e,w',fr,⟨cv,he,v,h,S',β',hk,g1,g2,g3⟩,r⟩
 ·exact .inr ⟨cv,w',h1,v,h,S',β',hk,g1,g2,g3⟩
def wP (a:Nat):D:=.k (.pointer (some ⟨a,0,none⟩))
theorem WkH.arNew {h:Hp} (ho:h.all (λb=> !b.own)=true):WkH h (h++[.ar []]):=λw S β hr=>by
 have hlen:=hr.len
 obtain⟨β',hβ'⟩:∃β':Bet,β'=β.take h.length++(none::β.drop h.length):=⟨_,rfl⟩
 have htk:(β.take h.length).length=h.length:=by rw[D0];omega
 have hold:∀i,i<h.length->β'[i]? =β[i]? :=λi hi=>by rw[hβ',B8 (by omega),I8 hi]
 have hmid:β'[h.length]? =some none:=by rw[hβ',B3 (by omega),htk];simp
 have htail:∀r,tl (h++[.ar []]) β' r=tl h β r:=λr=>by
  unfold tl
  rw[B4,F1,hβ',B3 (by omega),htk,show h.length+1+r-h.length=r+1 by omega,R6,J4]
 have hcase:∀i c p,β'[i]? =some (some (c,p))->∃i',β[i']? =some (some (c,p))/\((i<h.length/\i'=i)∨(h.length<i/\i'+1=i)):=λi c p hi=>by
  by_cases h1:i<h.length
  ·exact⟨i,by rw[<-hold i h1];exact hi,.inl ⟨h1,rfl⟩⟩
  ·by_cases h2:i=h.length
   ·subst h2;rw[hmid] at hi;simp at hi
   ·obtain⟨r,hr1⟩:∃r,i=h.length+1+r:=⟨i-h.length-1,by omega⟩
    have:=htail r
    unfold tl at this
    rw[B4,F1,<-hr1,hi] at this
    exact⟨h.length+r,this.symm,.inr ⟨by omega,by omega⟩⟩
 have hget:∀i,i<h.length->(h++[.ar []])[i]? =h[i]? :=λi hi=>B8 hi
 have hgn:(h++[.ar []])[h.length]? =some (.ar []):=by rw[B3 (B1 _)];simp
 have E:F7 w S h β w S (h++[.ar []]) β':=by
  refine⟨Out.refl _,B1 _,λ_ _ _=>rfl,λ_ c _ _ hi=>⟨c,hi,rfl⟩,λ_ l hl=>⟨l,hl⟩,λ_ _=>rfl,λ_ _ h=>h,λ_ _ h=>.inl h,λ_ _ _=>rfl,?_,by simp,λi c hi=> ?_⟩
  ·rintro c ⟨i,p,hi⟩
   obtain⟨i',h1,_⟩:=hcase i c p hi
   exact .inl ⟨i',p,h1⟩
  ·have hil:i<h.length:=(A4.1 hi).1
   exact⟨c,by rw[hget i hil];exact hi,by rw[hold i hil];exact BEv.refl _ _⟩
 refine⟨S,β',⟨?_,λi c hi=> ?_,?_,hr.old,hr.glob.evol E,λr c p hc=>by rw[htail] at hc;exact hr.tlt r c p hc,?_⟩,E⟩
 ·rw[B4,F1,hβ',B4,M2,htk,aA];omega
 ·by_cases hil:i<h.length
  ·rw[hget i hil] at hi
   exact BR.keep E (hold i hil) (λ_ r b p hb=>⟨by rw[htail];exact hb,rfl,λ_ h=>h⟩) (λ_ _ _=>⟨rfl,λ_ h=>h⟩) (hr.blk i c hi)
  ·have:i=h.length:=by have:=(A4.1 hi).1;simp at this;omega
   subst this
   rw[hgn] at hi;cases hi
   exact⟨hmid,λi=>i,λi a cs hi=>by simp at hi,λi j hi=>by simp at hi⟩
 ·intro i j c p p2 h1 h2
  obtain⟨i',a1,a2⟩:=hcase i c p h1
  obtain⟨j',b1,b2⟩:=hcase j c p2 h2
  have:=hr.inj _ _ _ _ _ a1 b1
  omega
 ·have key:∀{i:Nat} {c:Blk},(h++[.ar []])[i]? =some c->c.own=true->i=h.length:=λ{i c} hi hc=>by
   by_cases hil:i<h.length
   ·rw[hget i hil] at hi
    have:=C5.1 ho c (A7 hi)
    simp[hc] at this
   ·have:=(A4.1 hi).1;simp at this;omega
  exact λi j b c h1 h2 h3 h4=>(key h1 h3).trans (key h2 h4).symm
theorem ar_put {w:World} {S:Stb} {h:Hp} {β:Bet} (hr:HR w S h β) {n m:Nat} {vs:List (Nat×List D)} {cs:List D} (hn:h[n]? =some (.ar vs)) (hm:h[m]? =some (.vard cs)):
 ∃a β',β[m]? =some (some (a,0))/\HR w S ((h.set m .gone).set n (.ar (vs++[(a,cs)]))) β'/\F7 w S h β w S ((h.set m .gone).set n (.ar (vs++[(a,cs)]))) β':=by
 have hnl:n<h.length:=(A4.1 hn).1
 have hml:m<h.length:=(A4.1 hm).1
 have hmn:m≠n:=by rintro rfl;rw[hn] at hm;cases hm
 have hlen:=hr.len
 obtain⟨a1,q,a4,aq⟩:=hr.blk n _ hn
 obtain⟨b,cells,elem,s1,s2,s3,s4,s5⟩:=hr.blk m _ hm
 obtain⟨h',hh'⟩:∃h',h'=(h.set m .gone).set n (.ar (vs++[(b,cs)])):=⟨_,rfl⟩
 obtain⟨β',hβ'⟩:∃β',β'=β.set m none++[some (b,0)]:=⟨_,rfl⟩
 have hl':h'.length=h.length:=by rw[hh'];simp
 have hold:∀i,i≠m->i<β.length->β'[i]? =β[i]? :=λi hi hl=>by rw[hβ',B8 (by simpa using hl),C3 (N9 hi)]
 have hbm:β'[m]? =some none:=by rw[hβ',B8 (by simp;omega),G1 (by omega)]
 have hlast:β'[β.length]? =some (some (b,0)):=by rw[hβ',B3 (by simp)];simp
 have hcase:∀i c p,β'[i]? =some (some (c,p))->(i≠m/\i<β.length/\β[i]? =some (some (c,p)))∨(i=β.length/\(c,p)=(b,0)):=λi c p hi=>by
  by_cases h0:i=m
  ·subst h0;rw[hbm] at hi;cases hi
  ·by_cases h1:i<β.length
   ·exact .inl ⟨h0,h1,by rw[<-hold i h0 h1];exact hi⟩
   ·have:i=β.length:=by
     have:=(A4.1 hi).1
     rw[hβ'] at this;simp at this;omega
    subst this
    rw[hlast] at hi;simp at hi
    exact .inr ⟨rfl,by simp[hi]⟩
 have hget:∀i,i≠m->i≠n->h'[i]? =h[i]? :=λi hi hne=>by rw[hh',C3 (N9 hne),C3 (N9 hi)]
 have hgn:h'[n]? =some (.ar (vs++[(b,cs)])):=by rw[hh',G1 (by simpa using hnl)]
 have hgm:h'[m]? =some .gone:=by rw[hh',C3 (N9 hmn),G1 hml]
 have htl:∀r c p,tl h β r=some (some (c,p))->tl h' β' r=some (some (c,p)):=λr c p ht=>by
  unfold tl at ht ⊢
  rw[hl',hold _ (by omega) (A4.1 ht).1]
  exact ht
 have E:F7 w S h β w S h' β':=by
  refine⟨Out.refl _,B1 _,λ_ _ _=>rfl,λ_ c _ _ hi=>⟨c,hi,rfl⟩,λ_ l hl=>⟨l,hl⟩,λ_ _=>rfl,λ_ _ h=>h,λ_ _ h=>.inl h,λ_ _ _=>rfl,?_,by omega,λi c hi=> ?_⟩
  ·rintro c ⟨i,p,hi⟩
   rcases hcase i c p hi with⟨_,_,h1⟩|⟨_,h1⟩
   ·exact .inl ⟨i,p,h1⟩
   ·simp only[iJ] at h1
    obtain⟨rfl,rfl⟩:=h1
    exact .inl ⟨_,_,s1⟩
  ·have hil:i<h.length:=(A4.1 hi).1
   by_cases hin:i=n
   ·subst hin
    rw[hn] at hi;cases hi
    exact⟨_,hgn,.inr ⟨_,rfl,λj c hj=>by
     cases hv:vs[j]? with
     |none=>rw[hv] at hj;cases hj
     |some p=>
      rw[B8 (A4.1 hv).1];exact hj⟩⟩
   ·by_cases him:i=m
    ·subst him
     rw[hm] at hi;cases hi
     exact⟨_,hgm,.inl rfl⟩
    ·exact⟨c,by rw[hget i him hin];exact hi,by rw[hold i him (by omega)];exact BEv.refl _ _⟩
 refine⟨b,β',s1,?_,by rw[<-hh'];exact E⟩
 rw[<-hh']
 refine⟨?_,λi c hi=> ?_,?_,hr.old,hr.glob.evol E,λr c p hc=> ?_,?_⟩
 ·rw[hl',hβ',B4,L5];omega
 ·by_cases hin:i=n
  ·subst hin
   rw[hgn] at hi;cases hi
   refine⟨by rw[hold i (N9 hmn) (by omega)];exact a1,λj=>if j=vs.length then β.length-h.length else q j,λj c ds hj=> ?_,λj1 j2 h1 h2=> ?_⟩
   ·by_cases hjp:j=vs.length
    ·subst hjp
     simp at hj
     obtain⟨rfl,rfl⟩:=hj
     refine⟨?_,⟨cells,elem,s2,s3,λj c u hj hu=>⟨(s4 j c u hj hu).1,(s4 j c u hj hu).2.evol E.sub E.cell⟩⟩,s5⟩
     unfold tl
     dsimp only
     rw[if_pos rfl,hl',show h.length+(β.length-h.length)=β.length by omega]
     exact hlast
    ·have hjl:j<vs.length:=by
      have:=(A4.1 hj).1
      simp at this;omega
     rw[B8 hjl] at hj
     obtain⟨d1,⟨c2,e2,d2,d3,d4⟩,d5⟩:=a4 j c ds hj
     exact⟨by dsimp only;rw[if_neg hjp];exact htl _ _ _ d1,⟨c2,e2,d2,d3,λj c u hj hu=>⟨(d4 j c u hj hu).1,(d4 j c u hj hu).2.evol E.sub E.cell⟩⟩,d5⟩
   ·intro e
    simp at h1 h2
    have key:∀{j:Nat},j<vs.length->q j<β.length-h.length:=λ{j} hj=>by
     obtain⟨g1,_⟩:=a4 j vs[j].1 vs[j].2 (A3 hj)
     have:=(A4.1 g1).1
     omega
    dsimp only at e
    by_cases e1:j1=vs.length<;>by_cases e2:j2=vs.length
    ·omega
    ·have:=key (j:=j2) (by omega)
     rw[if_pos e1,if_neg e2] at e;omega
    ·have:=key (j:=j1) (by omega)
     rw[if_neg e1,if_pos e2] at e;omega
    ·rw[if_neg e1,if_neg e2] at e
     exact aq j1 j2 (by omega) (by omega) e
  ·by_cases him:i=m
   ·subst him
    rw[hgm] at hi;cases hi
    exact hbm
   ·rw[hget i him hin] at hi
    have hil:i<h.length:=(A4.1 hi).1
    exact BR.keep E (hold i him (by omega)) (λho=>absurd (hr.one _ _ _ _ hi hn ho rfl) hin) (λ_ _ _=>⟨rfl,λ_ h=>h⟩) (hr.blk i c hi)
 ·intro i j c p p2 h1 h2
  rcases hcase i c p h1 with⟨x0,x1,x2⟩|⟨x1,x2⟩<;>rcases hcase j c p2 h2 with⟨y0,y1,y2⟩|⟨y1,y2⟩
  ·exact hr.inj _ _ _ _ _ x2 y2
  ·simp only[iJ] at y2
   obtain⟨rfl,rfl⟩:=y2
   exact absurd (hr.inj _ _ _ _ _ x2 s1) x0
  ·simp only[iJ] at x2
   obtain⟨rfl,rfl⟩:=x2
   exact absurd (hr.inj _ _ _ _ _ y2 s1) y0
  ·omega
 ·unfold tl at hc
  rcases hcase _ _ _ hc with⟨_,_,x2⟩|⟨_,x2⟩
  ·exact hr.lt x2
  ·simp only[iJ] at x2
   obtain⟨rfl,rfl⟩:=x2
   exact hr.lt s1
 ·have key:∀{i:Nat} {c:Blk},h'[i]? =some c->c.own=true->i=n:=λ{i c} hi hc=>by
   by_cases hin:i=n
   ·exact hin
   ·by_cases him:i=m
    ·subst him
     rw[hgm] at hi;cases hi;cases hc
    ·rw[hget i him hin] at hi
     exact hr.one _ _ _ _ hi hn hc rfl
  exact λi j b c h1 h2 h3 h4=>(key h1 h3).trans (key h2 h4).symm
theorem WkS.arPut {N:Nat} {ts:Tm} {h:Hp} {t n m:Nat} {vs:List (Nat×List D)} {cs:List D} (hn:h[n]? =some (.ar vs)) (hm:h[m]? =some (.vard cs)) (ht:look ts t=.ptr m 0 0 0):
 WkS N ts h λts' h'=>∃a,ts'=(t,.d (wP a))::ts/\h'=(h.set m .gone).set n (.ar (vs++[(a,cs)])):=λC a w S β hs=>by
 obtain⟨b,β',g1,g2,g3⟩:=ar_put hs.hr hn hm
 have hv:=hs.tr t
 rw[ht] at hv
 have hs':=hs.evol g3 g2
 refine⟨_,_,S,β',⟨b,rfl,rfl⟩,⟨hs'.hr,λj=> ?_,hs'.size,hs'.marks,hs'.round,hs'.base⟩,g3⟩
 simp only[look]
 cases hj:Nat.beq t j with
 |false=>exact hs'.tr j
 |true=>
  have:=B2 hj
  subst this
  generalize a.tmps.getD t undef=u at hv
  cases hv with
  |ptr h1 h2=>
   unfold PR at h2
   rw[hm] at h2
   obtain⟨b',e1,_,_,e2⟩:=h2
   rw[g1] at e1;simp at e1;subst e1;subst e2
   exact .d (.k _ rfl)
def okA (q:Nat) (b:Blk):Bool:=match b with
 | .ar _=>true
 |b=>okB q b
theorem okA_nm {q:Nat} {b:Blk} (h:okA q b=true):tZ q b=true:=by
 cases b with
 |ar vs=>rfl
 |_=>exact dQ h
structure kL (ns:List Nat) (q:Nat) (h:Hp) (β:Bet) (h2:Hp) (β2:Bet):Prop where
 len:ns.length=q
 hp:∀(i m:Nat),ns[i]? =some m->h2[m]? =(h[i]?).map (P4 ns)
 bet:∀(i m:Nat),ns[i]? =some m->β2[m]? =β[i]?
 ok:∀(i:Nat) (b:Blk),i<q->h[i]? =some b->okA q b=true
 tls:∀r,tl h2 β2 r=tl h β r
theorem kL.at {ns:List Nat} {q:Nat} {h h2:Hp} {β β2:Bet} (s:kL ns q h β h2 β2) {i:Nat} (hi:i<q):∃m,ns[i]? =some m/\ns.getD i 0=m:=by
 have:i<ns.length:=by rw[s.len];exact hi
 exact⟨ns[i],A3 this,A2p (A3 this)⟩
theorem PR.renA {ns:List Nat} {q:Nat} {h h2:Hp} {β β2:Bet} (s:kL ns q h β h2 β2) {n ver e o:Nat} {v:Value} (hn:n<q):PR h2 β2 (ns.getD n 0) ver e o v↔PR h β n ver e o v:=by
 obtain⟨m,hm,hd⟩:=s.at hn
 rw[hd]
 unfold PR
 rw[s.hp n m hm,s.bet n m hm]
 cases hb:h[n]? with
 |none=>simp
 |some b=>
  have:=s.ok n b hn hb
  cases b<;>simp[okA,okB,P4] at this ⊢
theorem SR.renA {ns:List Nat} {q:Nat} {w:World} {h h2:Hp} {β β2:Bet} (s:kL ns q h β h2 β2) {n ver lo len:Nat} {full:Bool} {v:Value} (hn:n<q):SR w h2 β2 (ns.getD n 0) ver lo len full v↔SR w h β n ver lo len full v:=by
 obtain⟨m,hm,hd⟩:=s.at hn
 rw[hd]
 unfold SR
 rw[s.hp n m hm,s.bet n m hm]
 cases hb:h[n]? with
 |none=>simp
 |some b=>
  have:=s.ok n b hn hb
  cases b<;>simp[okA,okB,P4] at this ⊢
theorem VR.renA1 {ns:List Nat} {q:Nat} {w:World} {S:Stb} {h h2:Hp} {β β2:Bet} (s:kL ns q h β h2 β2) {c:V} {u:Value} (hc:ok1 q c=true):VR w S h2 β2 (PM.ren1 ns c) u↔VR w S h β c u:=by
 have mapq:∀n,n<q->∀b:Nat,(isMap h2[ns.getD n 0]? /\(h2[ns.getD n 0]? ≠some .gone->β2[ns.getD n 0]? =some (some (b,0))))↔(isMap h[n]? /\(h[n]? ≠some .gone->β[n]? =some (some (b,0)))):=λn hn b=>by
  obtain⟨m,hm,hd⟩:=s.at hn
  rw[hd,s.hp n m hm,s.bet n m hm]
  cases hb:h[n]? with
  |none=>simp[isMap]
  |some b=>
   have:=s.ok n b hn hb
   cases b<;>simp[okA,okB,P4,isMap] at this ⊢
 constructor
 ·intro hv
  cases c with
  |d x=>cases hv with
   |d hd=>exact .d hd
  |ptr n a b c=>cases hv with
   |ptr h1 h2=>exact .ptr h1 ((PR.renA s (B5 hc)).1 h2)
  |sref n a b c d=>cases hv with
   |sref h1 h2=>exact .sref h1 ((SR.renA s (B5 hc)).1 h2)
  |map n=>
   have hv:VR w S h2 β2 (.map (ns.getD n 0)) u:=hv
   cases hv with
   |map h1 h2=>
    obtain⟨a1,a2⟩:=(mapq n (B5 hc) _).1 ⟨h1,h2⟩
    exact .map a1 a2
  |rp cs o=>cases hv with
   |rp _ _ b off uf h1 h2=>exact .rp cs o b off uf h1 h2
  |fn f cap=>
   cases cap with
   |nil=>cases hv with
    |fn _ _ arr h1 h2=>exact .fn f [] arr h1 (by simp)
   |cons=>cases hc
  |_=>cases hc
 ·intro hv
  cases c with
  |d x=>cases hv with
   |d hd=>exact .d hd
  |ptr n a b c=>cases hv with
   |ptr h1 h2=>exact .ptr h1 ((PR.renA s (B5 hc)).2 h2)
  |sref n a b c d=>cases hv with
   |sref h1 h2=>exact .sref h1 ((SR.renA s (B5 hc)).2 h2)
  |map n=>
   cases hv with
   |map h1 h2=>
    obtain⟨a1,a2⟩:=(mapq n (B5 hc) _).2 ⟨h1,h2⟩
    exact .map a1 a2
  |rp cs o=>cases hv with
   |rp _ _ b off uf h1 h2=>exact .rp cs o b off uf h1 h2
  |fn f cap=>
   cases cap with
   |nil=>cases hv with
    |fn _ _ arr h1 h2=>exact .fn f [] arr h1 (by simp)
   |cons=>cases hc
  |_=>cases hc
theorem VR.renA {ns:List Nat} {q:Nat} {w:World} {S:Stb} {h h2:Hp} {β β2:Bet} (s:kL ns q h β h2 β2) {c:V} {u:Value} (hc:okV q c=true):VR w S h2 β2 (bG ns c) u↔VR w S h β c u:=by
 cases c with
 |fn f cap=>
  have hall:∀(j:Nat) (x:V),cap[j]? =some x->ok1 q x=true:=λj x hj=>C5.1 hc x (A7 hj)
  constructor
  ·intro hv
   cases hv with
   |fn _ _ arr h1 h2=>
    exact .fn f cap arr (by rw[h1,A6]) λj x u hj hu=>(VR.renA1 s (hall j x hj)).1 (h2 j (PM.ren1 ns x) u (by rw[A8,hj];rfl) hu)
  ·intro hv
   cases hv with
   |fn _ _ arr h1 h2=>
    refine .fn f _ arr (by rw[h1,A6]) λj x u hj hu=> ?_
    rw[A8,F0] at hj
    obtain⟨y,hj,rfl⟩:=hj
    exact(VR.renA1 s (hall j y hj)).2 (h2 j y u hj hu)
 |d x=>exact VR.renA1 s (c:=.d x) rfl
 |ptr n a b c=>exact VR.renA1 s (c:=.ptr n a b c) hc
 |sref n a b c d=>exact VR.renA1 s (c:=.sref n a b c d) hc
 |map n=>exact VR.renA1 s (c:=.map n) hc
 |rp cs o=>exact VR.renA1 s (c:=.rp cs o) rfl
 |_=>cases hc
theorem BR.renA {ns:List Nat} {q:Nat} {w:World} {S:Stb} {h h2:Hp} {β β2:Bet} (s:kL ns q h β h2 β2) {i m:Nat} (hi:ns[i]? =some m) {b:Blk} (hb:okA q b=true):BR w S h2 β2 m (P4 ns b)↔BR w S h β i b:=by
 have hbet:=s.bet i m hi
 cases b with
 |var cs=>
  simp only[P4,BR,hbet,A6]
  constructor
  ·rintro⟨b,cells,elem,h1,h2,h3,h4,h5⟩
   refine⟨b,cells,elem,h1,h2,h3,λj c u hj hu=> ?_,h5⟩
   obtain⟨f1,f2⟩:=h4 j (bG ns c) u (by rw[A8,hj];rfl) hu
   exact⟨by rw[vM] at f1;exact f1,(VR.renA s (C5.1 hb _ (A7 hj))).1 f2⟩
  ·rintro⟨b,cells,elem,h1,h2,h3,h4,h5⟩
   refine⟨b,cells,elem,h1,h2,h3,λj c u hj hu=> ?_,h5⟩
   rw[A8,F0] at hj
   obtain⟨c',hj,rfl⟩:=hj
   obtain⟨f1,f2⟩:=h4 j c' u hj hu
   exact⟨by rw[vM];exact f1,(VR.renA s (C5.1 hb _ (A7 hj))).2 f2⟩
 |vard cs=>simp only[P4,BR,hbet]
 |row a b c d=>simp only[P4,BR,hbet]
 |map a b c=>simp only[P4,BR,hbet]
 |ar vs=>simp only[P4,BR,hbet,s.tls]
 |_=>cases hb
theorem BEv.renA {ns:List Nat} {q:Nat} {b b':Blk} {t t':Option (Option (Nat×Nat))} (hb:okA q b=true) (hb':okA q b'=true) (h:BEv b t b' t'):BEv (P4 ns b) t (P4 ns b') t':=by
 cases b with
 |var cs=>
  rcases h with rfl|⟨h,e⟩|⟨a,c,d,rfl,h⟩
  ·cases hb'
  ·refine .inr (.inl ⟨?_,e⟩)
   rcases h with⟨x,rfl⟩|⟨x,rfl⟩
   ·exact .inl ⟨_,rfl⟩
   ·exact .inr ⟨_,rfl⟩
  ·exact .inr (.inr ⟨a,c,d,rfl,h⟩)
 |vard cs=>
  rcases h with rfl|⟨h,e⟩|⟨a,c,d,rfl,h⟩
  ·cases hb'
  ·refine .inr (.inl ⟨?_,e⟩)
   rcases h with⟨x,rfl⟩|⟨x,rfl⟩
   ·exact .inl ⟨_,rfl⟩
   ·exact .inr ⟨_,rfl⟩
  ·exact .inr (.inr ⟨a,c,d,rfl,h⟩)
 |row a b c d=>
  rcases h with rfl|⟨x,y,z,rfl,h⟩
  ·cases hb'
  ·exact .inr ⟨x,y,z,rfl,h⟩
 |map a b c=>
  rcases h with rfl|⟨h,e⟩
  ·cases hb'
  ·obtain⟨x,rfl⟩:=h
   exact .inr ⟨⟨_,rfl⟩,e⟩
 |ar vs=>
  rcases h with rfl|⟨x,rfl,h⟩
  ·cases hb'
  ·exact .inr ⟨x,rfl,h⟩
 |_=>cases hb
def okW (q:Nat) (v:V):Bool:=match v with
 | .tup []=>true
 |v=>okV q v
theorem okW_nm {q:Nat} {v:V} (h:okW q v=true):nmV q v=true:=by
 unfold okW at h
 split at h
 ·rfl
 ·exact ZE h
theorem VR.renW {ns:List Nat} {q:Nat} {w:World} {S:Stb} {h h2:Hp} {β β2:Bet} (s:kL ns q h β h2 β2) {c:V} {u:Value} (hc:okW q c=true):VR w S h2 β2 (bG ns c) u↔VR w S h β c u:=by
 unfold okW at hc
 split at hc
 ·constructor
  ·intro hv
   cases hv with
   |tup _ arr h1 h2=>exact .tup [] arr h1 (by simp)
  ·intro hv
   cases hv with
   |tup _ arr h1 h2=>exact .tup [] arr h1 (by simp)
 ·exact VR.renA s hc
theorem ZX {f:FuncId} {args:List V} {H:Hp} (hH:H.all (okA H.length)=true) (hown:∃(i:Nat) (vs:List (Nat×List D)),H[i]? =some (.ar vs)) (ha:args.all (okV H.length)=true) {k0:V->Hp->Prop}
 (hc:M4 P f args H λv h'=>okW H.length v=true/\h'.length=H.length/\h'.all (okA H.length)=true/\k0 v h') {ns:List Nat} (hnd:ns.Nodup) (hq:ns.length=H.length) {h:Hp} (hpre:∀(i m:Nat),ns[i]? =some m->h[m]? =(H[i]?).map (P4 ns))
 {k:V->Hp->Prop} (hk:∀v H',k0 v H'->H'.length=H.length->k (bG ns v) (J3 h (ns.zip (H'.map (P4 ns))))):M4 P f (args.map (bG ns)) h k:=by
 intro w S β argv hr hv
 obtain⟨β0,hβ0⟩:∃β0:Bet,β0=(ns.map λm=>(β[m]?).getD none)++β.drop h.length:=⟨_,rfl⟩
 have hnl:(ns.map λm=>(β[m]?).getD none).length=H.length:=by rw[A6,hq]
 have hin:∀(i m:Nat),ns[i]? =some m->m<h.length:=λi m hi=>by
  have hil:i<H.length:=by rw[<-hq];exact(A4.1 hi).1
  have:=hpre i m hi
  rw[A3 hil] at this
  exact(A4.1 this).1
 have hbet:∀(i m:Nat),ns[i]? =some m->β[m]? =β0[i]? :=λi m hi=>by
  have hil:i<H.length:=by rw[<-hq];exact(A4.1 hi).1
  have hm:m<β.length:=D3 (hin i m hi) hr.len
  rw[hβ0,B8 (by omega),A8,hi,Q3,A3 hm];rfl
 have htl0:∀r,tl H β0 r=tl h β r:=λr=>by
  unfold tl
  rw[hβ0,B3 (by omega),hnl,J4,show h.length+(H.length+r-H.length)=h.length+r by omega]
 have s0:kL ns H.length H β0 h β:=⟨hq,hpre,hbet,λi b _ hb=>C5.1 hH b (A7 hb),λr=>(htl0 r).symm⟩
 have hl0:H.length<=β0.length:=by rw[hβ0,B4,hnl];omega
 have hname:∀i,i<H.length->∃m,ns[i]? =some m:=λi hi=>⟨ns[i]'(by omega),A3 _⟩
 obtain⟨Rel,hRel⟩:∃Rel:Nat->Nat->Prop,Rel=λi m=>ns[i]? =some m∨(H.length<=i/\m=h.length+(i-H.length)):=⟨_,rfl⟩
 have h0:∀(i b p:Nat),β0[i]? =some (some (b,p))->∃m,Rel i m/\β[m]? =some (some (b,p)):=λi b p hi=>by
  by_cases hil:i<H.length
  ·obtain⟨m,hm⟩:=hname i hil
   exact⟨m,by rw[hRel];exact .inl hm,by rw[hbet i m hm];exact hi⟩
  ·refine⟨h.length+(i-H.length),by rw[hRel];exact .inr ⟨by omega,rfl⟩,?_⟩
   have:=htl0 (i-H.length)
   unfold tl at this
   rw[<-this,show H.length+(i-H.length)=i by omega];exact hi
 have hndi:∀(i j m:Nat),Rel i m->Rel j m->i=j:=λi j m hi hj=>by
  rw[hRel] at hi hj
  rcases hi with hi|⟨a1,a2⟩<;>rcases hj with hj|⟨b1,b2⟩
  ·exact(AJ (A4.1 hi).1 hnd).1 (hi.trans hj.symm)
  ·have:=hin i m hi;omega
  ·have:=hin j m hj;omega
  ·omega
 have hself:∀(i m:Nat),ns[i]? =some m->Rel i m:=λi m hi=>by rw[hRel];exact .inl hi
 have hto:∀(i j:Nat),Rel i j->j<h.length->j∈ns:=λi j hi hj=>by
  rw[hRel] at hi
  rcases hi with hi|⟨a1,a2⟩
  ·exact A7 hi
  ·omega
 have hownB:∀b:Blk,(P4 ns b).own=b.own:=λb=>by cases b<;>rfl
 have hnoown:∀(j:Nat) (b:Blk),h[j]? =some b->b.own=true->j∈ns:=λj b hj ho=>by
  obtain⟨i0,vs,hi0⟩:=hown
  obtain⟨m0,hm0⟩:=hname i0 (A4.1 hi0).1
  have h2:h[m0]? =some (.ar vs):=by rw[hpre i0 m0 hm0,hi0];rfl
  rw[hr.one j m0 b _ hj h2 ho rfl]
  exact A7 hm0
 have r0:HR w S H β0:=by
  refine⟨hl0,λi b hb=> ?_,λi j b p q hi hj=> ?_,hr.old,hr.glob,λr b p ht=> ?_,λi j b c hi hj ho1 ho2=> ?_⟩
  ·obtain⟨m,hm⟩:=hname i (A4.1 hb).1
   have:=hr.blk m (P4 ns b) (by rw[hpre i m hm,hb];rfl)
   exact(BR.renA s0 hm (C5.1 hH b (A7 hb))).1 this
  ·obtain⟨m1,a1,a2⟩:=h0 i b p hi
   obtain⟨m2,b1,b2⟩:=h0 j b q hj
   have:=hr.inj _ _ _ _ _ a2 b2
   subst this
   exact hndi i j m1 a1 b1
  ·rw[htl0] at ht;exact hr.tlt r b p ht
  ·obtain⟨m1,a1⟩:=hname i (A4.1 hi).1
   obtain⟨m2,a2⟩:=hname j (A4.1 hj).1
   have:=hr.one m1 m2 (P4 ns b) (P4 ns c) (by rw[hpre i m1 a1,hi];rfl) (by rw[hpre j m2 a2,hj];rfl) (by rw[hownB];exact ho1) (by rw[hownB];exact ho2)
   subst this
   exact hndi i j m1 (hself _ _ a1) (hself _ _ a2)
 have hv0:VRs w S H β0 args argv:=⟨by rw[hv.1,A6],λj c u hj hu=>
  (VR.renA s0 (C5.1 ha c (A7 hj))).1 (hv.2 j (bG ns c) u (by rw[A8,hj];rfl) hu)⟩
 have key:∀(cv:Value) (w':World),(∃v h' S' β',(okW H.length v=true/\h'.length=H.length/\h'.all (okA H.length)=true/\k0 v h')/\HR w' S' h' β'/\VR w' S' h' β' v cv/\F7 w S H β0 w' S' h' β')->
  ∃v h' S' β',k v h'/\HR w' S' h' β'/\VR w' S' h' β' v cv/\F7 w S h β w' S' h' β':=λcv w' ⟨v,H',S',β1,⟨e1,e2,e3,e4⟩,r1,v1,E1⟩=>by
  obtain⟨h',hh'⟩:∃h',h'=J3 h (ns.zip (H'.map (P4 ns))):=⟨_,rfl⟩
  have hlen:h'.length=h.length:=by rw[hh',zV]
  have hat:∀(i m:Nat),ns[i]? =some m->h'[m]? =(H'[i]?).map (P4 ns):=λi m hi=>by
   have hil:i<H'.length:=by rw[e2,<-hq];exact(A4.1 hi).1
   rw[A3 hil,hh']
   exact FE ns _ h i m _ hnd hi (by rw[A8,A3 hil];rfl) (hin i m hi)
  have hoth:∀(j:Nat),j∉ns->h'[j]? =h[j]? :=λj hj=>by
   rw[hh']
   exact nQ _ _ j λp hp e=>hj (by have h1:=(KY hp).1;rw[e] at h1;exact h1)
  obtain⟨β',hβ'⟩:∃β':Bet,β'=((List.range h.length).map λj=>if j∈ns then(β1[ns.idxOf j]?).getD none else(β[j]?).getD none)++β1.drop H'.length:=⟨_,rfl⟩
  have hpl:((List.range h.length).map λj=>if j∈ns then(β1[ns.idxOf j]?).getD none else(β[j]?).getD none).length=h.length:=by simp
  have bat:∀(i m:Nat),ns[i]? =some m->β'[m]? =β1[i]? :=λi m hi=>by
   have hm:m<h.length:=hin i m hi
   have hmem:m∈ns:=A7 hi
   have hidx:ns.idxOf m=i:=hndi _ _ m (hself _ _ (by
    rw[A3 (List.idxOf_lt_length_of_mem hmem),List.getElem_idxOf])) (hself _ _ hi)
   have hil:i<β1.length:=D3 (by rw[e2,<-hq];exact(A4.1 hi).1) r1.len
   rw[hβ',B8 (by omega),A8,F2 hm]
   simp only[Q3,if_pos hmem,hidx,A3 hil,O0]
  have both:∀(j:Nat),j∉ns->j<h.length->β'[j]? =β[j]? :=λj hj hl=>by
   have hl2:j<β.length:=D3 hl hr.len
   rw[hβ',B8 (by omega),A8,F2 hl]
   simp only[Q3,if_neg hj,A3 hl2,O0]
  have htl:∀r,tl h' β' r=tl H' β1 r:=λr=>by
   unfold tl
   rw[hlen,hβ',B3 (by omega),hpl,J4,show H'.length+(h.length+r-h.length)=H'.length+r by omega]
  have s1:kL ns H.length H' β1 h' β':=⟨hq,hat,bat,λi b _ hb=>C5.1 e3 b (A7 hb),htl⟩
  have himg0:∀b,img β0 b->img β b:=λb ⟨i,p,hi⟩=>by
   obtain⟨m,_,h2⟩:=h0 i b p hi
   exact⟨m,p,h2⟩
  have hcase:∀(j b p:Nat),β'[j]? =some (some (b,p))->(j∉ns/\j<h.length/\β[j]? =some (some (b,p)))∨∃i,Rel i j/\β1[i]? =some (some (b,p)):=λj b p hj=>by
   by_cases hjn:j∈ns
   ·obtain⟨i,hi⟩:=D9.1 hjn
    exact .inr ⟨i,hself _ _ hi,by rw[<-bat i j hi];exact hj⟩
   ·by_cases hjl:j<h.length
    ·exact .inl ⟨hjn,hjl,by rw[<-both j hjn hjl];exact hj⟩
    ·refine .inr ⟨H.length+(j-h.length),by rw[hRel];exact .inr ⟨by omega,by omega⟩,?_⟩
     have:=htl (j-h.length)
     unfold tl at this
     rw[hlen,show h.length+(j-h.length)=j by omega,e2] at this
     rw[<-this];exact hj
  have E:F7 w S h β w' S' h' β':=by
   refine⟨E1.outer,E1.size,λi hi hni=>E1.frame i hi λhh=>hni (himg0 i hh),E1.shape,E1.loops,E1.froz,E1.sub,λb o hs=> ?_,E1.cell,λb ⟨j,p,hj⟩=> ?_,by omega,λj b hb=> ?_⟩
   ·rcases E1.new b o hs with g|g|g
    ·exact .inl g
    ·exact .inr (.inl g)
    ·exact .inr (.inr (himg0 b g))
   ·rcases hcase j b p hj with⟨_,_,g⟩|⟨i,_,g⟩
    ·exact .inl ⟨j,p,g⟩
    ·exact(E1.imgs b ⟨i,p,g⟩).imp (himg0 b) id
   ·by_cases hjn:j∈ns
    ·obtain⟨i,hi⟩:=D9.1 hjn
     have hil:i<H.length:=by rw[<-hq];exact(A4.1 hi).1
     obtain⟨b',g1,g2⟩:=E1.blk i _ (A3 hil)
     have hbb:=hpre i j hi
     rw[A3 hil,hb] at hbb
     simp only[Q3,W8] at hbb
     subst hbb
     refine⟨P4 ns b',by rw[hat i j hi,g1];rfl,?_⟩
     rw[bat i j hi,hbet i j hi]
     exact BEv.renA (C5.1 hH _ (R5 hil)) (C5.1 e3 _ (A7 g1)) g2
    ·have hjl:j<h.length:=(A4.1 hb).1
     exact⟨b,by rw[hoth j hjn];exact hb,by rw[both j hjn hjl];exact BEv.refl _ _⟩
  have stays:∀(j c p:Nat),j∉ns->j<h.length->β[j]? =some (some (c,p))->w'.heap[c]? =w.heap[c]? /\∀o,S' c o->S c o:=λj c p hj hjl hc=>by
   have hno:¬img β0 c:=λ⟨i,q,hi⟩=>by
    obtain⟨m,g1,g2⟩:=h0 i c q hi
    have:=hr.inj _ _ _ _ _ hc g2
    subst this
    exact hj (hto i j g1 hjl)
   have hlt:=hr.lt hc
   refine⟨E1.frame c hlt hno,λo ho=> ?_⟩
   rcases E1.new c o ho with g|g|g
   ·exact g
   ·omega
   ·exact absurd g hno
  have hmix:∀(j1 j2 b p q i:Nat),j1∉ns->j1<h.length->β[j1]? =some (some (b,p))->Rel i j2->β1[i]? =some (some (b,q))->False:=λj1 j2 b p q i g1 gl g2 g3 g4=>by
   rcases E1.imgs b ⟨i,q,g4⟩ with⟨i',p',g⟩|g
   ·obtain⟨m,a1,a2⟩:=h0 i' b p' g
    have:=hr.inj _ _ _ _ _ g2 a2
    subst this
    exact g1 (hto i' j1 a1 gl)
   ·have:=hr.lt g2;omega
  refine⟨bG ns v,h',S',β',by rw[hh'];exact hk v H' e4 e2,⟨by rw[hlen,hβ',B4,hpl];omega,λj b hb=> ?_,λj1 j2 b p q g1 g2=> ?_,r1.old,r1.glob,λr b p ht=>by rw[htl] at ht;exact r1.tlt r b p ht,λj1 j2 b c g1 g2 o1 o2=> ?_⟩,(VR.renW s1 e1).2 v1,E⟩
  ·by_cases hjn:j∈ns
   ·obtain⟨i,hi⟩:=D9.1 hjn
    rw[hat i j hi,F0] at hb
    obtain⟨b',g1,rfl⟩:=hb
    exact(BR.renA s1 hi (C5.1 e3 _ (A7 g1))).2 (r1.blk i b' g1)
   ·rw[hoth j hjn] at hb
    have hjl:j<h.length:=(A4.1 hb).1
    exact BR.keep E (both j hjn hjl) (λho=>absurd (hnoown j b hb ho) hjn) (λc p hc=>stays j c p hjn hjl hc) (hr.blk j b hb)
  ·rcases hcase j1 b p g1 with⟨a1,al,a2⟩|⟨i,a1,a2⟩<;>rcases hcase j2 b q g2 with⟨b1,bl,b2⟩|⟨i',b1,b2⟩
   ·exact hr.inj _ _ _ _ _ a2 b2
   ·exact(hmix j1 j2 b p q i' a1 al a2 b1 b2).elim
   ·exact(hmix j2 j1 b q p i b1 bl b2 a1 a2).elim
   ·have:=r1.inj _ _ _ _ _ a2 b2
    subst this
    rw[hRel] at a1 b1
    rcases a1 with a1|⟨_,a1⟩<;>rcases b1 with b1|⟨_,b1⟩
    ·rw[a1] at b1;exact T7 b1
    ·have:=(A4.1 a1).1;omega
    ·have:=(A4.1 b1).1;omega
    ·omega
  ·have own:∀(j:Nat) (b:Blk),h'[j]? =some b->b.own=true->j∈ns:=λj b hj ho=>by
    by_cases hm:j∈ns
    ·exact hm
    ·rw[hoth j hm] at hj
     exact hnoown j b hj ho
   obtain⟨i1,n1⟩:=D9.1 (own j1 b g1 o1)
   obtain⟨i2,n2⟩:=D9.1 (own j2 c g2 o2)
   rw[hat i1 j1 n1,F0] at g1
   rw[hat i2 j2 n2,F0] at g2
   obtain⟨b1,k1,rfl⟩:=g1
   obtain⟨b2,k2,rfl⟩:=g2
   rw[hownB] at o1 o2
   have:=r1.one i1 i2 b1 b2 k1 k2 o1 o2
   subst this
   rw[n1] at n2
   exact T7 n2
 exact bC.mono (hc w S β0 argv r0 hv0) key
theorem E6.updA {f:FuncId} {args:List V} {H:Hp} (hH:H.all (okA H.length)=true) (hown:∃(i:Nat) (vs:List (Nat×List D)),H[i]? =some (.ar vs)) (ha:args.all (okV H.length)=true) {k0:V->Hp->Prop}
 (hc:M4 P f args H λv h'=>okW H.length v=true/\h'.length=H.length/\h'.all (okA H.length)=true/\k0 v h') (ns:List Nat) (hnd:ns.Nodup) (hq:ns.length=H.length) {args':List V} (he:args'=args.map (bG ns)) {h:Hp} (hpre:∀(i m:Nat),ns[i]? =some m->h[m]? =(H[i]?).map (P4 ns))
 {k:V->Hp->Prop} (hk:∀v H',k0 v H'->H'.length=H.length->k (bG ns v) (J3 h (ns.zip (H'.map (P4 ns))))):E6 P f args' h k:=by
 subst he
 exact .ofV (ZX hH hown ha hc hnd hq hpre hk)
theorem jA {E:Env} (hE:E.Ok P) {f:FuncId} {fn:Func} (hf:P.funcs[f]? =some fn) (hname:(fn.name== "runtime.NumGoroutine")=false) (hN:E.N=fn.ntmps) {args:List V} {H:Hp}
 (hsz:args.length<=fn.ntmps) {k0:V->Hp->Prop} (hx:mK E fn args H λv h'=>okW H.length v=true/\(h'.take H.length).all (okA H.length)=true/\k0 v (h'.take H.length)):
 M4 P f args H λv h'=>okW H.length v=true/\h'.length=H.length/\h'.all (okA H.length)=true/\k0 v h':=by
 intro w S β argv hr hv
 have hc:=X9 hE hf hname hN hsz hx w S β argv hr hv
 have key:∀(cv:Value) (w':World),(∃v h' S' β',(okW H.length v=true/\(h'.take H.length).all (okA H.length)=true/\k0 v (h'.take H.length))/\HR w' S' h' β'/\VR w' S' h' β' v cv/\F7 w S H β w' S' h' β')->
  ∃v h' S' β',(okW H.length v=true/\h'.length=H.length/\h'.all (okA H.length)=true/\k0 v h')/\HR w' S' h' β'/\VR w' S' h' β' v cv/\F7 w S H β w' S' h' β':=λcv w' ⟨v,h',S',β',⟨hd,ho,ht⟩,hr',hv',hE'⟩=>by
  have hle:H.length<=h'.length:=hE'.len
  have r3:=hr'.drop (n:=H.length) (C5.2 λb hb=>okA_nm (C5.1 ho b hb))
  have e3:=hE'.drop (n:=H.length) (B1 _) hr'.len
  exact⟨v,h'.take H.length,S',_,⟨hd,by rw[D0];omega,ho,ht⟩,r3,hv'.drop (okW_nm hd),e3⟩
 exact bC.mono (hc) key
theorem E6.lend {f:FuncId} {r:List D} {cs cs' xs:List D} (hc:M4 P f (.ptr 0 0 0 0::xs.map V.d) [.vard cs] λv h'=>v=E5 r/\h'.length=1/\h'.all (okB 1)=true/\h'=[.vard cs'])
 {h:Hp} {n i a:Nat} {vs:List (Nat×List D)} (hn:h[n]? =some (.ar vs)) (hi:vs[i]? =some (a,cs)) {args:List V} (he:args=.d (wP a)::xs.map V.d) {k:V->Hp->Prop} (hk:k (E5 r) (h.set n (.ar (vs.set i (a,cs'))))):E6 P f args h k:=.ofV λw S β argv hr hv=>by
 subst he
 have hnl:n<h.length:=(A4.1 hn).1
 have hil:i<vs.length:=(A4.1 hi).1
 obtain⟨a1,q,a4,aq⟩:=hr.blk n _ hn
 obtain⟨g1,⟨cells,elem,g2,g3,g4⟩,g5⟩:=a4 i a cs hi
 obtain⟨β0,hβ0⟩:∃β0:Bet,β0=[some (a,0)]:=⟨_,rfl⟩
 have him0:∀b,img β0 b->b=a:=λb ⟨j,p,hj⟩=>by
  rw[hβ0] at hj
  cases j with
  |zero=>simp at hj;exact hj.1.symm
  |succ j=>simp at hj
 have r0:HR w S [.vard cs] β0:=by
  rw[hβ0]
  refine⟨B1 _,λj b hj=> ?_,λj1 j2 b p q h1 h2=> ?_,hr.old,hr.glob,λr b p ht=> ?_,λj1 j2 b c h1 h2 o1 o2=> ?_⟩
  ·cases j with
   |zero=>simp at hj;subst hj;exact⟨a,cells,elem,rfl,g2,g3,g4,g5⟩
   |succ j=>simp at hj
  ·cases j1<;>cases j2<;>simp at h1 h2 ⊢
  ·unfold tl at ht;simp[kK 1 r] at ht
  ·cases j1<;>simp at h1
   subst h1;cases o1
 have hv0:VRs w S [.vard cs] β0 (.ptr 0 0 0 0::xs.map V.d) argv:=by
  refine⟨by rw[hv.1];rfl,λj c u hj hu=> ?_⟩
  have hvj:=hv.2 j
  cases j with
  |zero=>
   simp at hj;subst hj
   have:=hvj _ u rfl hu
   cases this with
   |d hd=>cases hd with
    |k _ ho=>exact .ptr ho ⟨a,by rw[hβ0];rfl,rfl,rfl,rfl⟩
  |succ j=>
   simp only[R6] at hj hvj
   have:=hvj c u hj hu
   rw[A8,F0] at hj
   obtain⟨x,_,rfl⟩:=hj
   cases this with
   |d hd=>exact .d hd
 have key:∀(cv:Value) (w':World),(∃v h' S' β',(v=E5 r/\h'.length=1/\h'.all (okB 1)=true/\h'=[.vard cs'])/\HR w' S' h' β'/\VR w' S' h' β' v cv/\F7 w S [.vard cs] β0 w' S' h' β')->
  ∃v h' S' β',k v h'/\HR w' S' h' β'/\VR w' S' h' β' v cv/\F7 w S h β w' S' h' β':=λcv w' ⟨v,h1',S',β1,⟨e1,_,_,e4⟩,r1,v1,E1⟩=>by
  subst e1;subst e4
  obtain⟨b1,c1,el1,f1,f2,f3,f4,f5⟩:=r1.blk 0 _ rfl
  have hb1:b1=a:=by
   obtain⟨b',hb',ev⟩:=E1.blk 0 _ rfl
   simp at hb';subst hb'
   rcases ev with h|⟨_,ht⟩|⟨_,_,_,h,_⟩
   ·cases h
   ·rw[f1,hβ0] at ht;simp at ht;exact ht
   ·cases h
  subst hb1
  obtain⟨h',hh'⟩:∃h',h'=h.set n (.ar (vs.set i (b1,cs'))):=⟨_,rfl⟩
  have hl':h'.length=h.length:=by rw[hh'];simp
  have hgn:h'[n]? =some (.ar (vs.set i (b1,cs'))):=by rw[hh',G1 hnl]
  have hget:∀j,j≠n->h'[j]? =h[j]? :=λj hj=>by rw[hh',C3 (N9 hj)]
  have haimg:img β b1:=A7d g1
  have hadr:∀j c,(vs[j]?).map Prod.fst=some c->((vs.set i (b1,cs'))[j]?).map Prod.fst=some c:=λj c hj=>by
   by_cases hji:i=j
   ·subst hji
    rw[hi] at hj;simp at hj;subst hj
    rw[G1 hil];rfl
   ·rw[C3 hji];exact hj
  have E:F7 w S h β w' S' h' β:=by
   refine⟨E1.outer,E1.size,λj hj hnj=>E1.frame j hj λhh=>hnj (by rw[him0 j hh];exact haimg),E1.shape,E1.loops,E1.froz,E1.sub,λb o hs=> ?_,E1.cell,λb hb=>.inl hb,by omega,λj b hb=> ?_⟩
   ·rcases E1.new b o hs with g|g|g
    ·exact .inl g
    ·exact .inr (.inl g)
    ·exact .inr (.inr (by rw[him0 b g];exact haimg))
   ·by_cases hjn:j=n
    ·subst hjn
     rw[hn] at hb;cases hb
     exact⟨_,hgn,.inr ⟨_,rfl,hadr⟩⟩
    ·exact⟨b,by rw[hget j hjn];exact hb,BEv.refl _ _⟩
  have stays:∀(c:Nat),c<w.heap.size->c≠b1->w'.heap[c]? =w.heap[c]? /\∀o,S' c o->S c o:=λc hc hca=>by
   have hno:¬img β0 c:=λhh=>hca (him0 c hh)
   refine⟨E1.frame c hc hno,λo ho=> ?_⟩
   rcases E1.new c o ho with g|g|g
   ·exact g
   ·omega
   ·exact absurd g hno
  have htl:∀r,tl h' β r=tl h β r:=λr=>by unfold tl;rw[hl']
  refine⟨E5 r,h',S',β,by rw[hh'];exact hk,⟨by rw[hl'];exact hr.len,λj b hb=> ?_,hr.inj,r1.old,r1.glob,λr b p ht=>by rw[htl] at ht;exact D3 (hr.tlt r b p ht) E1.size,by rw[hh'];exact vP hr.one hn (λ_=>rfl)⟩,GY v1,E⟩
  by_cases hjn:j=n
  ·subst hjn
   rw[hgn] at hb;cases hb
   refine⟨a1,q,λl c ds hl=> ?_,λj1 j2 h1 h2=>aq j1 j2 (by simpa using h1) (by simpa using h2)⟩
   rw[htl]
   by_cases hli:i=l
   ·subst hli
    rw[G1 hil] at hl
    simp only[W8,iJ] at hl
    obtain⟨rfl,rfl⟩:=hl
    exact⟨g1,⟨c1,el1,f2,f3,f4⟩,f5⟩
   ·rw[C3 hli] at hl
    obtain⟨k1,⟨c2,e2,k2,k3,k4⟩,k5⟩:=a4 l c ds hl
    have hne:c≠b1:=λe=>by
     subst e
     have:=hr.inj _ _ _ _ _ k1 g1
     have hll:=(A4.1 hl).1
     exact hli (aq i l hil hll (by omega))
    obtain⟨m1,m2⟩:=stays c (hr.tlt _ _ _ k1) hne
    exact⟨k1,⟨c2,e2,by rw[m1];exact k2,k3,λj c u hj hu=>⟨(k4 j c u hj hu).1,(k4 j c u hj hu).2.evol E.sub E.cell⟩⟩,λo ho=>k5 o (m2 o ho)⟩
  ·rw[hget j hjn] at hb
   have hjl:=(A4.1 hb).1
   exact BR.keep E rfl (λho=>absurd (hr.one _ _ _ _ hb hn ho rfl) hjn) (λb' p hb'=>stays b' (hr.lt hb') (λe=>by
    subst e
    exact hr.tne hjl hb' g1 rfl)) (hr.blk j b hb)
 exact bC.mono (hc w S β0 argv r0 hv0) key
theorem LT {E:Env} (hE:E.Ok P) {f:FuncId} {fn:Func} (hf:P.funcs[f]? =some fn) (hname:(fn.name== "runtime.NumGoroutine")=false) (hN:E.N=fn.ntmps) {args:List V} (hargs:args.all (nmV 0)=true)
 (hsz:args.length<=fn.ntmps) {r:List D} (hx:mK E fn args [] λv h=>∃h2,WkH h h2/\eO v h2 λds=>VLe (nG v ds) (E5 r)):C9 P f args (E5 r):=by
 intro w S h β argv hr hv
 have hc:=X9 hE hf hname hN hsz hx w S [] argv (rQ hr.old hr.glob) ⟨hv.1,λj c u hj hu=>by
  exact(hv.2 j c u hj hu).nil (C5.1 hargs _ (A7 hj))⟩
 have key:∀(cv:Value) (w':World),(∃v h' S' β',(∃h2,WkH h' h2/\eO v h2 λds=>VLe (nG v ds) (E5 r))/\HR w' S' h' β'/\VR w' S' h' β' v cv/\F7 w S [] [] w' S' h' β')->
  ∃S' β',HR w' S' h β'/\VR w' S' h β' (E5 r) cv/\F7 w S h β w' S' h β':=λcv w' ⟨v,h0',S0',β0',⟨h',hw,hk⟩,hr0',hv0',hE0'⟩=>by
  obtain⟨S',β',hr',e0⟩:=hw w' S0' β0' hr0'
  have hE':=hE0'.trans e0
  have hv':=hv0'.evol e0
  obtain⟨ds,hd,hh⟩:=kH hk
  obtain⟨S2,h2,r2,e2,d2⟩:=hh w' S' β' cv hr' hv'
  have eT:=hE'.trans e2
  refine⟨S2,β,?_⟩
  have E2:F7 w S h β w' S2 h β:=by
   refine⟨eT.outer,eT.size,λi hi _=>eT.frame i hi ?_,eT.shape,eT.loops,eT.froz,eT.sub,λb o hs=> ?_,eT.cell,λb hb=>.inl hb,B1 _,λm b hm=>⟨b,hm,BEv.refl _ _⟩⟩
   ·rintro⟨m,p,hm⟩;simp at hm
   ·rcases eT.new b o hs with h|h|⟨m,p,hm⟩
    ·exact .inl h
    ·exact .inr (.inl h)
    ·simp at hm
  have stays:∀b',b'<w.heap.size->w'.heap[b']? =w.heap[b']? /\∀o,S2 b' o->S b' o:=λb' hlt=>by
   refine⟨eT.frame b' hlt (by rintro⟨m,p,hm⟩;simp at hm),λo ho=> ?_⟩
   rcases eT.new b' o ho with h|h|⟨m,p,hm⟩
   ·exact h
   ·omega
   ·simp at hm
  exact⟨⟨hr.len,λm b hm=>BR.keep E2 rfl (λ_ r b p ht=>⟨ht,stays b (hr.tlt r b p ht)⟩) (λb' p hb'=>stays b' (hr.lt hb')) (hr.blk m b hm),hr.inj,r2.old,r2.glob,λr b p ht=>D3 (hr.tlt r b p ht) eT.size,hr.one⟩,hd.vr (d2 h β),E2⟩
 exact bC.mono (hc) key
theorem Wk.virtV {N:Nat} {ts:Tm} {h:Hp} {n i a sz:Nat} {cs:List V} (ro:Bool) (hsz:0<sz) (hn:h[n]? =some (.var cs)) (hi:cs[i]? =some (.d (.sl a true []))):
 Wk N ts h ts ((h++[Blk.row 0 sz ro []]).set n (.var (cs.set i (.sref h.length 0 0 0 false)))):=λC act w S β hs=>by
 have hil:i<cs.length:=(A4.1 hi).1
 have hnl:n<h.length:=(A4.1 hn).1
 obtain⟨β0,r1,e1⟩:=iT hs.hr 1
 have hres:(h++List.replicate 1 Blk.res)[h.length]? =some .res:=by simp
 have hnone:β0[h.length]? =some none:=by have:=r1.blk _ _ hres;simpa[BR] using this
 have J3:(h++List.replicate 1 Blk.res).set h.length (.row 0 sz ro [])=h++[.row 0 sz ro []]:=by simp
 obtain⟨b0,cells0,elem0,k1,k2,k3,k4,k5⟩:=hs.hr.blk n _ hn
 have hcl:i<cells0.size:=by omega
 obtain⟨ad,had⟩:∃ad,cells0[i]=.slice ad 0 0:=by
  have:=(k4 i _ cells0[i] hi (B7 hcl)).2
  generalize cells0[i]=cv at this
  cases this with|d this=>cases this with
  |sl _ _ _ ad cap b off uf h1 h2=>exact⟨ad,by rw[h2 rfl];rfl⟩
 obtain⟨r2,e2,v2⟩:=kN r1 hres hnone 0 sz ro hsz trivial ad
 rw[J3] at r2 e2 v2
 have e12:=e1.trans e2
 have hn2:(h++[Blk.row 0 sz ro []])[n]? =some (.var cs):=by rw[B8 hnl];exact hn
 obtain⟨b,cells,elem,g1,g2,g3,g4,g5⟩:=r2.blk n _ hn2
 have hβ:β0.set n (some (b,0))=β0:=by
  obtain⟨hl,he⟩:=A4.1 g1
  conv=>rhs;rw[<-Z5 hl]
  rw[he]
 have hb:b=b0:=by
  obtain⟨x,hx,ev⟩:=e12.blk n _ hn
  rw[hn2] at hx
  cases hx
  rcases ev with h'|⟨_,ht⟩|⟨_,_,_,h',_⟩
  ·cases h'
  ·rw[g1,k1] at ht;simp at ht;exact ht
  ·cases h'
 subst hb
 have hcell:cells=cells0:=by rw[k2] at g2;cases g2;rfl
 subst hcell
 have:=upd (w':=w) r2 hn2 (blk':=.var (cs.set i (.sref h.length 0 0 0 false))) (some (b,0)) (B1 _) (λ_ _ _=>rfl) (λ_ _ c e f _ h=>⟨c,h,rfl⟩) (λ_ _ l _ h=>⟨l,h⟩) (λ_=>rfl) (λ_ _ _ _ _=>rfl)
  (λb' p hb=>by cases hb;exact .inl ⟨0,g1⟩) (by rw[g1];exact .inr (.inl ⟨.inl ⟨_,rfl⟩,rfl⟩)) (λE=> ?_)
 ·rw[hβ] at this
  have E:=e12.trans this.2
  exact⟨_,β0,hs.evol E this.1,E⟩
 ·rw[hβ] at E ⊢
  refine⟨b,cells,elem,g1,g2,by rw[g3];simp,λj c u hj hu=> ?_,g5⟩
  by_cases hij:i=j
  ·subst hij
   simp[hil] at hj
   subst hj
   rw[B7 hcl] at hu
   cases hu
   rw[had]
   exact⟨rfl,v2.evol E⟩
  ·rw[C3 hij] at hj
   obtain⟨f1,f2⟩:=g4 j c u hj hu
   exact⟨f1,f2.evol E⟩
theorem L3.virtV {N:Nat} {c:Code} {ts:Tm} {h:Hp} {k:Ex->Tm->Hp->Prop} (n i a sz:Nat) {cs:List V} (ro:Bool) (hsz:0<sz) (hn:h[n]? =some (.var cs)) (hi:cs[i]? =some (.d (.sl a true [])))
 (hl:cT.lenOfK h λm=>ER h [.row 0 sz ro []] λh'=>L3 P N c ts (h'.set n (.var (cs.set i (.sref m 0 0 0 false)))) k):L3 P N c ts h k:=
 L3.weak (Wk.virtV ro hsz hn hi) (iH _ _ _ (cU _ _ hl))
theorem WkH.cellV {h:Hp} {n i m ver len sz:Nat} {ro full:Bool} {xs:List D} {cs:List V} (hn:h[n]? =some (.var cs)) (hi:cs[i]? =some (.sref m ver 0 len full)) (hm:h[m]? =some (.row ver sz ro xs)) (hl:len=xs.length):
 WkH h ((h.set m (.row ver sz true xs)).set n (.var (cs.set i (.d (.sl sz full xs))))):=λw S β hr=>by
 have hnm:m≠n:=by rintro rfl;rw[hn] at hm;cases hm
 have hil:i<cs.length:=(A4.1 hi).1
 obtain⟨b,cells,elem,g1,g2,g3,g4,g5⟩:=hr.blk n _ hn
 obtain⟨r1,e1⟩:=freeze hr hm
 have hic:i<cells.size:=by rw[g3];exact hil
 have hd:DR w (ZY S β m (xs.length*sz)) (.sl sz full ((xs.drop 0).take len)) cells[i]:=
  pL hr hm (by omega) (g4 i _ cells[i] hi (B7 hic)).2
 rw[whole hl] at hd
 have hn1:(h.set m (.row ver sz true xs))[n]? =some (.var cs):=by rw[C3 hnm];exact hn
 have hβ:β.set n (some (b,0))=β:=by
  obtain⟨hl,he⟩:=A4.1 g1
  conv=>rhs;rw[<-Z5 hl]
  rw[he]
 have:=upd (w':=w) r1 hn1 (blk':=.var (cs.set i (.d (.sl sz full xs)))) (some (b,0)) (B1 _) (λ_ _ _=>rfl) (λ_ _ c e f _ h=>⟨c,h,rfl⟩) (λ_ _ l _ h=>⟨l,h⟩) (λ_=>rfl) (λ_ _ _ _ _=>rfl)
  (λb' p hb=>by cases hb;exact .inl ⟨0,g1⟩) (by rw[g1];exact .inr (.inl ⟨.inl ⟨_,rfl⟩,rfl⟩)) (λE=> ?_)
 ·rw[hβ] at this
  have E:=e1.trans this.2
  exact⟨_,β,this.1,E⟩
 ·rw[hβ] at E ⊢
  refine⟨b,cells,elem,g1,g2,by rw[g3];simp,λj c u hj hu=> ?_,λo ho=> ?_⟩
  ·by_cases hij:i=j
   ·subst hij
    rw[G1 hil] at hj
    cases hj
    rw[B7 hic] at hu
    cases hu
    exact⟨rfl,.d (hd.evol E.sub E.cell)⟩
   ·rw[C3 hij] at hj
    obtain⟨f1,f2⟩:=g4 j c u hj hu
    exact⟨f1,f2.evol (e1.trans E)⟩
  ·rcases ho with ho|⟨base,hb,_⟩
   ·exact g5 o ho
   ·exact hnm (r1.inj m n b base 0 hb g1)
theorem WkH.toVard {h:Hp} {n:Nat} {ds:List D} (hn:h[n]? =some (.var (ds.map .d))):WkH h (h.set n (.vard ds)):=λw S β hr=>by
 obtain⟨b,cells,elem,g1,g2,g3,g4,g5⟩:=hr.blk n _ hn
 have hβ:β.set n (some (b,0))=β:=by
  obtain⟨hl,he⟩:=A4.1 g1
  conv=>rhs;rw[<-Z5 hl]
  rw[he]
 have:=upd (w':=w) hr hn (blk':=.vard ds) (some (b,0)) (B1 _) (λ_ _ _=>rfl) (λ_ _ c e f _ h=>⟨c,h,rfl⟩) (λ_ _ l _ h=>⟨l,h⟩) (λ_=>rfl) (λ_ _ _ _ _=>rfl)
  (λb' p hb=>by cases hb;exact .inl ⟨0,g1⟩) (by rw[g1];exact .inr (.inl ⟨.inr ⟨_,rfl⟩,rfl⟩)) (λE=> ?_)
 ·rw[hβ] at this
  exact⟨_,β,this.1,this.2⟩
 ·rw[hβ] at E ⊢
  refine⟨b,cells,elem,g1,g2,by rw[g3];simp,λj c u hj hu=> ?_,g5⟩
  obtain⟨f1,f2⟩:=g4 j (.d c) u (by rw[A8,hj];rfl) hu
  refine⟨f1,?_⟩
  cases f2 with
  |d f2=>exact f2.evol E.sub E.cell
theorem L3.atE {E:Env} (hE:E.Ok P) {c:Code} {ts:Tm} {h:Hp} {k:Ex->Tm->Hp->Prop} {X:Type} (tv:X->Tm) (hv:X->List (Nat×Blk)) (Inv:X->Prop) (μ:X->Nat) (x0:X) (ht:jC ts (over (tv x0) ts)) (hh:h=J3 h (hv x0)) (h0:Inv x0)
 (hnm:∀y:X,(over (tv y) ts).all (λp=>nmV h.length p.2)=true/\(J3 h (hv y)).all (tZ h.length)=true)
 (round:∀x,Inv x->bH E c (over (tv x) ts) (J3 h (hv x)) λe ts' h'=>match e with
   | .normal=>∃y,(jC ts' (over (tv y) ts)/\h'.take h.length=J3 h (hv y))/\Inv y/\μ y<μ x
   |e=>k e ts' h'):L3 P E.N c ts h k:=by
 refine⟨?_⟩
 have hl:=LP.loop (P:=P) (N:=E.N) (c:=c) (k:=k) (X:=X) (λx=>over (tv x) ts) (λx=>J3 h (hv x)) Inv μ x0 h0 λx hi=>by
  rw[<-hh]
  refine AWP.mono (λe ts h hk=> ?_) (bP hE c _ _ _ (round x hi))
  cases e with
  |normal=>
   obtain⟨y,⟨h1,h2⟩,h3⟩:=hk
   exact⟨y,Wm.end h1 h2 (hnm y).1 (hnm y).2,h3⟩
  |exit id=>exact hk
  |ret=>exact hk
 rw[<-hh] at hl
 exact LP.weak (Wk.tmps ht.mem) hl
theorem YC {C:Cx} {n:Nat} {E:Env} (hE:E.Ok P) {ops:Array Oper} {tF:Tm} {hF:Hp} {z:Nat} {oz:Oper} (hz:ops[z]? =some oz) (hzb:uV oz z=true) (htail:∀j oj,z<j->ops[j]? =some oj->dN ops.toList 5 oj z=true):∀(fuel:Nat) (l:List cP) (listed:Array Bool) (ts:Tm) (h:Hp) (a:Act) (w:World) (S:Stb) (β:Bet) (Q:Exit->Act->World->Prop),
 l.length=fuel->vD ops.toList tF hF l ts h->St E.N C a w S ts h β->listed.size=ops.size->(∀j oj,ops[j]? =some oj->listed.getD j false=true->∀e∈oj.after,Region.binds .any e=true->listed.getD e.on false=true)->(∀i,i<ops.size->(listed.getD i true=false↔(∃x∈l,x.idx=i)∨z<=i))->
 (∀x∈l,ops[x.idx]? =some x.o/\x.Ok P C.ro n E.N/\uV x.o x.idx=true/\x.idx<z/\dN ops.toList 5 oz x.idx=true)->FO ops.toList l->(∀a' w' S' β',St E.N C a' w' S' tF hF β'->F7 w S h β w' S' hF β'->wpOpIn (FF C.ro) n P ops Q z (λ_ _=>False) a' w')->
 ∀more,wpAnyIn (FF C.ro) n P .any ops Q (fuel+1+more) listed a w:=by
 intro fuel
 induction fuel with
 |zero=>
  intro l listed ts h a w S β Q hl hc hs hsz hcl hli hok hor hQ more
  have:l=[]:=E7 hl
  subst this
  obtain⟨c1,rfl⟩:=hc
  have hzlt:z<ops.size:=(C4.1 hz).1
  have hon:∀i,i<z->listed.getD i true=true:=λi hi=>by
   cases hg:listed.getD i true with
   |true=>rfl
   |false=>
    rcases(hli i (by omega)).1 hg with⟨x,hx,_⟩|h
    ·cases hx
    ·omega
  have hzr:z∈Region.ready .any ops listed:=mem_ready.2 ⟨(hli z hzlt).2 (.inr (B1 _)),oz,hz,λe he hb=>by
   have:=nY hzb e he hb
   rw[Y7 (by rw[hsz];omega) false true]
   exact hon e.on (by omega)⟩
  rw[show 0+1+more=more+1 by omega]
  refine⟨λhnil=>(by rw[hnil] at hzr;exact absurd hzr O9),λi hi=> ?_⟩
  have hiz:i=z:=by
   obtain⟨h1,o,h2,h3⟩:=mem_ready.1 hi
   have hil:=(C4.1 h2).1
   by_cases hlt:i<z
   ·rw[hon i hlt] at h1;cases h1
   ·by_cases hgt:z<i
    ·have e1:=Z1 hcl 5 o z h3 (htail i o hgt h2)
     rw[Y7 (by rw[hsz];exact hzlt) false true,(hli z hzlt).2 (.inr (B1 _))] at e1
     cases e1
    ·omega
  subst hiz
  have hs':St E.N C a w S tF h β:=⟨hs.hr,λt=>by rw[<-c1 t];exact hs.tr t,hs.size,hs.marks,hs.round,hs.base⟩
  exact wpOpIn_mono (λa' w' hq=>hq.elim) (hQ a w S β hs' (F7.refl _ _ _ _))
 |succ fuel ih=>
  intro l listed ts h a w S β Q hl hc hs hsz hcl hli hok hor hQ more
  rw[show fuel+1+1+more=(fuel+1+more)+1 by omega]
  refine⟨λhnil=> ?_,λi hi=> ?_⟩
  ·exfalso
   cases l with
   |nil=>simp at hl
   |cons x l=>
    obtain⟨g1,g2,g3,g4,g5⟩:=hok x (.head _)
    have hlt:=(C4.1 g1).1
    have:x.idx∈Region.ready .any ops listed:=by
     refine mem_ready.2 ⟨(hli _ hlt).2 (.inl ⟨x,.head _,rfl⟩),x.o,g1,λe he hb=> ?_⟩
     have hlt':=nY g3 e he hb
     have hel:e.on<ops.size:=by omega
     rw[Y7 (by rw[hsz];exact hel) false true]
     cases hg:listed.getD e.on true with
     |true=>rfl
     |false=>
      rcases(hli _ hel).1 hg with⟨y,hy,hyi⟩|hyz
      ·cases hy with
       |head=>omega
       |tail _ hy=>
        have:=(Z0 hor hy).1
        omega
      ·omega
    rw[hnil] at this
    cases this
  ·obtain⟨h1,o,h2,h3⟩:=mem_ready.1 hi
   have hlt:=(C4.1 h2).1
   have hzlt:z<ops.size:=(C4.1 hz).1
   have hnz:¬z<=i:=λhle=>by
    by_cases hgt:z<i
    ·have e1:=Z1 hcl 5 o z h3 (htail i o hgt h2)
     rw[Y7 (by rw[hsz];exact hzlt) false true,(hli z hzlt).2 (.inr (B1 _))] at e1
     cases e1
    obtain rfl:i=z:=by omega
    cases l with
    |nil=>simp at hl
    |cons x l=>
     obtain⟨g1,g2,g3,g4,g5⟩:=hok x (.head _)
     rw[hz] at h2;cases h2
     have e1:=Z1 hcl 5 oz x.idx h3 g5
     have hxl:=(C4.1 g1).1
     have e2:=(hli x.idx hxl).2 (.inl ⟨x,.head _,rfl⟩)
     rw[Y7 (by rw[hsz];exact hxl) false true,e2] at e1
     cases e1
   obtain⟨x,hx,rfl⟩:=((hli i hlt).1 h1).resolve_right hnz
   obtain⟨l1,l2,rfl⟩:=List.append_of_mem hx
   obtain⟨g1,g2,g3,g4,g5⟩:=hok x hx
   obtain⟨p1,p2,p3⟩:=jL.1 hor
   have hfree:∀y∈l1,PD ops.toList y x/\(y.still=true->y.bs'=y.bs∨y.ns=[]):=λy hy=>by
    have hym:y∈l1++x::l2:=O8 _ hy
    obtain⟨k1,k2,_⟩:=hok y hym
    refine⟨?_,k2.2.2.2⟩
    rcases(p3 y hy x (.head _)).2 with hw|ha
    ·exfalso
     rw[g1] at h2;cases h2
     have e1:=Z1 hcl 5 x.o y.idx h3 hw
     have hyl:=(C4.1 k1).1
     have e2:=(hli y.idx hyl).2 (.inl ⟨y,hym,rfl⟩)
     rw[Y7 (by rw[hsz];exact hyl) false true,e2] at e1
     cases e1
    ·exact ha
   obtain⟨c1,c2⟩:=SA g2.2.2.2 l1 ts h hfree hc
   have hsub:(l1++l2).Sublist (l1++x::l2):=(List.Sublist.refl l1).append (FP x l2)
   have hnx:∀y∈l1++l2,y.idx≠x.idx:=λy hy=>by
    rcases K0.1 hy with hy|hy
    ·have:=(p3 y hy x (.head _)).1;omega
    ·have:=(Z0 p2 hy).1;omega
   have step:∀{cv:Value} {w':World} {S':Stb} {β':Bet},HR w' S' (J5 h x.ns x.bs') β'->VR w' S' (J5 h x.ns x.bs') β' x.v cv->F7 w S h β w' S' (J5 h x.ns x.bs') β'->
    wpAnyIn (FF C.ro) n P .any ops Q (fuel+1+more) (listed.setIfInBounds x.idx true) (a.put x.o.dst cv) w':=λe1 e2 e3=>by
    refine ih (l1++l2) _ _ _ _ _ _ _ Q (by simp at hl ⊢;omega) c2 ((hs.evol e3 e1).put g2.2.2.1 e2) (by simpa using hsz) (λj oj hj hjl e he hb=> ?_) (λj hj=> ?_) (λy hy=>hok y (hsub.subset hy)) (hor.sublist hsub) (λa' w' S2 β2 h1 h2=>hQ a' w' S2 β2 h1 (e3.trans h2)) more
    ·have mono:∀m,listed.getD m false=true->(listed.setIfInBounds x.idx true).getD m false=true:=λm hm=>by
      by_cases hmi:x.idx=m
      ·subst hmi
       rw[C0,N7,if_pos (by rw[hsz];exact hlt)];rfl
      ·rw[C0,G3 hmi,<-C0];exact hm
     refine mono _ ?_
     by_cases hji:x.idx=j
     ·subst hji
      rw[h2] at hj;cases hj
      exact h3 e he hb
     ·rw[C0,G3 hji,<-C0] at hjl
      exact hcl j oj hj hjl e he hb
    ·by_cases hji:j=x.idx
     ·subst hji
      rw[C0,N7,if_pos (by rw[hsz];exact hj)]
      rw[O0]
      exact Iff.intro (λh=>by cases h) λhh=>by
       rcases hh with⟨y,hy,hyi⟩|hh
       ·exact absurd hyi (hnx y hy)
       ·omega
     ·rw[C0,G3 (N9 hji),<-C0,hli j hj]
      constructor
      ·rintro(⟨y,hy,hyi⟩|hh)
       ·rcases K0.1 hy with hy|hy
        ·exact .inl ⟨y,O8 _ hy,hyi⟩
        ·cases hy with
         |head=>exact absurd hyi.symm hji
         |tail _ hy=>exact .inl ⟨y,dB _ hy,hyi⟩
       ·exact .inr hh
      ·rintro(⟨y,hy,hyi⟩|hh)
       ·exact .inl ⟨y,hsub.subset hy,hyi⟩
       ·exact .inr hh
   simp only[wpOpIn,g1]
   cases hrun:x.run with
   |true=>
    rw[if_pos (by have:=c1.1.run hs;rw[hrun] at this;exact this)]
    have hor:=gJ hs.hr.glob hs.tr (aK x.o.op)
    rw[c1.2.1 hrun] at hor
    exact g2.1 hrun a w S h β hs.hr hor c1.2.2 _ _ λw' S' β' cv e1 e2 e3=>step e1 e2 e3
   |false=>
    rw[if_neg (by have:=c1.1.run hs;rw[hrun] at this;simp[this])]
    obtain⟨e1,e2⟩:=g2.2.1 hrun
    refine⟨λf _=>FF.all C.ro f,?_⟩
    have J3:J5 h x.ns x.bs'=h:=by rw[e1];simp[J5]
    refine step (S':=S) (β':=β) ?_ ?_ ?_
    ·rw[J3];exact hs.hr
    ·rw[e2];exact .tup [] #[] rfl (by simp)
    ·rw[J3];exact F7.refl _ _ _ _
def A6v (all:List Oper) (z:Nat):Bool:=(all.drop (z+1)).all λo=>dN all 5 o z
theorem DWP.pcallD {E:Env} (hE:E.Ok P) (z:Nat) {id:Nat} {ops:Array Oper} {o:Oper} {f:Operand} {qs:Array Operand} {ats:Array TypeId} {dopt:Option (FuncId×List V)} {ts:Tm} {h:Hp} {k:XD->Option (FuncId×List V)->Tm->Hp->Prop}
 (hz:ops.toList[z]? =some o) (ho:o.op=.call {callee:=.value f,args:=qs,argTypes:=ats}) (hg:o.guard=none) (hw:(yO ops.toList o z&&uV o z&&A6v ops.toList z)=true)
 (hx:cT (V0 true ops.toList) h λnf h=>tC E ops.toList (ops.toList.take z) nf ts h λfs ts h=>X4 (pT ops.toList 0 (ops.toList.take z) fs) (RM ts qs.toList λvs=>evK ts f λv=>match v with
   | .fn g cap=>A3f P g (vs++cap) h λd h=>k (.pan d) dopt ts h
   |_=>False)):DWP P E.N (.region id ops true) dopt ts h k:=by
 refine⟨λn C a w S β hs hro hdr=> ?_⟩
 obtain⟨nf,hx⟩:=nB hx
 obtain⟨β',r1,r2⟩:=iT hs.hr (V0 true ops.toList)
 have hs:=hs.evol r2 r1
 obtain⟨insts,tF,hF,g1,g2,g3,g4,g5⟩:=rR (ro:=C.ro) (n:=n) hE ops.toList (ops.toList.take z) 0 nf ts _ _ hx
 obtain⟨hi,hk⟩:=(J1 _ _).1 g1
 simp only[C8] at hw
 obtain⟨⟨hwa,hbz⟩,hwt⟩:=hw
 rw[<-g3] at hi
 have hi':pT ops.toList 0 (insts.map cP.o) (insts.map cP.fp)=true:=by simpa[g3] using hi
 obtain⟨o1,o2⟩:=yB hi' g4
 have hzl:z<ops.size:=by have:=(A4.1 hz).1;simpa using this
 have hlen:insts.length=z:=by
  have:=N8 List.length g3
  simp at this
  omega
 obtain⟨d1,d2⟩:=drawn hs.hr
 have hzz:ops[z]? =some o:=by rw[<-L1];exact hz
 refine wpIn_region_any hE.mixed ?_
 obtain⟨more,hmore⟩:∃more,ops.size=insts.length+1+more:=⟨ops.size-(insts.length+1),by omega⟩
 rw[hmore]
 refine YC (w:=w.drew) hE hzz hbz (λj oj hj hoj=> ?_) insts.length insts _ ts _ a S β' _ rfl g2 (hs.evol d2 d1) (by simp[hmore]) (λj oj _ hj=>by rw[C0,aR] at hj;split at hj<;>simp at hj) (λi hi=> ?_) (λx hx=> ?_) o1 (λa' w' S2 β2 hs2 hE2=> ?_) more
 ·have:=C5.1 hwt oj (by
   have h1:ops.toList[j]? =some oj:=by rw[L1];exact hoj
   refine A7 (i:=j-(z+1)) ?_
   rw[J4,show z+1+(j-(z+1))=j by omega];exact h1)
  exact this
 ·have h1:(Array.replicate (insts.length+1+more) false).getD i true=false:=by
   rw[C0,aR,if_pos (by omega)];rfl
  refine Iff.intro (λ_=> ?_) λ_=>h1
  by_cases hiz:z<=i
  ·exact .inr hiz
  ·obtain⟨x,hx,hxi⟩:=rM g4 i (by omega)
   exact .inl ⟨x,hx,by omega⟩
 ·obtain⟨i,h1,h2⟩:=mH g4 x hx
  have hil:=(A4.1 h1).1
  have:(insts.map cP.o)[i]? =some x.o:=by simp[h1]
  rw[g3,I8 (by omega)] at this
  rw[C1] at h2
  refine⟨by rw[h2,<-L1];exact this,g5 x hx,o2 x hx,by omega,?_⟩
  rw[h2]
  exact qU hwa i (by omega)
 ·have hk:=qE _ _ _ hk
  have hk:=gC _ _ _ hk
  have hv:=rS hs2.hr.glob hs2.tr f
  generalize hxv:a'.eval f=xv at hv
  split at hk
  case h_2=>exact hk.elim
  rename_i g cap hev
  rw[hev] at hv
  cases hv with
  |fn _ _ arr h1 h2=>
   simp only[wpOpIn,hzz,kM hg,if_true]
   refine⟨λf _=>FF.all C.ro f,?_⟩
   have hor:=gJ hs2.hr.glob hs2.tr qs.toList
   obtain⟨e1,e2⟩:=hk.holds w' S2 β2 _ hs2.hr (VRs.of_or hor ⟨h1,h2⟩)
   have hrun:((o.semAt (FF C.ro).round a'.eval).run P w')=(callFunc g (qs.map a'.eval++arr)).run P w':=by
    rw[Oper.semAt_eq _ _ _ (λc' h=>by rw[ho] at h;cases h)]
    simp[ho,hxv,execOp,resolve,Deferred.ofValue,invoke]
   rw[hrun,e1,Oper.uponIn_enter]
   have hE3:=(r2.trans d2).trans hE2
   refine⟨λh=>by simp[FF,Fence.wide] at h,CallsIn.mono (gW.2 e2) λe w2 he=> ?_⟩
   obtain⟨v,rfl,d,h2,S3,β3,k1,k2,k3,k4⟩:=he
   exact⟨.pan d,dopt,tF,h2,S3,β3,C.D,k1,⟨v,rfl,k3⟩,hs2.evol k4 k2,hE3.trans k4,(hdr.evol hE3).evol k4⟩
def SZ (P:Program) (f:FuncId) (args:List V) (cs:List D):Prop:=
 ∀(w:World) (S:Stb) (h:Hp) (β:Bet) (argv:Array Value) (n:Nat),h[n]? =some .res->HR w S h β->VRs w S h β args argv->
  bC P f argv w λcv w'=>∃S' β',HR w' S' (h.set n (.vard cs)) β'/\VR w' S' (h.set n (.vard cs)) β' (.ptr n 0 0 0) cv/\F7 w S h β w' S' (h.set n (.vard cs)) β'
theorem WJ {E:Env} (hE:E.Ok P) {f:FuncId} {fn:Func} (hf:P.funcs[f]? =some fn) (hname:(fn.name== "runtime.NumGoroutine")=false) (hN:E.N=fn.ntmps) {args:List V} (hargs:args.all (nmV 0)=true)
 (hsz:args.length<=fn.ntmps) {r:List D} (hx:mK E fn args [] λv h=>∃m,v=.ptr m 0 0 0/\h[m]? =some (.vard r)):SZ P f args r:=by
 intro w S h β argv n hn hr hv
 have hc:=X9 hE hf hname hN hsz hx w S [] argv (rQ hr.old hr.glob) ⟨hv.1,λj c u hj hu=>by
  exact(hv.2 j c u hj hu).nil (C5.1 hargs _ (A7 hj))⟩
 have hnl:n<h.length:=(A4.1 hn).1
 have hnb:n<β.length:=D3 hnl hr.len
 have hnone:β[n]? =some none:=by have:=hr.blk n _ hn;simpa[BR] using this
 have key:∀(cv:Value) (w':World),(∃v h' S' β',(∃m,v=.ptr m 0 0 0/\h'[m]? =some (.vard r))/\HR w' S' h' β'/\VR w' S' h' β' v cv/\F7 w S [] [] w' S' h' β')->
  ∃S' β',HR w' S' (h.set n (.vard r)) β'/\VR w' S' (h.set n (.vard r)) β' (.ptr n 0 0 0) cv/\F7 w S h β w' S' (h.set n (.vard r)) β':=λcv w' ⟨v,h',S',β',hk,hr',hv',eT⟩=>by
  have core:∀(p:Option (Nat×Nat)),(∀b q,p=some (b,q)->img β' b)->(F7 w S h β w' S' (h.set n (.vard r)) (β.set n p)->BR w' S' (h.set n (.vard r)) (β.set n p) n (.vard r))->
   HR w' S' (h.set n (.vard r)) (β.set n p)/\F7 w S h β w' S' (h.set n (.vard r)) (β.set n p):=λp hp hbr=>by
   have hnew:∀b q,p=some (b,q)->w.heap.size<=b:=λb q e=>by
    rcases eT.imgs b (hp b q e) with⟨m,q',hm⟩|h
    ·simp at hm
    ·exact h
   have J3:(β.set n p)[n]? =some p:=by simp[hnb]
   have E2:F7 w S h β w' S' (h.set n (.vard r)) (β.set n p):=by
    refine⟨eT.outer,eT.size,λi hi _=>eT.frame i hi ?_,eT.shape,eT.loops,eT.froz,eT.sub,λb o hs=> ?_,eT.cell,λb hb=> ?_,by simp,λm b hm=> ?_⟩
    ·rintro⟨m,p,hm⟩;simp at hm
    ·rcases eT.new b o hs with h|h|⟨m,p,hm⟩
     ·exact .inl h
     ·exact .inr (.inl h)
     ·simp at hm
    ·obtain⟨m,q,hm⟩:=hb
     by_cases hmn:m=n
     ·subst hmn
      rw[J3] at hm
      exact .inr (hnew b q (by simpa using hm))
     ·rw[C3 (N9 hmn)] at hm
      exact .inl ⟨m,q,hm⟩
    ·by_cases hmn:m=n
     ·subst hmn
      rw[hn] at hm;cases hm
      exact⟨_,by simp[hnl];rfl,trivial⟩
     ·exact⟨b,by rw[C3 (N9 hmn)];exact hm,by rw[C3 (N9 hmn)];exact BEv.refl _ _⟩
   have stays:∀b',b'<w.heap.size->w'.heap[b']? =w.heap[b']? /\∀o,S' b' o->S b' o:=λb' hlt=>by
    refine⟨eT.frame b' hlt (by rintro⟨m,p,hm⟩;simp at hm),λo ho=> ?_⟩
    rcases eT.new b' o ho with h|h|⟨m,p,hm⟩
    ·exact h
    ·omega
    ·simp at hm
   refine⟨⟨by simpa using hr.len,λm b hm=> ?_,λm1 m2 b q1 q2 h1 h2=> ?_,hr'.old,hr'.glob,λr b p ht=>by rw[tM hnl] at ht;exact D3 (hr.tlt r b p ht) eT.size,vP hr.one hn (λh=>nomatch h)⟩,E2⟩
   ·by_cases hmn:m=n
    ·subst hmn
     have:b=.vard r:=by simpa[hnl] using hm.symm
     subst this
     exact hbr E2
    ·rw[C3 (N9 hmn)] at hm
     exact BR.keep E2 (by rw[C3 (N9 hmn)]) (λ_ r b p ht=>⟨by rw[tM hnl];exact ht,stays b (hr.tlt r b p ht)⟩) (λb' p hb'=>stays b' (hr.lt hb')) (hr.blk m b hm)
   ·have hcase:∀m q,(β.set n p)[m]? =some (some (b,q))->(m≠n/\β[m]? =some (some (b,q)))∨(m=n/\p=some (b,q)):=by
     intro m q hm
     by_cases hmn:m=n
     ·subst hmn;rw[J3] at hm;exact .inr ⟨rfl,by simpa using hm⟩
     ·rw[C3 (N9 hmn)] at hm;exact .inl ⟨hmn,hm⟩
    rcases hcase m1 q1 h1 with⟨a1,a2⟩|⟨a1,a2⟩<;>rcases hcase m2 q2 h2 with⟨b1,b2⟩|⟨b1,b2⟩
    ·exact hr.inj _ _ _ _ _ a2 b2
    ·exact absurd (hr.lt a2) (by have:=hnew _ _ b2;omega)
    ·exact absurd (hr.lt b2) (by have:=hnew _ _ a2;omega)
    ·omega
  obtain⟨m,rfl,hm⟩:=hk
  obtain⟨b,cells,elem,q1,q2,q3,q4,q5⟩:=hr'.blk m _ hm
  obtain⟨c1,c2⟩:=core (some (b,0)) (λb2 q e=>by cases e;exact⟨m,0,q1⟩) λE=>⟨b,cells,elem,by simp[hnb],q2,q3,q4,q5⟩
  refine⟨S',_,c1,?_,c2⟩
  cases hv' with
  |ptr g1 g2=>
   unfold PR at g2
   rw[hm] at g2
   obtain⟨b',e1,_,_,e2⟩:=g2
   rw[q1] at e1;simp at e1;subst e1;subst e2
   refine .ptr rfl ?_
   unfold PR
   rw[G1 hnl]
   exact⟨b,by simp[hnb],rfl,rfl,rfl⟩
 exact bC.mono (hc) key
theorem H6.ofBox {f:FuncId} {args:List V} {h:Hp} {k:Res->Prop} {cs:List D} (hc:SZ P f args cs) (n:Nat) (hn:h[n]? =some .res) (hk:k (.upd [n] [.vard cs] (.ptr n 0 0 0))):H6 P f args h k:=
 ⟨_,hk,λbs hl hb w S h1 β argv hp hr hv=>by
   have h0:=hp 0 n rfl
   rw[<-hb 0 n rfl,hn] at h0
   exact hc w S h1 β argv n h0 hr hv⟩
theorem A5w {f:FuncId} {args:List V} {H:Hp} (hH:H.all (okB H.length)=true) (ha:args.all (okV H.length)=true) {r:List D}
 (hc:M4 P f args H λv _=>v=E5 r) {ns:List Nat} (hnd:ns.Nodup) (hq:ns.length=H.length):XX P f (args.map (bG ns)) ns (H.map (P4 ns)) (List.replicate ns.length .gone) (E5 r):=by
 intro w S h β argv hpre hr hv
 have hpre:∀(i m:Nat),ns[i]? =some m->h[m]? =(H[i]?).map (P4 ns):=λi m hi=>by rw[hpre i m hi,A8]
 obtain⟨β0,hβ0⟩:∃β0:Bet,β0=ns.map λm=>(β[m]?).getD none:=⟨_,rfl⟩
 have hin:∀(i m:Nat),ns[i]? =some m->m<h.length:=λi m hi=>by
  have hil:i<H.length:=by rw[<-hq];exact(A4.1 hi).1
  have:=hpre i m hi
  rw[A3 hil] at this
  exact(A4.1 this).1
 have hbet:∀(i m:Nat),ns[i]? =some m->β[m]? =β0[i]? :=λi m hi=>by
  have hm:m<β.length:=D3 (hin i m hi) hr.len
  rw[hβ0,A8,hi,Q3,A3 hm];rfl
 have s0:pI ns H.length H β0 h β:=⟨hq,hpre,hbet,λi b _ hb=>C5.1 hH b (A7 hb)⟩
 have hl0:β0.length=H.length:=by rw[hβ0,A6,hq]
 have hname:∀i,i<H.length->∃m,ns[i]? =some m:=λi hi=>⟨ns[i]'(by omega),A3 _⟩
 have h0:∀(i b p:Nat),β0[i]? =some (some (b,p))->∃m,ns[i]? =some m/\β[m]? =some (some (b,p)):=λi b p hi=>by
  have hil:i<H.length:=by rw[<-hl0];exact(A4.1 hi).1
  obtain⟨m,hm⟩:=hname i hil
  exact⟨m,hm,by rw[hbet i m hm];exact hi⟩
 have hndi:∀(i j m:Nat),ns[i]? =some m->ns[j]? =some m->i=j:=λi j m hi hj=>by
  exact(AJ (A4.1 hi).1 hnd).1 (hi.trans hj.symm)
 have r0:HR w S H β0:=by
  refine⟨by omega,λi b hb=> ?_,λi j b p q hi hj=> ?_,hr.old,hr.glob,λr b p ht=> ?_,λi j b c hi hj ho=> ?_⟩
  ·obtain⟨m,hm⟩:=hname i (A4.1 hb).1
   have:=hr.blk m (P4 ns b) (by rw[hpre i m hm,hb];rfl)
   exact(BR.ren s0 hm (C5.1 hH b (A7 hb))).1 this
  ·obtain⟨m1,a1,a2⟩:=h0 i b p hi
   obtain⟨m2,b1,b2⟩:=h0 j b q hj
   have:=hr.inj _ _ _ _ _ a2 b2
   subst this
   exact hndi i j m1 a1 b1
  ·unfold tl at ht
   have:=(A4.1 ht).1
   omega
  ·have:=C5.1 hH b (A7 hi)
   cases b<;>simp[okB,Blk.own] at this ho
 have hv0:VRs w S H β0 args argv:=⟨by rw[hv.1,A6],λj c u hj hu=>
  (VR.ren s0 (C5.1 ha c (A7 hj))).1 (hv.2 j (bG ns c) u (by rw[A8,hj];rfl) hu)⟩
 have key:∀(cv:Value) (w':World),(∃v h' S' β',v=E5 r/\HR w' S' h' β'/\VR w' S' h' β' v cv/\F7 w S H β0 w' S' h' β')->
  ∃S' β',HR w' S' (J5 h ns (List.replicate ns.length .gone)) β'/\VR w' S' (J5 h ns (List.replicate ns.length .gone)) β' (E5 r) cv/\F7 w S h β w' S' (J5 h ns (List.replicate ns.length .gone)) β':=λcv w' ⟨v,H',S',β1,e1,r1,v1,E1⟩=>by
  subst e1
  obtain⟨h',hh'⟩:∃h',h'=J5 h ns (List.replicate ns.length .gone):=⟨_,rfl⟩
  rw[<-pV] at hh'
  have hlen:h'.length=h.length:=by rw[hh',zV]
  have hat:∀(i m:Nat),ns[i]? =some m->h'[m]? =some .gone:=λi m hi=>by
   have hil:i<ns.length:=(A4.1 hi).1
   rw[hh']
   exact FE ns _ h i m _ hnd hi (by rw[J2,if_pos hil]) (hin i m hi)
  have hoth:∀(j:Nat),j∉ns->h'[j]? =h[j]? :=λj hj=>by
   rw[hh']
   exact nQ _ _ j λp hp e=>hj (by have h1:=(KY hp).1;rw[e] at h1;exact h1)
  obtain⟨β',hβ'⟩:∃β':Bet,β'=(List.range β.length).map λj=>if j∈ns then none else(β[j]?).getD none:=⟨_,rfl⟩
  have hblen:β'.length=β.length:=by rw[hβ'];simp
  have bat:∀(m:Nat),m∈ns->β'[m]? =some none:=λm hmem=>by
   obtain⟨i,hi⟩:=D9.1 hmem
   have hm:m<β.length:=D3 (hin i m hi) hr.len
   rw[hβ',A8,F2 hm]
   simp only[Q3,if_pos hmem]
  have both:∀(j:Nat),j∉ns->β'[j]? =β[j]? :=λj hj=>by
   rw[hβ',A8]
   by_cases hl:j<β.length
   ·rw[F2 hl]
    simp only[Q3,if_neg hj,A3 hl,O0]
   ·rw[E0 (by simpa using hl),E0 (by omega)];rfl
  have hsub:∀(j b p:Nat),β'[j]? =some (some (b,p))->j∉ns/\β[j]? =some (some (b,p)):=λj b p hj=>by
   by_cases hjn:j∈ns
   ·rw[bat j hjn] at hj;simp at hj
   ·exact⟨hjn,by rw[<-both j hjn];exact hj⟩
  have himg0:∀b,img β0 b->img β b:=λb ⟨i,p,hi⟩=>by
   obtain⟨m,_,h2⟩:=h0 i b p hi
   exact⟨m,p,h2⟩
  have E:F7 w S h β w' S' h' β':=by
   refine⟨E1.outer,E1.size,λi hi hni=>E1.frame i hi λhh=>hni (himg0 i hh),E1.shape,E1.loops,E1.froz,E1.sub,λb o hs=> ?_,E1.cell,λb ⟨j,p,hj⟩=>.inl ⟨j,p,(hsub j b p hj).2⟩,by omega,λj b hb=> ?_⟩
   ·rcases E1.new b o hs with g|g|g
    ·exact .inl g
    ·exact .inr (.inl g)
    ·exact .inr (.inr (himg0 b g))
   ·by_cases hjn:j∈ns
    ·obtain⟨i,hi⟩:=D9.1 hjn
     have hil:i<H.length:=by rw[<-hq];exact(A4.1 hi).1
     have hbb:=hpre i j hi
     rw[A3 hil,hb] at hbb
     simp only[Q3,W8] at hbb
     subst hbb
     refine⟨.gone,hat i j hi,?_⟩
     have:=C5.1 hH _ (R5 hil)
     generalize H[i]=x at this ⊢
     cases x<;>first|exact .inl rfl|cases this
    ·exact⟨b,by rw[hoth j hjn];exact hb,by rw[both j hjn];exact BEv.refl _ _⟩
  have stays:∀(j c p:Nat),j∉ns->β[j]? =some (some (c,p))->w'.heap[c]? =w.heap[c]? /\∀o,S' c o->S c o:=λj c p hj hc=>by
   have hno:¬img β0 c:=λ⟨i,q,hi⟩=>by
    obtain⟨m,g1,g2⟩:=h0 i c q hi
    have:=hr.inj _ _ _ _ _ hc g2
    subst this
    exact hj (A7 g1)
   have hlt:=hr.lt hc
   refine⟨E1.frame c hlt hno,λo ho=> ?_⟩
   rcases E1.new c o ho with g|g|g
   ·exact g
   ·omega
   ·exact absurd g hno
  have htl:∀r,tl h' β' r=tl h β r:=λr=>by
   unfold tl
   rw[hlen]
   refine both _ λhm=> ?_
   obtain⟨i,hi⟩:=D9.1 hm
   have:=hin i _ hi
   omega
  rw[pV] at hh'
  rw[<-hh']
  refine⟨S',β',⟨by rw[hlen,hblen];exact hr.len,λj b hb=> ?_,λj1 j2 b p q g1 g2=>hr.inj _ _ _ _ _ (hsub _ _ _ g1).2 (hsub _ _ _ g2).2,r1.old,r1.glob,λr b p ht=>by rw[htl] at ht;exact D3 (hr.tlt r b p ht) E1.size,λj1 j2 b c g1 g2 o1 o2=> ?_⟩,GY v1,E⟩
  ·by_cases hjn:j∈ns
   ·obtain⟨i,hi⟩:=D9.1 hjn
    rw[hat i j hi] at hb;cases hb
    exact bat j hjn
   ·rw[hoth j hjn] at hb
    exact BR.keep E (both j hjn) (λ_ r b p ht=>⟨by rw[htl];exact ht,stays (h.length+r) b p (λhm=>by
     obtain⟨i,hi⟩:=D9.1 hm
     have:=hin i _ hi
     omega) ht⟩) (λc p hc=>stays j c p hjn hc) (hr.blk j b hb)
  ·have own:∀(j:Nat) (b:Blk),h'[j]? =some b->b.own=true->j∉ns:=λj b hj ho hm=>by
    obtain⟨i,hi⟩:=D9.1 hm
    rw[hat i j hi] at hj;cases hj;cases ho
   have n1:=own j1 b g1 o1
   have n2:=own j2 c g2 o2
   rw[hoth j1 n1] at g1
   rw[hoth j2 n2] at g2
   exact hr.one j1 j2 b c g1 g2 o1 o2
 exact bC.mono (hc w S β0 argv r0 hv0) key
theorem H6.eat {f:FuncId} {args:List V} {H:Hp} (hH:H.all (okB H.length)=true) (ha:args.all (okV H.length)=true) {r:List D}
 (hc:M4 P f args H λv _=>v=E5 r) (ns:List Nat) (hnd:ns.Nodup) (hq:ns.length=H.length) {args':List V} (he:args'=args.map (bG ns)) {h:Hp} (hpre:∀(i m:Nat),ns[i]? =some m->h[m]? =(H[i]?).map (P4 ns))
 {k:Res->Prop} (hk:k (.upd ns (List.replicate ns.length .gone) (E5 r))):H6 P f args' h k:=
 ⟨_,hk,λbs hl hb w S h1 β argv hp hr hv=>by
   subst he
   refine A5w hH ha hc hnd hq w S h1 β argv (λi m hi=> ?_) hr hv
   rw[hp i m hi,<-hb i m hi,hpre i m hi,A8]⟩
theorem VR.rp_pt {w:World} {S:Stb} {h:Hp} {β:Bet} {cs:List D} {v:Value} (hv:VR w S h β (.rp cs 0) v):DR w S (.pt cs) v:=by
 cases hv with
 |rp _ _ b off uf h1 h2=>exact .pt cs b off uf h1 h2
theorem C9.cl2 {f g:FuncId} {args:List V} {cs1 cs2:List D} (hc:C9 P f args (.fn g [.rp cs1 0,.rp cs2 0])):C9 P f args (.d (.cl g [] [.pt cs1,.pt cs2])):=by
 have key:∀{w:World} {S:Stb} {h:Hp} {β:Bet} {cv:Value},VR w S h β (.fn g [.rp cs1 0,.rp cs2 0]) cv->VR w S h β (.d (.cl g [] [.pt cs1,.pt cs2])) cv:=λhv=>by
  cases hv with
  |fn _ _ arr h1 h2=>
   refine .d (.cl g [] [.pt cs1,.pt cs2] #[] arr rfl (by simpa using h1) (by simp) λj c u hj hu=> ?_)
   match j,hj with
   |0,hj=>simp at hj;subst hj;exact(h2 0 _ u rfl hu).rp_pt
   |1,hj=>simp at hj;subst hj;exact(h2 1 _ u rfl hu).rp_pt
   |j+2,hj=>simp at hj
 intro w S h β argv hr hv
 rcases hc w S h β argv hr hv with⟨h1,h2⟩|⟨v,w',h1,S',β',g1,g2,g3⟩
 ·exact .inl ⟨h1,λcs=>by
   obtain⟨e,w',fr,⟨v,he,S',β',g1,g2,g3⟩,r⟩:=h2 cs
   exact⟨e,w',fr,⟨v,he,S',β',g1,key g2,g3⟩,r⟩⟩
 ·exact .inr ⟨v,w',h1,S',β',g1,key g2,g3⟩
theorem RI {E:Env} (hE:E.Ok P) {f:FuncId} {fn:Func} (hf:P.funcs[f]? =some fn) (hname:(fn.name== "runtime.NumGoroutine")=false) (hN:E.N=fn.ntmps) {args:List V} {H:Hp}
 (hsz:args.length<=fn.ntmps) {r:List D} (hx:mK E fn args H λv h=>∃h2,WkH h h2/\bL v h2 λds _=>VLe (nG v ds) (E5 r)):
 M4 P f args H λv _=>v=E5 r:=by
 intro w S β argv hr hv
 have hc:=X9 hE hf hname hN hsz hx w S β argv hr hv
 have key:∀(cv:Value) (w':World),(∃v h' S' β',(∃h2,WkH h' h2/\bL v h2 λds _=>VLe (nG v ds) (E5 r))/\HR w' S' h' β'/\VR w' S' h' β' v cv/\F7 w S H β w' S' h' β')->
  ∃v h' S' β',v=E5 r/\HR w' S' h' β'/\VR w' S' h' β' v cv/\F7 w S H β w' S' h' β':=λcv w' ⟨v,h',S',β',⟨h1,hw,hk⟩,hr',hv',hE'⟩=>by
  obtain⟨S1,β1,r1,e1⟩:=hw w' S' β' hr'
  obtain⟨ds,h2,hd,hh⟩:=iV hk
  obtain⟨S2,r2,e2,d2⟩:=hh w' S1 β1 cv r1 (hv'.evol e1)
  exact⟨E5 r,h2,S2,β1,rfl,r2,hd.vr (d2 _ _),(hE'.trans e1).trans e2⟩
 exact bC.mono (hc) key
end Go.PM
namespace Go.PM
open Go.Proofs
instance:CN:=⟨[(2,[.i .u8 0,.i .u8 1,.i .u8 56,.i .u8 2,.i .u8 57,.i .u8 49,.i .u8 28,.i .u8 3,.i .u8 61,.i .u8 58,.i .u8 42,.i .u8 50,.i .u8 38,.i .u8 29,.i .u8 17,.i .u8 4,.i .u8 62,.i .u8 47,.i .u8 59,.i .u8 36,.i .u8 45,.i .u8 43,.i .u8 51,.i .u8 22,.i .u8 53,.i .u8 39,.i .u8 33,.i .u8 30,.i .u8 24,.i .u8 18,.i .u8 12,.i .u8 5,.i .u8 63,.i .u8 55,.i .u8 48,.i .u8 27,.i .u8 60,.i .u8 41,.i .u8 37,.i .u8 16,.i .u8 46,.i .u8 35,.i .u8 44,.i .u8 21,.i .u8 52,.i .u8 32,.i .u8 23,.i .u8 11,.i .u8 54,.i .u8 26,.i .u8 40,.i .u8 15,.i .u8 34,.i .u8 20,.i .u8 31,.i .u8 10,.i .u8 25,.i .u8 14,.i .u8 19,.i .u8 9,.i .u8 13,.i .u8 8,.i .u8 7,.i .u8 6])]⟩
def tt:TT:=[
 (1,⟨.other,1,8,[.k .nilFunc]⟩),
 (3,⟨.int .i64,1,8,[.i .i64 0]⟩),
 (4,⟨.bool,1,1,[.b false]⟩),
 (5,⟨.int .u8,1,1,[.i .u8 0]⟩),
 (9,⟨.string,1,16,[.s ⟨#[]⟩]⟩),
 (20,⟨.other,1,16,[.k .nilIface]⟩),
 (22,⟨.slice 3,1,24,[.sl 0 true []]⟩),
 (23,⟨.slice 63,1,24,[.sl 0 true []]⟩),
 (24,⟨.str [(0,22),(1,3),(2,23)],3,56,[.sl 0 true [],.i .i64 0,.sl 0 true []]⟩),
 (25,⟨.str [(0,22),(1,3),(2,23)],3,56,[.sl 0 true [],.i .i64 0,.sl 0 true []]⟩),
 (26,⟨.str [(0,3),(1,3)],2,16,[.i .i64 0,.i .i64 0]⟩),
 (27,⟨.str [(0,3),(1,3)],2,16,[.i .i64 0,.i .i64 0]⟩),
 (28,⟨.other,1,8,[.k .nilFunc]⟩),
 (30,⟨.int .i64,1,8,[.i .i64 0]⟩),
 (34,⟨.slice 22,1,24,[.sl 0 true []]⟩),
 (40,⟨.slice 61,1,24,[.sl 0 true []]⟩),
 (41,⟨.str [(0,22),(1,3),(2,40)],3,56,[.sl 0 true [],.i .i64 0,.sl 0 true []]⟩),
 (42,⟨.str [(0,22),(1,3),(2,40)],3,56,[.sl 0 true [],.i .i64 0,.sl 0 true []]⟩),
 (46,⟨.str [(0,4),(1,9),(2,9)],3,40,[.b false,.s ⟨#[]⟩,.s ⟨#[]⟩]⟩),
 (47,⟨.str [(0,4),(1,9),(2,9)],3,40,[.b false,.s ⟨#[]⟩,.s ⟨#[]⟩]⟩),
 (53,⟨.slice 65,1,24,[.sl 0 true []]⟩),
 (54,⟨.str [(0,3),(1,22),(2,22),(3,53)],4,80,[.i .i64 0,.sl 0 true [],.sl 0 true [],.sl 0 true []]⟩),
 (55,⟨.str [(0,3),(1,22),(2,22),(3,53)],4,80,[.i .i64 0,.sl 0 true [],.sl 0 true [],.sl 0 true []]⟩),
 (60,⟨.str [(0,3),(1,3),(2,3),(3,3),(4,3),(5,3)],6,48,[.i .i64 0,.i .i64 0,.i .i64 0,.i .i64 0,.i .i64 0,.i .i64 0]⟩),
 (61,⟨.str [(0,3),(1,3),(2,3),(3,3),(4,3),(5,3)],6,48,[.i .i64 0,.i .i64 0,.i .i64 0,.i .i64 0,.i .i64 0,.i .i64 0]⟩),
 (62,⟨.str [(0,61),(6,3),(7,3),(8,3)],9,72,[.i .i64 0,.i .i64 0,.i .i64 0,.i .i64 0,.i .i64 0,.i .i64 0,.i .i64 0,.i .i64 0,.i .i64 0]⟩),
 (63,⟨.str [(0,61),(6,3),(7,3),(8,3)],9,72,[.i .i64 0,.i .i64 0,.i .i64 0,.i .i64 0,.i .i64 0,.i .i64 0,.i .i64 0,.i .i64 0,.i .i64 0]⟩),
 (64,⟨.str [(0,22),(1,3),(2,3),(3,3)],4,48,[.sl 0 true [],.i .i64 0,.i .i64 0,.i .i64 0]⟩),
 (65,⟨.str [(0,22),(1,3),(2,3),(3,3)],4,48,[.sl 0 true [],.i .i64 0,.i .i64 0,.i .i64 0]⟩),
 (74,⟨.str [(0,4),(1,9),(2,9)],3,40,[.b false,.s ⟨#[]⟩,.s ⟨#[]⟩]⟩),
 (75,⟨.str [(0,4),(1,9),(2,9)],3,40,[.b false,.s ⟨#[]⟩,.s ⟨#[]⟩]⟩),
 (79,⟨.slice 82,1,24,[.sl 0 true []]⟩),
 (82,⟨.slice 47,1,24,[.sl 0 true []]⟩),
 (85,⟨.other,1,8,[.k (.pointer none)]⟩),
 (88,⟨.str [(0,25),(3,22),(4,3),(5,27)],7,104,[.sl 0 true [],.i .i64 0,.sl 0 true [],.sl 0 true [],.i .i64 0,.i .i64 0,.i .i64 0]⟩),
 (89,⟨.str [(0,25),(3,22),(4,3),(5,27)],7,104,[.sl 0 true [],.i .i64 0,.sl 0 true [],.sl 0 true [],.i .i64 0,.i .i64 0,.i .i64 0]⟩),
 (96,⟨.slice 28,1,24,[.sl 0 true []]⟩),
 (100,⟨.arr 16 3,16,128,[.i .i64 0,.i .i64 0,.i .i64 0,.i .i64 0,.i .i64 0,.i .i64 0,.i .i64 0,.i .i64 0,.i .i64 0,.i .i64 0,.i .i64 0,.i .i64 0,.i .i64 0,.i .i64 0,.i .i64 0,.i .i64 0]⟩),
 (101,⟨.arr 16 3,16,128,[.i .i64 0,.i .i64 0,.i .i64 0,.i .i64 0,.i .i64 0,.i .i64 0,.i .i64 0,.i .i64 0,.i .i64 0,.i .i64 0,.i .i64 0,.i .i64 0,.i .i64 0,.i .i64 0,.i .i64 0,.i .i64 0]⟩),
 (105,⟨.slice 109,1,24,[.sl 0 true []]⟩),
 (106,⟨.other,1,8,[.k .nilFunc]⟩),
 (108,⟨.str [(0,61),(6,4)],7,56,[.i .i64 0,.i .i64 0,.i .i64 0,.i .i64 0,.i .i64 0,.i .i64 0,.b false]⟩),
 (109,⟨.str [(0,61),(6,4)],7,56,[.i .i64 0,.i .i64 0,.i .i64 0,.i .i64 0,.i .i64 0,.i .i64 0,.b false]⟩),
 (110,⟨.str [(0,30)],1,8,[.i .i64 0]⟩),
 (111,⟨.str [(0,30)],1,8,[.i .i64 0]⟩),
 (119,⟨.slice 4,1,24,[.sl 0 true []]⟩),
 (122,⟨.other,1,8,[.k .nilFunc]⟩),
 (123,⟨.map 5 122,1,8,[.k (.map none)]⟩),
 (127,⟨.slice 176,1,24,[.sl 0 true []]⟩),
 (128,⟨.str [(0,25),(3,3),(4,4),(5,127)],6,96,[.sl 0 true [],.i .i64 0,.sl 0 true [],.i .i64 0,.b false,.sl 0 true []]⟩),
 (129,⟨.str [(0,25),(3,3),(4,4),(5,127)],6,96,[.sl 0 true [],.i .i64 0,.sl 0 true [],.i .i64 0,.b false,.sl 0 true []]⟩),
 (132,⟨.other,1,8,[.k .nilFunc]⟩),
 (133,⟨.other,1,8,[.k .nilFunc]⟩),
 (136,⟨.other,1,8,[.k .nilFunc]⟩),
 (137,⟨.other,1,8,[.k .nilFunc]⟩),
 (138,⟨.slice 53,1,24,[.sl 0 true []]⟩),
 (139,⟨.other,1,8,[.k .nilFunc]⟩),
 (140,⟨.other,1,8,[.k .nilFunc]⟩),
 (142,⟨.map 3 4,1,8,[.k (.map none)]⟩),
 (144,⟨.other,1,8,[.k .nilFunc]⟩),
 (145,⟨.other,1,8,[.k .nilFunc]⟩),
 (146,⟨.other,1,8,[.k .nilFunc]⟩),
 (148,⟨.arr 16 4,16,16,[.b false,.b false,.b false,.b false,.b false,.b false,.b false,.b false,.b false,.b false,.b false,.b false,.b false,.b false,.b false,.b false]⟩),
 (150,⟨.other,1,8,[.k .nilFunc]⟩),
 (151,⟨.arr 7 150,7,56,[.k .nilFunc,.k .nilFunc,.k .nilFunc,.k .nilFunc,.k .nilFunc,.k .nilFunc,.k .nilFunc]⟩),
 (154,⟨.int .u64,1,8,[.i .u64 0]⟩),
 (155,⟨.slice 154,1,24,[.sl 0 true []]⟩),
 (168,⟨.str [(0,42),(3,3),(4,3),(5,22),(6,82)],7,120,[.sl 0 true [],.i .i64 0,.sl 0 true [],.i .i64 0,.i .i64 0,.sl 0 true [],.sl 0 true []]⟩),
 (169,⟨.str [(0,42),(3,3),(4,3),(5,22),(6,82)],7,120,[.sl 0 true [],.i .i64 0,.sl 0 true [],.i .i64 0,.i .i64 0,.sl 0 true [],.sl 0 true []]⟩),
 (176,⟨.other,1,8,[.k (.pointer none)]⟩),
 (177,⟨.str [(0,65),(4,42),(7,3),(8,4),(9,79),(10,30)],11,152,[.sl 0 true [],.i .i64 0,.i .i64 0,.i .i64 0,.sl 0 true [],.i .i64 0,.sl 0 true [],.i .i64 0,.b false,.sl 0 true [],.i .i64 0]⟩),
 (178,⟨.str [(0,65),(4,42),(7,3),(8,4),(9,79),(10,30)],11,152,[.sl 0 true [],.i .i64 0,.i .i64 0,.i .i64 0,.sl 0 true [],.i .i64 0,.sl 0 true [],.i .i64 0,.b false,.sl 0 true [],.i .i64 0]⟩),
 (182,⟨.map 3 139,1,8,[.k (.map none)]⟩),
 (185,⟨.other,1,8,[.k .nilFunc]⟩),
 (186,⟨.other,1,8,[.k .nilFunc]⟩),
 (187,⟨.slice 5,1,24,[.sl 0 true []]⟩),
 (188,⟨.slice 9,1,24,[.sl 0 true []]⟩),
 (197,⟨.other,1,8,[.k .nilFunc]⟩),
 (198,⟨.other,1,8,[.k .nilFunc]⟩),
 (200,⟨.int .u64,1,8,[.i .u64 0]⟩),
 (205,⟨.other,1,8,[.k (.pointer none)]⟩),
 (207,⟨.str [(0,30)],1,8,[.i .i64 0]⟩),
 (208,⟨.str [(0,30)],1,8,[.i .i64 0]⟩),
 (209,⟨.arr 32 3,32,256,[.i .i64 0,.i .i64 0,.i .i64 0,.i .i64 0,.i .i64 0,.i .i64 0,.i .i64 0,.i .i64 0,.i .i64 0,.i .i64 0,.i .i64 0,.i .i64 0,.i .i64 0,.i .i64 0,.i .i64 0,.i .i64 0,.i .i64 0,.i .i64 0,.i .i64 0,.i .i64 0,.i .i64 0,.i .i64 0,.i .i64 0,.i .i64 0,.i .i64 0,.i .i64 0,.i .i64 0,.i .i64 0,.i .i64 0,.i .i64 0,.i .i64 0,.i .i64 0]⟩),
 (210,⟨.arr 32 4,32,32,[.b false,.b false,.b false,.b false,.b false,.b false,.b false,.b false,.b false,.b false,.b false,.b false,.b false,.b false,.b false,.b false,.b false,.b false,.b false,.b false,.b false,.b false,.b false,.b false,.b false,.b false,.b false,.b false,.b false,.b false,.b false,.b false]⟩),
 (211,⟨.str [(0,208),(1,79),(2,3),(3,209),(35,210)],67,328,[.i .i64 0,.sl 0 true [],.i .i64 0,.i .i64 0,.i .i64 0,.i .i64 0,.i .i64 0,.i .i64 0,.i .i64 0,.i .i64 0,.i .i64 0,.i .i64 0,.i .i64 0,.i .i64 0,.i .i64 0,.i .i64 0,.i .i64 0,.i .i64 0,.i .i64 0,.i .i64 0,.i .i64 0,.i .i64 0,.i .i64 0,.i .i64 0,.i .i64 0,.i .i64 0,.i .i64 0,.i .i64 0,.i .i64 0,.i .i64 0,.i .i64 0,.i .i64 0,.i .i64 0,.i .i64 0,.i .i64 0,.b false,.b false,.b false,.b false,.b false,.b false,.b false,.b false,.b false,.b false,.b false,.b false,.b false,.b false,.b false,.b false,.b false,.b false,.b false,.b false,.b false,.b false,.b false,.b false,.b false,.b false,.b false,.b false,.b false,.b false,.b false,.b false]⟩),
 (212,⟨.str [(0,208),(1,79),(2,3),(3,209),(35,210)],67,328,[.i .i64 0,.sl 0 true [],.i .i64 0,.i .i64 0,.i .i64 0,.i .i64 0,.i .i64 0,.i .i64 0,.i .i64 0,.i .i64 0,.i .i64 0,.i .i64 0,.i .i64 0,.i .i64 0,.i .i64 0,.i .i64 0,.i .i64 0,.i .i64 0,.i .i64 0,.i .i64 0,.i .i64 0,.i .i64 0,.i .i64 0,.i .i64 0,.i .i64 0,.i .i64 0,.i .i64 0,.i .i64 0,.i .i64 0,.i .i64 0,.i .i64 0,.i .i64 0,.i .i64 0,.i .i64 0,.i .i64 0,.b false,.b false,.b false,.b false,.b false,.b false,.b false,.b false,.b false,.b false,.b false,.b false,.b false,.b false,.b false,.b false,.b false,.b false,.b false,.b false,.b false,.b false,.b false,.b false,.b false,.b false,.b false,.b false,.b false,.b false,.b false,.b false]⟩),
 (215,⟨.other,1,8,[.k .nilFunc]⟩),
 (216,⟨.other,1,8,[.k .nilFunc]⟩),
 (222,⟨.other,1,8,[.k .nilFunc]⟩),
 (234,⟨.other,1,8,[.k .nilFunc]⟩),
 (235,⟨.other,1,8,[.k .nilFunc]⟩),
 (236,⟨.other,1,8,[.k .nilFunc]⟩),
 (245,⟨.other,1,8,[.k (.pointer none)]⟩),
 (249,⟨.arr 16 100,256,2048,List.replicate 256 (.i .i64 0)⟩),
 (250,⟨.arr 16 100,256,2048,List.replicate 256 (.i .i64 0)⟩),
 (253,⟨.arr 16 148,256,256,List.replicate 256 (.b false)⟩),
 (257,⟨.arr 64 5,64,64,[.i .u8 0,.i .u8 0,.i .u8 0,.i .u8 0,.i .u8 0,.i .u8 0,.i .u8 0,.i .u8 0,.i .u8 0,.i .u8 0,.i .u8 0,.i .u8 0,.i .u8 0,.i .u8 0,.i .u8 0,.i .u8 0,.i .u8 0,.i .u8 0,.i .u8 0,.i .u8 0,.i .u8 0,.i .u8 0,.i .u8 0,.i .u8 0,.i .u8 0,.i .u8 0,.i .u8 0,.i .u8 0,.i .u8 0,.i .u8 0,.i .u8 0,.i .u8 0,.i .u8 0,.i .u8 0,.i .u8 0,.i .u8 0,.i .u8 0,.i .u8 0,.i .u8 0,.i .u8 0,.i .u8 0,.i .u8 0,.i .u8 0,.i .u8 0,.i .u8 0,.i .u8 0,.i .u8 0,.i .u8 0,.i .u8 0,.i .u8 0,.i .u8 0,.i .u8 0,.i .u8 0,.i .u8 0,.i .u8 0,.i .u8 0,.i .u8 0,.i .u8 0,.i .u8 0,.i .u8 0,.i .u8 0,.i .u8 0,.i .u8 0,.i .u8 0]⟩),
 (259,⟨.other,1,8,[.k .nilFunc]⟩),
 (262,⟨.slice 105,1,24,[.sl 0 true []]⟩),
 (267,⟨.slice 79,1,24,[.sl 0 true []]⟩),
 (269,⟨.other,1,8,[.k .nilFunc]⟩),
 (270,⟨.other,1,8,[.k .nilFunc]⟩),
 (273,⟨.other,1,8,[.k .nilFunc]⟩),
 (275,⟨.other,1,8,[.k (.pointer none)]⟩)]
theorem T5:W9 Tryz.prog tt=true:=by kernel_rfl
theorem mixed:Tryz.prog.follows .mixedOrders=true:=by kernel_rfl
theorem pU {f:FuncId} {fn:Func} {args:List V} {r:List D} (hf:Tryz.prog.funcs[f]? =some fn) (hx:mK (P9 Tryz.prog tt fn.ntmps) fn args [] λv h=>eO v h λds=>VLe (nG v ds) (E5 r)) (h1:(fn.name== "runtime.NumGoroutine")=false:=by rfl) (h2:args.all (nmV 0)=true:=by rfl) (h3:args.length<=fn.ntmps:=by exact B5 rfl):C9 Tryz.prog f args (E5 r):=
 RJ (E:=P9 Tryz.prog tt fn.ntmps) (I6 T5 mixed) hf h1 rfl h2 h3 hx
theorem pUH {f:FuncId} {fn:Func} {args:List V} {r:List D} (hf:Tryz.prog.funcs[f]? =some fn) (hx:mK (P9 Tryz.prog tt fn.ntmps) fn args [] λv h=>∃h2,WkH h h2/\eO v h2 λds=>VLe (nG v ds) (E5 r)) (h1:(fn.name== "runtime.NumGoroutine")=false:=by rfl) (h2:args.all (nmV 0)=true:=by rfl) (h3:args.length<=fn.ntmps:=by exact B5 rfl):C9 Tryz.prog f args (E5 r):=
 LT (E:=P9 Tryz.prog tt fn.ntmps) (I6 T5 mixed) hf h1 rfl h2 h3 hx
theorem rO {f:FuncId} {fn:Func} {args:List V} {sz:Nat} {r:List D} (hf:Tryz.prog.funcs[f]? =some fn) (hx:mK (P9 Tryz.prog tt fn.ntmps) fn args [] λv h=>EZ sz v h λys=>ys=r) (h1:(fn.name== "runtime.NumGoroutine")=false:=by rfl) (h2:args.all (nmV 0)=true:=by rfl) (h3:args.length<=fn.ntmps:=by exact B5 rfl):T8 Tryz.prog f args sz r:=
 WG (E:=P9 Tryz.prog tt fn.ntmps) (I6 T5 mixed) hf h1 rfl h2 h3 hx
theorem bO {f:FuncId} {fn:Func} {args:List V} {h:Hp} {k:V->Hp->Prop} (hf:Tryz.prog.funcs[f]? =some fn) (hx:mK (P9 Tryz.prog tt fn.ntmps) fn args h k) (h1:(fn.name== "runtime.NumGoroutine")=false:=by rfl) (h3:args.length<=fn.ntmps:=by exact B5 rfl):E6 Tryz.prog f args h k:=E6.body (E:=P9 Tryz.prog tt fn.ntmps) (I6 T5 mixed) hf h1 rfl h3 hx
theorem uP {f:FuncId} {fn:Func} {args:List V} {H:Hp} {r:List D} {k0:Hp->Prop} (hf:Tryz.prog.funcs[f]? =some fn) (hx:mK (P9 Tryz.prog tt fn.ntmps) fn args H λv h=>bL v h λds h'=>VLe (nG v ds) (E5 r)/\(h'.take H.length).all (okB H.length)=true/\k0 (h'.take H.length)) (h1:(fn.name== "runtime.NumGoroutine")=false:=by rfl) (h3:args.length<=fn.ntmps:=by exact B5 rfl):
 M4 Tryz.prog f args H λv h'=>v=E5 r/\h'.length=H.length/\h'.all (okB H.length)=true/\k0 h':=WF (E:=P9 Tryz.prog tt fn.ntmps) (I6 T5 mixed) hf h1 rfl h3 hx
theorem lI {f:FuncId} {fn:Func} {args:List V} {H H':Hp} {r:D} (hf:Tryz.prog.funcs[f]? =some fn) (hH':H'.all (okB H.length)=true) (hx:mK (P9 Tryz.prog tt fn.ntmps) fn args H λv h=>bL v h λds h'=>VLe (nG v ds) (E5 [r])/\h'.take H.length=H') (h1:(fn.name== "runtime.NumGoroutine")=false:=by rfl) (h3:args.length<=fn.ntmps:=by exact B5 rfl):
 M4 Tryz.prog f args H λv h'=>okV H.length v=true/\h'.length=H.length/\h'.all (okB H.length)=true/\(v=E5 [r]/\h'=H'):=RK (E:=P9 Tryz.prog tt fn.ntmps) (I6 T5 mixed) hf h1 rfl hH' h3 hx
theorem lO {N:Nat} {c:Code} {ts:Tm} {h:Hp} {k:Ex->Tm->Hp->Prop} {X:Type} (tv:X->Tm) (hv:X->List (Nat×Blk)) (Inv:X->Prop) (μ:X->Nat) (x0:X) (ht:jC ts (over (tv x0) ts)) (hh:h=J3 h (hv x0)) (h0:Inv x0)
 (round:∀x,Inv x->bH (P9 Tryz.prog tt N) c (over (tv x) ts) (J3 h (hv x)) λe ts' h'=>match e with
   | .normal=>∃y,Wm N h.length ts' h' (over (tv y) ts) (J3 h (hv y))/\Inv y/\μ y<μ x
   |e=>k e ts' h'):L3 Tryz.prog N c ts h k:=L3.at (E:=P9 Tryz.prog tt N) (I6 T5 mixed) tv hv Inv μ x0 ht hh h0 round
theorem lY {N:Nat} (n M:Nat) {c:Code} {ts:Tm} {h:Hp} {k:Ex->Tm->Hp->Prop} {X:Type} (tv:X->Tm) (hv:X->List (Nat×Blk)) (Inv:X->Prop) (μ:X->Nat) (x0:X) (ht:jC ts (over (tv x0) ts)) (hh:h=J3 h (hv x0)) (h0:Inv x0)
 (round:∀x,Inv x->bH (RN Tryz.prog tt N (yM (P9 Tryz.prog tt M) n)) c (over (tv x) ts) (J3 h (hv x)) λe ts' h'=>match e with
   | .normal=>∃y,Wm N h.length ts' h' (over (tv y) ts) (J3 h (hv y))/\Inv y/\μ y<μ x
   |e=>k e ts' h'):L3 Tryz.prog N c ts h k:=L3.at (E:=RN Tryz.prog tt N (yM (P9 Tryz.prog tt M) n)) (FI (FU (I6 T5 mixed) n) T5 mixed) tv hv Inv μ x0 ht hh h0 round
theorem lOE {N:Nat} {c:Code} {ts:Tm} {h:Hp} {k:Ex->Tm->Hp->Prop} {X:Type} (tv:X->Tm) (hv:X->List (Nat×Blk)) (Inv:X->Prop) (μ:X->Nat) (x0:X) (ht:jC ts (over (tv x0) ts)) (hh:h=J3 h (hv x0)) (h0:Inv x0)
 (hnm:∀y:X,(over (tv y) ts).all (λp=>nmV h.length p.2)=true/\(J3 h (hv y)).all (tZ h.length)=true)
 (round:∀x,Inv x->bH (P9 Tryz.prog tt N) c (over (tv x) ts) (J3 h (hv x)) λe ts' h'=>match e with
   | .normal=>∃y,(jC ts' (over (tv y) ts)/\h'.take h.length=J3 h (hv y))/\Inv y/\μ y<μ x
   |e=>k e ts' h'):L3 Tryz.prog N c ts h k:=L3.atE (E:=P9 Tryz.prog tt N) (I6 T5 mixed) tv hv Inv μ x0 ht hh h0 hnm round
theorem lYE {N:Nat} (n M:Nat) {c:Code} {ts:Tm} {h:Hp} {k:Ex->Tm->Hp->Prop} {X:Type} (tv:X->Tm) (hv:X->List (Nat×Blk)) (Inv:X->Prop) (μ:X->Nat) (x0:X) (ht:jC ts (over (tv x0) ts)) (hh:h=J3 h (hv x0)) (h0:Inv x0)
 (hnm:∀y:X,(over (tv y) ts).all (λp=>nmV h.length p.2)=true/\(J3 h (hv y)).all (tZ h.length)=true)
 (round:∀x,Inv x->bH (RN Tryz.prog tt N (yM (P9 Tryz.prog tt M) n)) c (over (tv x) ts) (J3 h (hv x)) λe ts' h'=>match e with
   | .normal=>∃y,(jC ts' (over (tv y) ts)/\h'.take h.length=J3 h (hv y))/\Inv y/\μ y<μ x
   |e=>k e ts' h'):L3 Tryz.prog N c ts h k:=L3.atE (E:=RN Tryz.prog tt N (yM (P9 Tryz.prog tt M) n)) (FI (FU (I6 T5 mixed) n) T5 mixed) tv hv Inv μ x0 ht hh h0 hnm round
theorem rA {N:Nat} {g:Operand} {ps:List Tmp} {qs body:Code} {ts:Tm} {h:Hp} {k:Ex->Tm->Hp->Prop} {f:FuncId} {cap:List V} {fn:Func} (hf:Tryz.prog.funcs[f]? =some fn)
 (hx:cT.lenOfK h λn=>ER h [.loop .ready none N ts ps qs body] λh1=>mK (RN Tryz.prog tt fn.ntmps (yM (P9 Tryz.prog tt N) n)) fn (.yld n::cap) h1 λ_ h'=>B0t ts n h' k)
 (hg:evK ts g λv=>v=.fn f cap:=by rfl) (h1:(fn.name== "runtime.NumGoroutine")=false:=by rfl) (h3:cap.length+1<=fn.ntmps:=by exact B5 rfl):CP Tryz.prog N g ps qs body ts h k:=CP.body (E:=P9 Tryz.prog tt N) (I6 T5 mixed) T5 mixed hg hf h1 h3 hx
theorem nS {N:Nat} {c:Code} {m:Nat} {ts:Tm} {h:Hp} {k:Ex->Tm->Hp->Prop}
 (hx:bH (P9 Tryz.prog tt N) c ts h λe ts' h'=>match e with
   | .normal=>yL Tryz.prog N c m ts' h' k
   |e=>k e ts' h'):yL Tryz.prog N c (m+1) ts h k:=yL.step (E:=P9 Tryz.prog tt N) (I6 T5 mixed) hx
theorem wQ {N:Nat} {c d:Code} {dopt:Option (FuncId×List V)} {ts:Tm} {h:Hp} {k:XD->Option (FuncId×List V)->Tm->Hp->Prop}
 (hx:bH (P9 Tryz.prog tt N) c ts h λe ts h=>match e with
   | .normal=>DWP Tryz.prog N d dopt ts h k
   | .exit id=>k (.ex (.exit id)) dopt ts h
   | .ret=>k (.ex .ret) dopt ts h):DWP Tryz.prog N (.seq c d) dopt ts h k:=DWP.seq (E:=P9 Tryz.prog tt N) (I6 T5 mixed) hx
theorem wO {N:Nat} {c:Code} {dopt:Option (FuncId×List V)} {ts:Tm} {h:Hp} {k:XD->Option (FuncId×List V)->Tm->Hp->Prop}
 (hx:bH (P9 Tryz.prog tt N) c ts h λe ts h=>k (.ex e) dopt ts h):DWP Tryz.prog N c dopt ts h k:=DWP.of (E:=P9 Tryz.prog tt N) (I6 T5 mixed) hx
structure F8 where
 kind:Int
 per:Int
 src:Int
 dst:Int
 amt:Int
 label:Int
 deriving DecidableEq
def F8.d (f:F8):D:=.agg [I f.kind,I f.per,I f.src,I f.dst,I f.amt,I f.label]
structure V8 where
 op:List Int
 per:Int
 fl:List F8
 deriving DecidableEq
def V8.d (h:V8):D:=.agg [SL 1 (h.op.map I),I h.per,SL 6 (h.fl.map F8.d)]
theorem A5t (x:Int):C9 Tryz.prog 206 [.d (I x)] (E5 [.b false]):=by
 refine pU Tryz.func206 ?_
 repeat' ((conv=>whnf);first|refine sT ?_|refine sP ?_ ?_<;>intro _)
 all_goals(conv=>whnf)
 exact DLe.refl _
def WU (x y:Int):Int:=if x<y then -1 else if y<x then 1 else 0
theorem DP (x y:Int):C9 Tryz.prog 175 [.d (I x),.d (I y)] (E5 [I (WU x y)]):=by
 refine pU Tryz.func175 ?_
 repeat' ((conv=>whnf);first|refine sT ?_|refine sP ?_ ?_<;>intro _|refine E6.of (A5t _) ?_)
 all_goals(conv=>whnf)
 all_goals(simp only[WU];simp only[*,if_true,if_false];exact DLe.refl _)
theorem dK (n lo hi:Int):C9 Tryz.prog 85 [.d (I n),.d (I lo),.d (I hi)] (E5 [.b (decide (lo<=n/\n<=hi))]):=by
 refine pU Tryz.func85 ?_
 repeat' ((conv=>whnf);first|refine sT ?_|refine sP ?_ ?_<;>intro _|fail)
 all_goals(conv=>whnf)
 all_goals first|(rw[C2 (by omega)];exact DLe.refl _)|(rw[B6 (by omega)];exact DLe.refl _)
def F8.ok (nv:Nat) (np:Int) (f:F8):Prop:=
 (0<=f.per/\f.per<=np-1)/\(1<=f.amt/\f.amt<=1048576)/\
 (f.kind=1/\f.src=0/\(0<=f.dst/\f.dst<=(nv:Int)-1)/\(-1<=f.label/\f.label<=4095)∨
  f.kind=2/\(0<=f.src/\f.src<=(nv:Int)-1)/\(0<=f.dst/\f.dst<=(nv:Int)-1)/\¬f.src=f.dst/\f.label=0∨
  f.kind=3/\(0<=f.src/\f.src<=(nv:Int)-1)/\f.dst=0/\(0<=f.label/\f.label<=4095)∨
  f.kind=4/\(0<=f.src/\f.src<=(nv:Int)-1)/\f.dst=0/\f.label=0)
instance (nv:Nat) (np:Int) (f:F8):Decidable (f.ok nv np):=by unfold F8.ok;infer_instance
theorem BL (h:V8) (f:F8) (hl:h.op.length<2^40) (hp:0<=h.per/\h.per<=1000):C9 Tryz.prog 86 [.d h.d,.d f.d] (E5 [.b (decide (f.ok h.op.length h.per))]):=by
 refine pU Tryz.func86 ?_
 repeat' ((conv=>whnf);first|refine sT ?_|refine sP ?_ ?_<;>intro _|refine E6.ofB (dK _ _ _) (λ_=> ?_) (λ_=> ?_)|refine H6.ofB (dK _ _ _) (λ_=> ?_) (λ_=> ?_)|refine bO Tryz.func129 ?_|fail)
 all_goals(conv=>whnf)
 all_goals try simp only[F3,K3] at*
 all_goals first|(rw[C2 (by unfold F8.ok;omega)];exact DLe.refl _)|(rw[B6 (by unfold F8.ok;omega)];exact DLe.refl _)
end Go.PM
namespace Go.PM
def H0:Nat->Nat->List Nat
 |0,_=>[]
 |k+1,n=>n%18446744073709551616::H0 k (n/18446744073709551616)
theorem G9:∀(k n:Nat),(H0 k n).length=k
 |0,_=>rfl
 |k+1,n=>by rw[H0,M2,G9]
theorem p64 (i:Nat):2^(64*(i+1))=18446744073709551616*2^(64*i):=by
 rw[R2,H2,C6]
theorem P5:∀(k n i:Nat),i<k->(H0 k n)[i]? =some (n/2^(64*i)%18446744073709551616)
 |0,_,_,h=>absurd h (Nat.not_lt_zero _)
 |k+1,n,0,_=>by rw[H0];simp
 |k+1,n,i+1,h=>by
  rw[H0,R6,P5 k _ i (by omega),p64,F4]
theorem nV:∀(k n i y:Nat),i<k->n/2^(64*i)%18446744073709551616+y<18446744073709551616->
 (H0 k n).set i (n/2^(64*i)%18446744073709551616+y)=H0 k (n+y*2^(64*i))
 |0,_,_,_,h,_=>absurd h (Nat.not_lt_zero _)
 |k+1,n,0,y,_,hy=>by
  simp only[oW,aO,sS,L2] at hy ⊢
  rw[H0,H0,E9]
  congr 1
  ·omega
  ·congr 1;omega
 |k+1,n,i+1,y,h,hy=>by
  rw[p64,<-F4] at hy ⊢
  rw[H0,H0,H4,nV k _ i y (by omega) hy]
  have e:n+y*(18446744073709551616*2^(64*i))=n+18446744073709551616*(y*2^(64*i)):=by rw[oX]
  rw[e,Nat.add_mul_mod_self_left,S7 _ _ (by decide)]
theorem cN:∀k,H0 k 0=List.replicate k 0
 |0=>rfl
 |k+1=>by rw[H0,M1];simp[cN k]
theorem JX:∀(k m n:Nat),H0 (k+m) n=H0 k n++H0 m (n/2^(64*k))
 |0,m,n=>by simp[H0]
 |k+1,m,n=>by
  rw[show k+1+m=(k+m)+1 by omega,H0,H0,JX k m,I1,p64,F4]
theorem vX (k m n:Nat) (h:k<=m):(H0 m n).take k=H0 k n:=by
 obtain⟨d,rfl⟩:∃d,m=k+d:=⟨m-k,by omega⟩
 rw[JX,gG (by rw[G9];exact B1 _),C7 (by rw[G9];exact B1 _)]
def be (n:Nat):List UInt8:=if h:n=0 then [] else be (n/256)++[UInt8.ofNat (n%256)]
termination_by n
decreasing_by omega
theorem dZ:be 0=[]:=by rw[be];simp
theorem yG {n:Nat} (h:0<n):be n=be (n/256)++[UInt8.ofNat (n%256)]:=by
 conv=>lhs;rw[be]
 rw[dif_neg (by omega)]
theorem eZ {n:Nat} (h:0<n):(be n).length=(be (n/256)).length+1:=by rw[yG h];simp
theorem B1t (n:Nat):n<256^(be n).length:=by
 induction n using Nat.strongRecOn with
 |_ n ih=>
  by_cases h:n=0
  ·subst h;rw[dZ];decide
  ·have:=ih (n/256) (by omega)
   rw[eZ (by omega),U8];omega
theorem B1u {n:Nat} (h:0<n):256^((be n).length-1)<=n:=by
 induction n using Nat.strongRecOn with
 |_ n ih=>
  rw[eZ h,V5]
  by_cases h2:n/256=0
  ·rw[h2,dZ];simp;omega
  ·have h3:=ih (n/256) (by omega) (by omega)
   have hl:(be (n/256)).length=(be (n/256)).length-1+1:=by
    have:=eZ (n:=n/256) (by omega);omega
   rw[hl,U8];omega
theorem OO {n k:Nat} (h:n<256^k):(be n).length<=k:=by
 by_cases h0:n=0
 ·subst h0;rw[dZ];simp
 ·have h1:=B1u (n:=n) (by omega)
  have:256^((be n).length-1)<256^k:=I4 h1 h
  have:=(J9 (by decide:1<256)).1 this
  omega
theorem A0r:∀(i n:Nat),i<(be n).length->(be n)[(be n).length-1-i]? =some (UInt8.ofNat (n/256^i%256))
 |i,n,h=>by
  have hn:0<n:=by
   rcases H3 n with h0|h0
   ·subst h0;rw[dZ] at h;simp at h
   ·exact h0
  cases i with
  |zero=>
   rw[yG hn]
   simp
  |succ i=>
   have hl:=eZ hn
   have ih:=A0r i (n/256) (by omega)
   rw[hl,yG hn,B8 (by omega),show(be (n/256)).length+1-1-(i+1)=(be (n/256)).length-1-i by omega,ih,F4,U8,C6]
theorem B4r {n:Nat} {c:UInt8} (h:(be n)[0]? =some c):c≠0:=by
 have hl:0<(be n).length:=(A4.1 h).1
 have hn:0<n:=by
  rcases H3 n with h0|h0
  ·subst h0;rw[dZ] at hl;simp at hl
  ·exact h0
 have:=A0r ((be n).length-1) n (by omega)
 rw[show(be n).length-1-((be n).length-1)=0 by omega,h] at this
 rw[T7 this]
 have h1:=B1u hn
 have h2:=B1t n
 have h3:0<n/256^((be n).length-1):=Nat.div_pos h1 (G7 (by decide))
 have h4:n/256^((be n).length-1)<256:=by
  rw[O1 (G7 (by decide)),<-Nat.pow_succ']
  rw[show((be n).length-1).succ=(be n).length by omega];exact h2
 intro hc
 have:=N8 UInt8.toNat hc
 rw[mX] at this
 simp at this
 omega
theorem B4q (N c:Nat) (hc:c<256) (h:0<N∨0<c):be (256*N+c)=be N++[UInt8.ofNat c]:=by
 rw[yG (by omega),show(256*N+c)/256=N by omega,show(256*N+c)%256=c by omega]
end Go.PM

/- TopTrace: part 18 of the proof: for every input the law returns true, and its arguments read behind the call as they read before; where the library's table is as its own text lays it. -/
import Derived.Test.YtefjfjfcjihcpaaGreatDoorQ17
import Derived.OpenShut
import Derived.ProofKit
import Derived.Test.YtefjfjfcjihcpaaGreatDoorRows
import Derived.Test.YtefjfjfcjihcpaaGreatDoorTie
import Derived.Test.YtefjfjfcjihcpaaGreatDoorCards
import Derived.SevenTiedAt
import Derived.JoinedOf
import Derived.ChangeVars
import Derived.ChangeSame
import Derived.Deep.DeepHandedRow
import Derived.Lib.LaidTab
set_option maxRecDepth 10000
set_option maxHeartbeats 400000000
set_option linter.unusedSectionVars false
namespace Go.PM
variable [CN]
variable {P:Program} {T:TT}
def HasI (k:IntKind) (n:Int):Prop:=(Lit.int k n).wf=true
def DTy (T:TT):Nat->TypeId->List D->Prop
 |0,_,_=>False
 |n+1,t,xs=>match J8 T t with
  |none=>False
  |some ti=>match ti.kind with
   | .bool=>∃x,xs=[.b x]
   | .int k=>∃m,xs=[.i k m]/\HasI k m
   | .string=>∃s,xs=[.s s]
   | .slice e=>match J8 T e with
     |none=>False
     |some te=>∃full ys,xs=[.sl te.size full ys]/\ys.length<=maxLen/\∀y∈ys,∃zs,DTy T n e zs/\(match G8 te with
      |true=>y=.agg zs
      |false=>zs=[y])
   | .str fs=>fsTy (DTy T n) fs xs
   | .arr m e=>arTy (DTy T n) m e xs
   |_=>False
where
 fsTy (R:TypeId->List D->Prop):List (Nat×TypeId)->List D->Prop
  |[],xs=>xs=[]
  |p::r,xs=>∃a b,xs=a++b/\R p.2 a/\fsTy R r b
 arTy (R:TypeId->List D->Prop):Nat->TypeId->List D->Prop
  |0,_,xs=>xs=[]
  |m+1,e,xs=>∃a b,xs=a++b/\R e a/\arTy R m e b
def B4e (T:TT) (rec:TypeId->Bool):Nat->List (Nat×TypeId)->Nat->Bool
 |off,[],size=>Nat.beq off size
 |off,p::r,size=>match J8 T p.2 with
  |some ti=>Nat.beq p.1 off&&rec p.2&&B4e T rec (off+ti.size) r size
  |none=>false
def lK (T:TT):Nat->TypeId->Bool
 |0,_=>false
 |n+1,t=>match J8 T t with
  |none=>false
  |some ti=>match ti.kind with
   | .bool=>true
   | .int _=>true
   | .string=>true
   | .slice e=>match J8 T e with
     |none=>false
     |some te=>Nat.blt 0 te.size&&lK T n e&&(G8 te||Nat.beq te.size 1)
   | .str fs=>B4e T (lK T n) 0 fs ti.size
   | .arr m e=>match J8 T e with
     |none=>false
     |some te=>Nat.beq (m*te.size) ti.size&&lK T n e
   |_=>false
def CO (w:World):Stb:=λb _=>b<w.heap.size
def RdW (w:World) (xs:List D) (cs:List Value):Prop:=
 xs.length=cs.length/\∀(j:Nat) (c:D) (v:Value),xs[j]? =some c->cs[j]? =some v->c.flat=true/\DR w (CO w) c v
theorem RdW.one {w:World} {x:D} {v:Value} (h1:x.flat=true) (h2:DR w (CO w) x v):RdW w [x] [v]:=
 ⟨rfl,λj c u hj hu=>by
   cases j with
   |zero=>simp at hj hu;subst hj;subst hu;exact⟨h1,h2⟩
   |succ j=>simp at hj⟩
theorem RdW.append {w:World} {xs ys:List D} {cs ds:List Value} (h1:RdW w xs cs) (h2:RdW w ys ds):RdW w (xs++ys) (cs++ds):=
 ⟨by simp[h1.1,h2.1],λj c u hj hu=>by
   by_cases hl:j<xs.length
   ·rw[B8 hl] at hj
    rw[B8 (by rw[<-h1.1];exact hl)] at hu
    exact h1.2 j c u hj hu
   ·rw[B3 (by omega)] at hj
    rw[B3 (by rw[<-h1.1];omega),<-h1.1] at hu
    exact h2.2 _ c u hj hu⟩
theorem A2i {α:Type} {p:Nat->α->Prop}:∀(n:Nat),(∀i,i<n->∃y,p i y)->∃ys:List α,ys.length=n/\∀i y,ys[i]? =some y->p i y
 |0,_=>⟨[],rfl,by simp⟩
 |n+1,h=>by
  obtain⟨ys,h1,h2⟩:=A2i n λi hi=>h i (by omega)
  obtain⟨y,hy⟩:=h n (by omega)
  refine⟨ys++[y],by simp[h1],λi z hz=> ?_⟩
  by_cases hi:i<ys.length
  ·rw[B8 hi] at hz
   exact h2 i z hz
  ·rw[B3 (by omega)] at hz
   have:i-ys.length=0:=by
    rcases H3 (i-ys.length) with h|h
    ·exact h
    ·rw[E0 (by simp;omega)] at hz;cases hz
   rw[this] at hz
   simp at hz;subst hz
   have:i=n:=by omega
   subst this;exact hy
theorem A5v {w:World} {base:Nat} {a:Addr} {n:Nat} {cs:List Value} (h:w.cells? base a n=some cs):cs.length=n/\∀(j:Nat) (v:Value),cs[j]? =some v->w.cell? (a.add j)=some v:=by
 unfold World.cells? at h
 split at h
 ·have key:∀(l:List Nat) (cs:List Value),(l.mapM λi=>w.cell? (a.add i))=some cs->cs.length=l.length/\∀(j i:Nat) (v:Value),l[j]? =some i->cs[j]? =some v->w.cell? (a.add i)=some v:=by
   intro l
   induction l with
   |nil=>intro cs h;simp at h;subst h;simp
   |cons x l ih=>
    intro cs h
    simp only[OY,Option.pure_def,Option.bind_eq_bind,Option.bind_eq_some_iff] at h
    obtain⟨v,hv,vs,hvs,h⟩:=h
    simp at h;subst h
    obtain⟨i1,i2⟩:=ih vs hvs
    refine⟨by simp[i1],λj i u hj hu=> ?_⟩
    cases j with
    |zero=>simp at hj hu;subst hj;subst hu;exact hv
    |succ j=>exact i2 j i u (by simpa using hj) (by simpa using hu)
  obtain⟨k1,k2⟩:=key _ _ h
  refine⟨by simpa using k1,λj v hv=>k2 j j v ?_ hv⟩
  have:=(A4.1 hv).1
  rw[F2 (by simpa[k1] using this)]
 ·cases h
theorem rX {w:World} {a:Addr} {v:Value} (h:w.cell? a=some v):a.spot=none/\a.block<w.heap.size:=by
 unfold World.cell? at h
 split at h
 ·rename_i hb
  refine⟨?_,(C4.1 hb).1⟩
  cases hs:a.spot with
  |none=>rfl
  |some s=>simp[hs] at h
 ·cases h
theorem NR {rec:TypeId->Bool}:∀{fs:List (Nat×TypeId)} {fields:List Field} {off size:Nat},B4e T rec off fs size=true->T3 P fs fields=true->
 ∀{R:TypeId->List D->Prop} {w:World} {cs:List Value},cs.length=size->W9 P T=true->
  (∀(j:Nat) (f:Field),fields[j]? =some f->rec f.type=true->∃xs,RdW w xs ((cs.drop f.offset).take (P.cellsOf f.type))/\R f.type xs)->∃xs,RdW w xs (cs.drop off)/\DTy.fsTy R fs xs
 |[],[],off,size,h,_,R,w,cs,hl,_,_=>by
  have:=B2 h
  exact⟨[],⟨by simp;omega,by simp⟩,rfl⟩
 |[],_::_,_,_,_,h,_,_,_,_,_,_=>by simp[T3] at h
 |_::_,[],_,_,_,h,_,_,_,_,_,_=>by simp[T3] at h
 |p::fs,f::fields,off,size,h,hf,R,w,cs,hl,hT,hh=>by
  simp only[B4e] at h
  simp only[T3,C8,F3] at hf
  obtain⟨⟨⟨⟨f1,f2⟩,_⟩,_⟩,f5⟩:=hf
  cases hty:J8 T p.2 with
  |none=>simp[hty] at h
  |some ti=>
   simp only[hty,C8] at h
   obtain⟨⟨h1,h2⟩,h3⟩:=h
   have h1:=B2 h1
   have hsz:P.cellsOf f.type=ti.size:=by
    rw[<-f2]
    obtain⟨i,z,hi⟩:=S5 (H7 hT hty)
    have:=hi.size
    simp[Program.cellsOf,hi.info,this]
   obtain⟨xs,r1,r2⟩:=hh 0 f rfl (by rw[<-f2];exact h2)
   obtain⟨ys,s1,s2⟩:=NR h3 f5 hl hT λj f' hj hr=>hh (j+1) f' (by simpa using hj) hr
   refine⟨xs++ys,?_,xs,ys,rfl,by rw[f2];exact r2,s2⟩
   have:=r1.append s1
   rw[<-f1,h1,hsz] at this
   have e:cs.drop off=(cs.drop off).take ti.size++cs.drop (off+ti.size):=by
    rw[<-xL,Z4]
   rw[e]
   exact this
theorem B3l {H:Type} {enc:TypeId×Value->H} (hT:W9 P T=true) {w:World} {base:Nat} {sp:Nat->Bool} {held:Bool}:∀(n:Nat) (fuel:Nat) (t:TypeId) (cs:List Value) (x:DataW H×List MemPlace),lK T n t=true->DataW.trod enc P w base sp held fuel t cs=some x->
 ∃xs,RdW w xs cs/\DTy T n t xs:=by
 intro n
 induction n with
 |zero=>intro fuel t cs x h;simp[lK] at h
 |succ n ih=>
  intro fuel t cs x hr hx
  simp only[lK] at hr
  cases hty:J8 T t with
  |none=>simp[hty] at hr
  |some ti=>
   have hti:=H7 hT hty
   simp only[hty] at hr
   simp only[DTy,hty]
   cases hk:ti.kind with
   |bool=>
    obtain⟨b,rfl,_⟩:=DataW.trod_bool (jU hti hk) hx
    exact⟨[.b b],RdW.one rfl (.b b),b,rfl⟩
   |int k=>
    obtain⟨m,rfl,_,hw⟩:=DataW.trod_int (fZ hti hk) hx
    exact⟨[.i k m],RdW.one rfl (.i k m),m,rfl,hw⟩
   |string=>
    obtain⟨s,rfl,_,_⟩:=DataW.trod_string (X0 hti hk) hx
    exact⟨[.s s],RdW.one rfl (.s s),s,rfl⟩
   |map=>simp[hk] at hr
   |other=>simp[hk] at hr
   |str fs=>
    simp only[hk] at hr
    obtain⟨fields,hu,hfs,_⟩:=iX hti hk
    obtain⟨ys,m,rfl,rfl,hl,hyl,hy⟩:=DataW.trod_struct hu hx
    have hsz:P.cellsOf t=ti.size:=by
     obtain⟨i,z,hi⟩:=S5 hti
     simp[Program.cellsOf,hi.info,hi.size]
    have:=NR (P:=P) (w:=w) (R:=DTy T n) hr hfs (by rw[hl,hsz]) hT λj f hj hrec=>by
     have hlt:j<ys.length:=by
      have:=(A4.1 hj).1
      rw[hyl];simp only[F6] at this;exact this
     have:=hy j f (by simpa using hj)
     rw[A3 hlt] at this
     exact ih m f.type _ _ hrec this
    simpa using this
   |arr m e=>
    simp only[hk] at hr
    cases hte:J8 T e with
    |none=>simp[hte] at hr
    |some te=>
     simp only[hte,C8] at hr
     obtain⟨h1,h2⟩:=hr
     have h1:=B2 h1
     obtain⟨ys,q,rfl,rfl,hl,hyl,hy⟩:=DataW.trod_array (iY hti hk) hx
     have hsz:P.cellsOf t=ti.size:=by
      obtain⟨i,z,hi⟩:=S5 hti
      simp[Program.cellsOf,hi.info,hi.size]
     have hse:P.cellsOf e=te.size:=by
      obtain⟨i,z,hi⟩:=S5 (H7 hT hte)
      simp[Program.cellsOf,hi.info,hi.size]
     have key:∀j,j<=m->∃xs,RdW w xs (cs.drop ((m-j)*te.size))/\DTy.arTy (DTy T n) j e xs:=by
      intro j
      induction j with
      |zero=>
       intro _
       exact⟨[],⟨by simp;rw[hl,hsz,<-h1];omega,by simp⟩,rfl⟩
      |succ j ihj=>
       intro hj
       obtain⟨xs,r1,r2⟩:=ihj (by omega)
       have hlt:m-(j+1)<ys.length:=by rw[hyl];omega
       have:=hy (m-(j+1)) (by omega)
       rw[A3 hlt] at this
       obtain⟨qs,s1,s2⟩:=ih q e _ _ h2 this
       refine⟨qs++xs,?_,qs,xs,rfl,s2,r2⟩
       have e1:m-j=m-(j+1)+1:=by omega
       rw[e1,H5,V4] at r1
       have:=s1.append r1
       rw[hse,<-xL,Z4] at this
       exact this
     have:=key m (B1 _)
     simpa using this
   |slice e=>
    simp only[hk] at hr
    cases hte:J8 T e with
    |none=>simp[hte] at hr
    |some te=>
     simp only[hte,C8] at hr
     obtain⟨⟨h1,h2⟩,h3⟩:=hr
     have h1:0<te.size:=B5 h1
     simp only[hte]
     have hse:P.cellsOf e=te.size:=by
      obtain⟨i,z,hi⟩:=S5 (H7 hT hte)
      simp[Program.cellsOf,hi.info,hi.size]
     rcases DataW.trod_slice (P8 hti hk) hx with⟨rfl,_⟩|⟨a,len,cap,elems,rest,q,rfl,rfl,rfl,hb,hlc,hcm,hel,hes,_⟩
     ·refine⟨[.sl te.size true []],RdW.one rfl (.sl te.size true [] none 0 0 0 (λ_ _=>undef) (by simp) (by simp) (by simp) (by simp) (by simp) (by simp) (by simp)),true,[],rfl,by simp,by simp⟩
     ·
      have each:∀i,i<len->∃y:D,(∃zs,DTy T n e zs/\(match G8 te with|true=>y=.agg zs|false=>zs=[y]))/\y.cells.length=te.size/\
       ∀(j:Nat) (c:D),y.cells[j]? =some c->c.flat=true/\∃v,w.cell? ((a.add (i*te.size)).add j)=some v/\DR w (CO w) c v:=λi hi=>by
       have:=hes i hi
       rw[hse,A3 (by omega)] at this
       simp only[Option.bind_eq_some_iff] at this
       obtain⟨ecs,g1,g2⟩:=this
       obtain⟨c1,c2⟩:=A5v g1
       obtain⟨zs,z1,z2⟩:=ih q e ecs _ h2 g2
       have hzl:zs.length=te.size:=by rw[z1.1,c1]
       have hcell:∀(j:Nat) (c:D),zs[j]? =some c->c.flat=true/\∃v,w.cell? ((a.add (i*te.size)).add j)=some v/\DR w (CO w) c v:=λj c hj=>by
        have hlt:j<ecs.length:=by rw[<-z1.1];exact(A4.1 hj).1
        obtain⟨f1,f2⟩:=z1.2 j c _ hj (A3 hlt)
        exact⟨f1,_,c2 j _ (A3 hlt),f2⟩
       cases ha:G8 te with
       |true=>exact⟨.agg zs,⟨zs,z2,by simp⟩,hzl,hcell⟩
       |false=>
        simp only[ha,Bool.false_or] at h3
        have h3:=B2 h3
        match zs,hzl,hcell,z2 with
        |[y],_,hcell,z2=>
         have hy:=(hcell 0 y rfl).1
         have hyc:=eV y hy
         exact⟨y,⟨[y],z2,by simp⟩,by rw[hyc,h3];rfl,by rw[hyc];exact hcell⟩
        |[],h,_,_=>simp at h;omega
        |_::_::_,h,_,_=>simp at h;omega
      obtain⟨ys,y1,y2⟩:=A2i len each
      refine⟨[.sl te.size (decide (cap=len)) ys],RdW.one rfl ?_,_,ys,rfl,by rw[y1];exact F5 hlc hcm,λy hy=> ?_⟩
      ·have hne:ys≠[]->a=⟨a.block,a.off,none⟩:=λhne=>by
        obtain⟨y,hy⟩:=List.exists_mem_of_ne_nil ys hne
        obtain⟨i,hi⟩:=D9.1 hy
        have hlt:0<ys.length:=lE.2 hne
        obtain⟨_,q2,q3⟩:=y2 0 _ (A3 hlt)
        obtain⟨_,v,hv,_⟩:=q3 0 _ (A3 (by omega))
        have:(a.add (0*te.size)).add 0=a:=by simp[Addr.add]
        rw[this] at hv
        have:=(rX hv).1
        cases a;simp at this;subst this;rfl
       rw[<-y1]
       refine .sl te.size _ ys (some a) cap a.block a.off (λi j=>(w.cell? ⟨a.block,a.off+i*te.size+j,none⟩).getD undef) (by omega) (by simp[y1]) (λh=>by omega) (λh=>by rw[<-hne h]) (λi x hx=>(y2 i x hx).2.1)
        (λi x j c hx hc=> ?_) (λi x j c hx hc=> ?_)
       all_goals
        obtain⟨q1,q2,q3⟩:=y2 i x hx
        obtain⟨f1,v,hv,hd⟩:=q3 j c hc
        have hxn:ys≠[]:=by intro h;rw[h] at hx;simp at hx
        have ha:=hne hxn
        rw[ha,bR,bR] at hv
       ·exact⟨f1,by rw[hv];rfl,(rX hv).2⟩
       ·rw[hv];exact hd
      ·obtain⟨i,hi⟩:=D9.1 hy
       exact(y2 i y hi).1
end Go.PM
namespace Go.PM
open Go.ChangeShapes Go.WideShapes Go.ChangeAt Go.RowKit
variable [CN]
variable {P:Program} {T:TT}
theorem UR {H:Type} {enc:TypeId×Value->H} {f:Func} {s:ChangeSpec} {apart fresh handsOn again:Bool} {W W':World} {args:Array Value} {v:Value} {ds gs:List (DataW H)} {before pa pv:List MemPlace}
 (hW:DataW.Whole enc P f.params.toList s.vars apart W args.toList ds gs before)
 (hres:∀(b:Nat) (sp:Nat->Bool) (hd:Bool),DataW.TrodAll enc P W' b sp hd f.resultTypes.toList (v.resultList f.resultTypes.size) (s.fn H (ds++gs)).results [])
 (hargs:∀sp:Nat->Bool,(∀p∈before,sp p.block=true)->DataW.TrodAll enc P W' 0 sp true f.params.toList args.toList (s.fn H (ds++gs)).args pa)
 (hvars:∀sp:Nat->Bool,(∀p∈before,sp p.block=true)->DataW.TrodVars enc P W' sp s.vars (s.fn H (ds++gs)).vars pv)
 (hps:before=pa++pv) (hk:W.keptBut W' (· ∈before)) (hfz:∀a,a.block<W.heap.size->W'.frozen? a=W.frozen? a)
 (hok:∀(j:Nat) (t:TypeId) (r:Value),f.resultTypes[j]? =some t->(v.resultList f.resultTypes.size)[j]? =some r->Value.okWide P W' .any 0 t r):
 s.post enc P f apart fresh handsOn again W args v W':=by
 have hold:∀p∈before,(λb=>decide (b<W.heap.size)) p.block=true:=λp hp=>by simpa using hW.lt p hp
 refine⟨ds,gs,before,[],pa,pv,hW,hres _ _ _,hargs _ hold,hvars _ hold,World.keptBut_mono (λp hp=>⟨hp,?_⟩) hk,λ_=> ?_⟩
 ·rw[hps,K0] at hp
  exact Or.inr hp
 ·have hlt:=hW.lt
  obtain⟨_,_,_,_,_,hz,hn⟩:=hW
  refine⟨hok,_,_,([]++pa)++pv,⟨[]++pa,pv,trodAll_append (hargs _ (λ_ _=>rfl)) (hres _ _ _),hvars _ (λ_ _=>rfl),rfl,?_,?_⟩,?_⟩
  ·intro b off hp
   have hp':MemPlace.cell b off∈before:=by rw[hps];simpa using hp
   rw[hfz _ (hlt _ hp')]
   exact hz b off hp'
  ·intro ha
   have:=hn ha
   rw[hps] at this
   simpa using this
  ·intro p hp _
   rw[hps]
   simpa using hp
def VTy (T:TT) (n:Nat) (t:TypeId) (x:D):Prop:=
 ∃zs,DTy T n t zs/\(match(J8 T t).map G8 with
  |some true=>x=.agg zs
  |_=>zs=[x])
def TA (T:TT) (n:Nat):List TypeId->List D->Prop
 |[],xs=>xs=[]
 |t::ts,xs=>∃x r,xs=x::r/\VTy T n t x/\TA T n ts r
theorem A4i {n:Nat} {t:TypeId} (h:lK T n t=true):∃ti,J8 T t=some ti/\(ti.kind=.bool∨(∃k,ti.kind=.int k)∨ti.kind=.string∨(∃e,ti.kind=.slice e)∨(∃fs,ti.kind=.str fs)∨∃m e,ti.kind=.arr m e):=by
 cases n with
 |zero=>simp[lK] at h
 |succ n=>
  simp only[lK] at h
  cases hty:J8 T t with
  |none=>simp[hty] at h
  |some ti=>
   refine⟨ti,rfl,?_⟩
   simp only[hty] at h
   cases hk:ti.kind<;>simp[hk] at h ⊢
theorem arg_D {H:Type} {enc:TypeId×Value->H} (hT:W9 P T=true) {n:Nat} {w:World} {base b0:Nat} {sp:Nat->Bool} {held:Bool} {t:TypeId} {v:Value} {d:DataW H} {ps:List MemPlace} (hr:lK T n t=true)
 (hok:Value.okWide P w .any b0 t v) (h:DataW.Trod enc P w base sp held t v d ps):∃x,VTy T n t x/\DR w (CO w) x v:=by
 obtain⟨fuel,h⟩:=h
 obtain⟨zs,h1,h2⟩:=B3l hT n fuel t _ _ hr h
 obtain⟨ti,hty,hk⟩:=A4i hr
 have hti:=H7 hT hty
 have agg:G8 ti=true->(∃cs,v=.agg cs)->∃x,VTy T n t x/\DR w (CO w) x v:=λha hv=>by
  obtain⟨cs,rfl⟩:=hv
  refine⟨.agg zs,⟨zs,h2,by simp[hty,ha]⟩,.agg zs cs (by simpa[Value.cells] using h1.1.symm) (λj c hj=> ?_) λj c u hj hu=>(h1.2 j c u hj (by simpa[Value.cells] using hu)).2⟩
  have hlt:j<(Value.agg cs).cells.toList.length:=by rw[<-h1.1];exact(A4.1 hj).1
  exact(h1.2 j c _ hj (A3 hlt)).1
 have one:G8 ti=false->v.cells= #[v]->∃x,VTy T n t x/\DR w (CO w) x v:=λha hv=>by
  have hl:=h1.1
  rw[hv] at hl
  match zs,hl,h1,h2 with
  |[x],_,h1,h2=>exact⟨x,⟨[x],h2,by simp[hty,ha]⟩,(h1.2 0 x v rfl (by rw[hv];rfl)).2⟩
 rcases hk with hk|⟨k,hk⟩|hk|⟨e,hk⟩|⟨fs,hk⟩|⟨m,e,hk⟩
 ·refine one (by simp[G8,hk]) ?_
  have hu:=jU hti hk
  clear agg one h h1 h2 hti
  cases v<;>first|rfl|(simp[Value.okWide,hu,Cell.okWide,Cell.ok] at hok)
 ·refine one (by simp[G8,hk]) ?_
  have hu:=fZ hti hk
  clear agg one h h1 h2 hti
  cases v<;>first|rfl|(simp[Value.okWide,hu,Cell.okWide,Cell.ok] at hok)
 ·refine one (by simp[G8,hk]) ?_
  have hu:=X0 hti hk
  clear agg one h h1 h2 hti
  cases v<;>first|rfl|(simp[Value.okWide,hu,Cell.okWide,Cell.ok] at hok)
 ·refine one (by simp[G8,hk]) ?_
  have hu:=P8 hti hk
  clear agg one h h1 h2 hti
  cases v<;>first|rfl|(simp[Value.okWide,hu,Cell.okWide,Cell.ok] at hok)
 ·obtain⟨fields,hu,_⟩:=iX hti hk
  simp only[Value.okWide,hu] at hok
  obtain⟨cs,rfl,_⟩:=hok
  exact agg (by simp[G8,hk]) ⟨cs,rfl⟩
 ·simp only[Value.okWide,iY hti hk] at hok
  obtain⟨cs,rfl,_⟩:=hok
  exact agg (by simp[G8,hk]) ⟨cs,rfl⟩
theorem B2b {H:Type} {enc:TypeId×Value->H} (hT:W9 P T=true) {n:Nat} {w:World} {base b0:Nat} {sp:Nat->Bool} {held:Bool}:∀{ts:List TypeId} {vs:List Value} {ds:List (DataW H)} {ps:List MemPlace},ts.all (lK T n)=true->
 (∀(j:Nat) t v,ts[j]? =some t->vs[j]? =some v->Value.okWide P w .any b0 t v)->DataW.TrodAll enc P w base sp held ts vs ds ps->
 ∃xs:List D,TA T n ts xs/\xs.length=vs.length/\∀(j:Nat) (x:D) (v:Value),xs[j]? =some x->vs[j]? =some v->DR w (CO w) x v
 |[],vs,ds,ps,_,_,h=>by
  cases vs<;>cases ds<;>simp[DataW.TrodAll] at h
  exact⟨[],rfl,rfl,by simp⟩
 |t::ts,[],ds,ps,_,_,h=>by simp[DataW.TrodAll] at h
 |t::ts,v::vs,[],ps,_,_,h=>by simp[DataW.TrodAll] at h
 |t::ts,v::vs,d::ds,ps,hr,hok,h=>by
  obtain⟨p,q,h1,h2,rfl⟩:=h
  simp only[AO,C8] at hr
  obtain⟨x,x1,x2⟩:=arg_D hT hr.1 (hok 0 t v rfl rfl) h1
  obtain⟨xs,y1,y2,y3⟩:=B2b hT hr.2 (λj t' v' hj hv=>hok (j+1) t' v' (by simpa using hj) (by simpa using hv)) h2
  refine⟨x::xs,⟨x,xs,rfl,x1,y1⟩,by simp[y2],λj y u hj hu=> ?_⟩
  cases j with
  |zero=>simp at hj hu;subst hj;subst hu;exact x2
  |succ j=>exact y3 j y u (by simpa using hj) (by simpa using hu)
theorem OQ {H:Type} {enc:TypeId×Value->H} (hl:laidOutB P=true) {W W':World} (hold:∀i,i<W.heap.size->W'.heap[i]? =W.heap[i]?) {sp:Nat->Bool}:∀{ts:List TypeId} {vs:List Value} {ds:List (DataW H)} {ps:List MemPlace},
 ts.all (λt=>P.readableRec t&&decide (t<P.types.size))=true->(∀p∈ps,sp p.block=true)->(∀p∈ps,p.block<W.heap.size)->
 DataW.TrodAll enc P W 0 (λ_=>true) true ts vs ds ps->DataW.TrodAll enc P W' 0 sp true ts vs ds ps
 |[],vs,ds,ps,_,_,_,h=>by
  cases vs<;>cases ds<;>simp[DataW.TrodAll] at h ⊢
  exact h
 |t::ts,[],ds,ps,_,_,_,h=>by simp[DataW.TrodAll] at h
 |t::ts,v::vs,[],ps,_,_,_,h=>by simp[DataW.TrodAll] at h
 |t::ts,v::vs,d::ds,ps,hr,hs,hlt,h=>by
  obtain⟨p,q,h1,h2,rfl⟩:=h
  simp only[AO,C8,F3] at hr
  refine⟨p,q,Go.WideElems.Trod_stays hl hr.1.1 hr.1.2 h1 (λx hx=> ?_) (λx hx=>hs x (O8 _ hx)),OQ hl hold hr.2 (λx hx=>hs x (dB _ hx)) (λx hx=>hlt x (dB _ hx)) h2,rfl⟩
  have hb:=hold x.block (hlt x (O8 _ hx))
  cases x with
  |cell b off=>exact World.cell?_of_block (a:=⟨b,off,none⟩) hb
  |map b=>exact hb
theorem QX {C:Checked} {H:Type} {enc:TypeId×Value->H} (hT:W9 C.prog T=true) {n:Nat} {f:FuncId} {fn:Func} (hf:C.prog.funcs[f]? =some fn) (hname:(fn.name== "runtime.NumGoroutine")=false) (hbody:fn.body.isSome=true)
 (hread:fn.params.toList.all (lK T n)=true) (hl:laidOutB C.prog=true) (hrec:fn.params.toList.all (λt=>C.prog.readableRec t&&decide (t<C.prog.types.size))=true)
 {tb:TypeId} (hres:fn.resultTypes= #[tb]) (htb:C.prog.underlying tb=some .bool) {s:ChangeSpec} (hvars:s.vars=[]) {m:Nat} (hm:fn.params.toList.length=m)
 (hs:∀ds:List (DataW H),ds.length=m->s.fn H ds={results:=[.lit (.bool true)],args:=ds})
 (hp:∀xs,TA T n fn.params.toList xs->C9 C.prog f (xs.map .d) (E5 [.b true])) {apart fresh handsOn again:Bool}
 (W:World) (hglob:jY W (CO W)) (base:Nat) (args:Array Value) (ds gs:List (DataW H)) (before:List MemPlace) (hval:∀(j:Nat) t v,fn.params[j]? =some t->args[j]? =some v->Value.okWide C.prog W .any base t v)
 (hW:DataW.Whole enc C.prog fn.params.toList s.vars apart W args.toList ds gs before):
 Calls C.prog f args W λe W'=>∃v,e=.returned v/\s.post enc C.prog fn apart fresh handsOn again W args v W':=by
 have hW':=hW
 obtain⟨p,q,hA,hV,rfl,hfz,hnd⟩:=hW
 rw[hvars] at hV
 obtain⟨rfl,rfl⟩:=trodVars_none hV
 obtain⟨xs,x1,x2,x3⟩:=B2b hT hread (λj t v hj hv=>hval j t v (by simpa using hj) (by simpa using hv)) hA
 have hc:=hp xs x1 W (CO W) [] [] args (rQ (λb o h=>h) hglob) ⟨by simpa using x2.symm,λj c u hj hu=>by
  rw[A8] at hj
  cases hx:xs[j]? with
  |none=>simp[hx] at hj
  |some x=>simp[hx] at hj;subst hj;exact .d (x3 j x u hx (by simpa using hu))⟩
 obtain⟨c,hb⟩:=mA.1 hbody
 have he:=Go.MuLone.run_callFunc_enter hf hname hb args W
 rcases hc with⟨_,hc⟩|⟨v,w',h1,_⟩
 case inr=>rw[he] at h1;cases h1
 refine hc.mono λe W' ⟨cv,he,S',β',_,hv,E⟩=>⟨cv,he,?_⟩
 have hcv:cv=.bool true:=qK hv
 subst hcv
 have hold:∀i,i<W.heap.size->W'.heap[i]? =W.heap[i]? :=λi hi=>E.frame i hi (by rintro⟨n,p,h⟩;simp at h)
 have hdl:ds.length=m:=by
  have:∀{ts:List TypeId} {vs:List Value} {ds:List (DataW H)} {ps:List MemPlace},DataW.TrodAll enc C.prog W 0 (λ_=>true) true ts vs ds ps->ds.length=ts.length:=by
   intro ts
   induction ts with
   |nil=>intro vs ds ps h;cases vs<;>cases ds<;>simp[DataW.TrodAll] at h ⊢
   |cons t ts ih=>
    intro vs ds ps h
    cases vs with
    |nil=>simp[DataW.TrodAll] at h
    |cons v vs=>
     cases ds with
     |nil=>simp[DataW.TrodAll] at h
     |cons d ds=>
      obtain⟨_,_,_,h2,_⟩:=h
      simp[ih h2]
  rw[this hA,hm]
 have hsp:=hs (ds++[]) (by simpa using hdl)
 refine UR (pa:=p) (pv:=[]) hW' (λb sp hd=> ?_) (λsp hsp'=> ?_) (λsp _=> ?_) rfl ⟨E.outer.1.1,E.outer.1.2,λi hi=> ?_⟩ E.froz ?_
 ·rw[hsp,hres]
  exact trodAll_mk1 (shut_bool htb true)
 ·rw[hsp]
  simp only[I3] at hsp' ⊢
  exact OQ hl hold hrec hsp' (λx hx=>hW'.lt x (by simpa using hx)) hA
 ·rw[hsp,hvars];rfl
 ·rw[hold i hi]
  cases hh:W.heap[i]? with
  |none=>trivial
  |some o=>
   cases o with
   |cells c t fr=>exact⟨rfl,rfl,rfl,λ_ _=>rfl⟩
   |map es clock=>exact .inr ⟨rfl,rfl⟩
   |_=>rfl
 ·exact ok_one hres rfl (okWide_bool_mk htb true)
end Go.PM
namespace Go.PM
open Go.Proofs
theorem QS {α:Type} {f:α->D}:∀{ys:List D},(∀y∈ys,∃a,y=f a)->∃l:List α,ys=l.map f
 |[],_=>⟨[],rfl⟩
 |y::ys,h=>by
  obtain⟨a,rfl⟩:=h y (.head _)
  obtain⟨l,rfl⟩:=QS λy hy=>h y (.tail _ hy)
  exact⟨a::l,rfl⟩
theorem A9u {n:Nat} (h:n<=maxLen):n<2^63:=I4 h (by decide)
theorem B4o {n:Nat} {zs:List D} (h:DTy tt (n+8) 25 zs):∃b:D7,DLe (.agg zs) b.d/\b.op.length<2^63/\b.recs.length<2^63:=by
 obtain⟨_,_,rfl,⟨fo,o,rfl,lo,ho⟩,⟨_,_,rfl,⟨p,rfl,hp⟩,⟨_,_,rfl,⟨fr,r,rfl,lr,hr⟩,rfl⟩⟩⟩:=h
 obtain⟨l,rfl⟩:=QS (f:=I) (ys:=o) λy hy=>by
  obtain⟨ws,h1,rfl⟩:=ho y hy
  obtain⟨m,e,_⟩:=h1
  cases e
  exact⟨m,rfl⟩
 obtain⟨m,rfl⟩:=QS (f:=Rec.d) (ys:=r) λy hy=>by
  obtain⟨ws,h1,rfl⟩:=hr y hy
  obtain⟨_,_,rfl,⟨_,_,rfl,⟨a,rfl,ha⟩,⟨_,_,rfl,⟨b,rfl,hb⟩,⟨_,_,rfl,⟨c,rfl,hc⟩,⟨_,_,rfl,⟨d,rfl,hd⟩,⟨_,_,rfl,⟨e,rfl,he⟩,⟨_,_,rfl,⟨f,rfl,hf⟩,rfl⟩⟩⟩⟩⟩⟩,⟨_,_,rfl,⟨k,rfl,hk⟩,⟨_,_,rfl,⟨t,rfl,ht⟩,⟨_,_,rfl,⟨q,rfl,hq⟩,rfl⟩⟩⟩⟩:=h1
  exact⟨⟨⟨a,b,c,d,e,f⟩,k,t,q⟩,rfl⟩
 rw[A6] at lo lr
 exact⟨⟨l,p,m⟩,DLe.agg ⟨DLe.full _ _ _,.refl _,DLe.full _ _ _,rfl⟩,A9u lo,A9u lr⟩
theorem B2x {n:Nat} {zs:List D} (h:DTy tt (n+5) 27 zs):∃s:S8,.agg zs=s.d:=by
 obtain⟨_,_,rfl,⟨v,rfl,hv⟩,⟨_,_,rfl,⟨p,rfl,hp⟩,rfl⟩⟩:=h
 exact⟨⟨v,p⟩,rfl⟩
end Go.PM
namespace Go.Proofs.YtefjfjfcjihcpaaGreatDoor
open Go.ChangeShapes Go.WideShapes Go.ChangeAt Go.RowKit Go.PM
theorem own:ownKnob Tryz.prog.godebug=none:=by kernel_rfl
theorem laidOut:laidOutB Tryz.prog=true:=by kernel_rfl
def tab2:List Int:=[0,1,56,2,57,49,28,3,61,58,42,50,38,29,17,4,62,47,59,36,45,43,51,22,53,39,33,30,24,18,12,5,63,55,48,27,60,41,37,16,46,35,44,21,52,32,23,11,54,26,40,15,34,20,31,10,25,14,19,9,13,8,7,6]
theorem gNo2:Tryz.prog.globalNamed "math/bits.deBruijn64tab" =some 2:=by kernel_rfl
theorem tab_head {P:Program} {W:World} {name:String} {k:IntKind} {zs:List Int} {rest:List (String×DataW Unit)} {ps:List MemPlace} {g:Nat} {t e:TypeId} {n:Nat}
 (hg:P.globalNamed name=some g) (hty:(P.globals[g]?).map (·.type)=some t) (ht:P.underlying t=some (.array n e)) (he:P.underlying e=some (.int k)) (hce:P.cellsOf e=1) (hct:P.cellsOf t=n)
 (h:DataW.LaidVars P W ((name,Lib.tabData k zs)::rest) ps):Lib.TabIs P W name k zs/\∃qs,DataW.LaidVars P W rest qs:=by
 obtain⟨g',t',cs,fuel,p,q,hg',ht',hvar,hd,hr,_⟩:=h
 obtain rfl:=T7 (hg.symm.trans hg')
 obtain rfl:=T7 (hty.symm.trans ht')
 refine⟨?_,q,hr⟩
 unfold Lib.TabIs
 rw[hvar,<-Lib.cells_of_tab ht he hce hct hd]
theorem tab_cells {P:Program} {W:World} {name:String} {k:IntKind} {zs:List Int} {g:Nat} (h:Lib.TabIs P W name k zs) (hg:P.globalNamed name=some g):
 (∀(j:Nat) (c:D),(zs.map (D.i k))[j]? =some c->c.flat=true/\∃u,W.cell? ⟨g,j,none⟩=some u/\DR W (CO W) c u/\CO W g j)/\∃cs e f,W.heap[g]? =some (.cells cs e f)/\cs.size=(zs.map (D.i k)).length:=by
 constructor
 ·intro j c hj
  have hl:j<zs.length:=by have:=(A4.1 hj).1;simpa using this
  have hc:c=.i k zs[j]:=by rw[A8,A3 hl] at hj;simpa using hj.symm
  subst hc
  have h1:W.cell? ⟨g,j,none⟩=some (.int k zs[j]):=by
   have:=World.var?_cell hg h j
   simpa[hl] using this
  exact⟨rfl,_,h1,.i _ _,(rX h1).2⟩
 ·unfold Lib.TabIs World.var? at h
  rw[hg] at h
  simp only[Option.bind_some] at h
  split at h
  ·rename_i cs e f hh
   exact⟨cs,e,f,hh,by rw[T7 h];simp⟩
  ·cases h
end Go.Proofs.YtefjfjfcjihcpaaGreatDoor

/- TopTrace: part 5 of the proof: for every input the law returns true, and its arguments read behind the call as they read before; where the library's table is as its own text lays it. -/
import Derived.Test.YtefjfjfcjihcpaaGreatDoorQ4
import Derived.Conc.MuLone
import Derived.RangeFuncRecord
import Derived.RangeFuncIn
set_option maxRecDepth 10000
set_option maxHeartbeats 400000000
set_option linter.unusedSectionVars false
namespace Go.PM
variable [CN]
variable {P:Program} {T:TT}
def rJ:List V->Nat->Tm->Tm
 |[],_,ts=>ts
 |v::vs,i,ts=>rJ vs (i+1) ((i,v)::ts)
theorem rK:∀(vs:List V) (i:Nat) (ts:Tm) (k:Tm->Prop),vO vs i ts k->k (rJ vs i ts)
 |[],i,ts,k,h=>h
 |v::vs,i,ts,k,h=>rK vs (i+1) _ k h
theorem uG:∀(vs:List V) (i:Nat) (ts:Tm) (t:Nat),look (rJ vs i ts) t=if i<=t/\t<i+vs.length then vs.getD (t-i) .u else look ts t
 |[],i,ts,t=>by simp[rJ];omega
 |v::vs,i,ts,t=>by
  rw[rJ,uG vs (i+1)]
  by_cases h:i=t
  ·subst h
   have:Nat.beq i i=true:=kJ i
   rw[if_neg (by omega),if_pos (by simp)]
   simp[look,this]
  ·have hb:Nat.beq i t=false:=by
    cases hb:Nat.beq i t
    ·rfl
    ·exact absurd (B2 hb) h
   by_cases h2:i+1<=t/\t<i+1+vs.length
   ·rw[if_pos h2,if_pos (by simp;omega),show t-i=(t-(i+1))+1 by omega]
    rfl
   ·rw[if_neg h2,if_neg (by simp;omega)]
    simp only[look,hb]
theorem A1c (hT:W9 P T=true) {t:TypeId} {av:V} {bs:List Blk} {K:Kt} (h:OU T t av bs K):
 ∃v,K v bs/\∀(w:World) (S:Stb) (hp:Hp) (β:Bet) (ca:Value),HR w S hp β->VR w S hp β av ca->(∀(i m:Nat),(fB av)[i]? =some m->hp[m]? =bs[i]?)->
  ∃b off cv,ca=.pointer (some ⟨b,off,none⟩)/\(loadVar t ⟨b,off,none⟩).run P w=.ok cv w/\VR w S hp β v cv:=by
 unfold OU at h
 cases hty:J8 T t with
 |none=>simp[hty] at h
 |some ti=>
  have hti:=H7 hT hty
  simp only[hty] at h
  split at h
  ·rename_i cs off
   obtain⟨x,hk,hx⟩:=fC h
   refine⟨_,hk,λw S hp β ca hr hv _=> ?_⟩
   cases hv with
   |rp _ _ b base uf h1 h2=>
    obtain⟨cv,e1,e2⟩:=hx.run hti (w:=w) (S:=S) (b:=b) (off:=base) λj c hj=>⟨uf j,(h1 j c hj).2.1,h2 j c hj,(h1 j c hj).1⟩
    exact⟨_,_,cv,rfl,e1,.d e2⟩
  ·rename_i n ver e off cs
   obtain⟨x,hk,hx⟩:=fC h
   refine⟨_,hk,λw S hp β ca hr hv hb=> ?_⟩
   have hn:hp[n]? =some (.vard cs):=by simpa[fB] using hb 0 n rfl
   cases hv with
   |ptr h1 h2=>
    simp only[PR,hn] at h2
    obtain⟨b,hbn,rfl,rfl,rfl⟩:=h2
    obtain⟨b',hb',hc⟩:=(hr.blk n _ hn).vard_cells
    rw[hbn] at hb';simp at hb';subst hb'
    obtain⟨cv,e1,e2⟩:=hx.run hti hc
    rw[C1] at e1
    exact⟨_,_,cv,rfl,e1,.d e2⟩
  ·rename_i n ver e off cs
   obtain⟨x,hk,hx⟩:=BD h
   refine⟨_,hk,λw S hp β ca hr hv hb=> ?_⟩
   have hn:hp[n]? =some (.var cs):=by simpa[fB] using hb 0 n rfl
   cases hv with
   |ptr h1 h2=>
    simp only[PR,hn] at h2
    obtain⟨b,hbn,rfl,rfl,rfl⟩:=h2
    obtain⟨b',hb',hc⟩:=(hr.blk n _ hn).var_cells
    rw[hbn] at hb';simp at hb';subst hb'
    obtain⟨cv,e1,e2⟩:=hx.run hti hc
    rw[C1] at e1
    exact⟨_,_,cv,rfl,e1,e2⟩
  ·rename_i n ver e off ver' sz ro xs
   obtain⟨hver,h⟩:=h.elim
   subst hver
   obtain⟨y,hy,h⟩:=O6.1 h
   obtain⟨x,hk,hx⟩:=fC h
   refine⟨_,hk,λw S hp β ca hr hv hb=> ?_⟩
   have hn:hp[n]? =some (.row ver sz ro xs):=by simpa[fB] using hb 0 n rfl
   cases hv with
   |ptr h1 h2=>
    simp only[PR,hn] at h2
    obtain⟨_,_,h2⟩:=h2
    obtain⟨b,base,hbn,rfl⟩:=h2 trivial
    obtain⟨b',base',hb',hc⟩:=(hr.blk n _ hn).row_cells hy
    rw[hbn] at hb';simp at hb';obtain⟨rfl,rfl⟩:=hb'
    obtain⟨cv,e1,e2⟩:=hx.run hti hc
    exact⟨_,_,cv,rfl,e1,.d e2⟩
  ·rename_i n ver e off vs
   obtain⟨⟨ad,cs⟩,hy,h⟩:=O6.1 h
   obtain⟨x,hk,hx⟩:=fC h
   refine⟨_,hk,λw S hp β ca hr hv hb=> ?_⟩
   have hn:hp[n]? =some (.ar vs):=by simpa[fB] using hb 0 n rfl
   cases hv with
   |ptr h1 h2=>
    simp only[PR,hn] at h2
    obtain⟨b,h2,rfl⟩:=h2
    rw[hy] at h2;simp at h2;subst h2
    obtain⟨cv,e1,e2⟩:=hx.run hti ((hr.blk n _ hn).ar_cells hy)
    rw[C1] at e1
    exact⟨_,_,cv,rfl,e1,.d e2⟩
  ·exact h.elim
def YR (tmps:Array Value):ResultVar->Sem Value
 | .tmp t=>pure (tmps.getD t undef)
 | .cell a t=>do loadVar t (<-asAddr (tmps.getD a undef))
theorem MT (hT:W9 P T=true) {h:Hp} {ts:Tm}:∀(l:List ResultVar) (k:List V->Prop),BA T h ts l k->∃vs,k vs/\vs.length=l.length/\
 ∀(w:World) (S:Stb) (β:Bet) (tmps:Array Value),HR w S h β->TR w S h β ts tmps->∃us:List Value,us.length=l.length/\(l.mapM (YR tmps)).run P w=.ok us w/\
  ∀(j:Nat) (c:V) (u:Value),vs[j]? =some c->us[j]? =some u->VR w S h β c u:=by
 intro l
 induction l with
 |nil=>exact λk hk=>⟨[],hk,rfl,λw S β tmps _ _=>⟨[],rfl,by simp,by simp⟩⟩
 |cons x l ih=>
  intro k hk
  cases x with
  |cell a t=>
   simp only[BA] at hk
   have hk:=nK _ _ _ hk
   obtain⟨bs,hl,hb,hk⟩:=pX hk
   obtain⟨v,hk,hld⟩:=A1c hT hk
   obtain⟨vs,hk,hl2,hh⟩:=ih _ hk
   refine⟨v::vs,hk,by simp[hl2],λw S β tmps hr ht=> ?_⟩
   obtain⟨us,h1,h2,h3⟩:=hh w S β tmps hr ht
   obtain⟨b,off,cv,g1,g2,g3⟩:=hld w S h β _ hr (ht a) hb
   refine⟨cv::us,by simp[h1],?_,λj c u hj hu=> ?_⟩
   ·have:(YR tmps (.cell a t)).run P w=.ok cv w:=by
     unfold YR
     simp only[Sem.run_bind]
     rw[g1]
     simp[asAddr,g2]
    simp[OY,this,h2]
   ·cases j with
    |zero=>simp only[List.getElem?_cons_zero,W8] at hj hu;subst hj;subst hu;exact g3
    |succ j=>exact h3 j c u (by simpa using hj) (by simpa using hu)
  |tmp t=>
   have hk:=nK _ _ _ hk
   obtain⟨vs,hk,hl,hh⟩:=ih _ hk
   refine⟨look ts t::vs,hk,by simp[hl],λw S β tmps hr ht=> ?_⟩
   obtain⟨us,h1,h2,h3⟩:=hh w S β tmps hr ht
   refine⟨tmps.getD t undef::us,by simp[h1],by simp[OY,YR,h2],λj c u hj hu=> ?_⟩
   cases j with
   |zero=>simp only[List.getElem?_cons_zero,W8] at hj hu;subst hj;subst hu;exact ht t
   |succ j=>exact h3 j c u (by simpa using hj) (by simpa using hu)
theorem rQ {w:World} {S:Stb} (h:∀b o,S b o->b<w.heap.size) (hg:jY w S):HR w S [] []:=⟨B1 _,by simp,by simp,h,hg,λr b p h=>by simp[tl] at h,by simp⟩
theorem VR.nil1 {w:World} {S:Stb} {h:Hp} {β:Bet} {x:V} {v:Value} (hx:VR w S h β x v) (hb:nm1 0 x=true):VR w S [] [] x v:=by
 have no:∀m,Nat.blt m 0=true->False:=λm h=>by have:=KF h;omega
 cases hx with
 |u=>exact .u _
 |d h=>exact .d h
 |agg=>cases hb
 |tup=>cases hb
 |ptr h1 h2=>exact(no _ hb).elim
 |rp cs o b off uf h1 h2=>exact .rp cs o b off uf h1 h2
 |sref h1 h2=>exact(no _ hb).elim
 |fn f cap arr h1 h2=>
  cases cap with
  |nil=>exact .fn f [] arr h1 (by simp)
  |cons=>cases hb
 |yld h1 h2=>exact(no _ hb).elim
 |map h1 h2=>exact(no _ hb).elim
theorem VR.nil {w:World} {S:Stb} {h:Hp} {β:Bet} {x:V} {v:Value} (hx:VR w S h β x v) (hb:nmV 0 x=true):VR w S [] [] x v:=by
 have all:∀{cs:List V} {j:Nat} {c:V},cs.all (nm1 0)=true->cs[j]? =some c->nm1 0 c=true:=λh hj=>C5.1 h _ (A7 hj)
 cases hx with
 |agg cs arr h1 h2 h3=>exact .agg cs arr h1 h2 λj c u hc hu=>(h3 j c u hc hu).nil1 (all hb hc)
 |tup cs arr h1 h2=>exact .tup cs arr h1 λj c u hc hu=>(h2 j c u hc hu).nil1 (all hb hc)
 |fn f cap arr h1 h2=>exact .fn f cap arr h1 λj c u hc hu=>(h2 j c u hc hu).nil1 (all hb hc)
 |u=>exact .u _
 |d h=>exact .d h
 |ptr h1 h2=>exact(VR.ptr h1 h2).nil1 hb
 |rp cs o b off uf h1 h2=>exact .rp cs o b off uf h1 h2
 |sref h1 h2=>exact(VR.sref h1 h2).nil1 hb
 |yld h1 h2=>exact(VR.yld h1 h2).nil1 hb
 |map h1 h2=>exact(VR.map h1 h2).nil1 hb
theorem CX {fn:Func} {tmps:Array Value} {w:World} {us:List Value} (h:(fn.results.toList.mapM (YR tmps)).run P w=.ok us w):(results fn tmps).run P w=.ok (if h:us.toArray.size=1 then us.toArray[0] else .tuple us.toArray) w:=by
 have e:(fn.results.mapM (YR tmps)).run P w=.ok us.toArray w:=by
  rw[Array.mapM_eq_mapM_toList]
  simp[h]
 have e':results fn tmps=(do let vs <-fn.results.mapM (YR tmps);pure (if h:vs.size=1 then vs[0] else .tuple vs)):=by
  unfold results
  congr 1
 rw[e']
 simp only[Sem.run_bind,e,Result.andThen_ok,Sem.run_pure]
theorem MR {vs:List V} {k:V->Prop} (h:GX vs k):k (UG vs):=by
 unfold GX at h
 unfold UG
 split at h<;>exact h
theorem A2b {w:World} {S:Stb} {h:Hp} {β:Bet} {vs:List V} {us:List Value} (hl:us.length=vs.length) (hd:∀(j:Nat) (d:V) (u:Value),vs[j]? =some d->us[j]? =some u->VR w S h β d u):
 VR w S h β (UG vs) (if h:us.toArray.size=1 then us.toArray[0] else .tuple us.toArray):=by
 by_cases h1:us.length=1
 ·rw[dif_pos (by simpa using h1)]
  match us,vs,h1,hl,hd with
  |[u],[d],_,_,hd=>exact hd 0 d u rfl rfl
 ·rw[dif_neg (by simpa using h1)]
  have:UG vs=.tup vs:=by
   match vs,hl with
   |[],_=>rfl
   |[d],hl=>exact absurd hl h1
   |_::_::_,_=>rfl
  rw[this]
  exact .tup _ _ (by simpa using hl) λj c u hc hu=>hd j c u hc (by simpa using hu)
structure rZ (B:Nat) (β:Bet) (w w':World):Prop where
 outer:Out w w'
 size:w'.heap.size=w.heap.size
 frame:∀(i:Nat),i<B∨img β i->w'.heap[i]? =w.heap[i]?
 cells:∀(i:Nat) c e f,w.heap[i]? =some (.cells c e f)->w'.heap[i]? =some (.cells c e f)
 loops:∀(i:Nat) l,w.heap[i]? =some (.loop l)->w'.heap[i]? =some (.loop l)
 froz:∀a,w'.frozen? a=w.frozen? a
 cell:∀a,w'.cell? a=w.cell? a
theorem rZ.refl (B:Nat) (β:Bet) (w:World):rZ B β w w:=⟨Out.refl _,rfl,λ_ _=>rfl,λ_ _ _ _ h=>h,λ_ _ h=>h,λ_=>rfl,λ_=>rfl⟩
theorem rZ.trans {B:Nat} {β:Bet} {w w1 w2:World} (a:rZ B β w w1) (b:rZ B β w1 w2):rZ B β w w2:=
 ⟨a.outer.trans b.outer,b.size.trans a.size,λi hi=>(b.frame i hi).trans (a.frame i hi),λi c e f h=>b.cells i c e f (a.cells i c e f h),λi l h=>b.loops i l (a.loops i l h),λx=>(b.froz x).trans (a.froz x),λx=>(b.cell x).trans (a.cell x)⟩
theorem rZ.evol0 {B:Nat} {β:Bet} {w w':World} (s:rZ B β w w') (S:Stb) (h:Hp):LB w S h β w' S h β:=
 ⟨λi c e f hi=>⟨c,s.cells i c e f hi,rfl⟩,λ_ _ h=>h,λb o _=>s.cell _,λn b hb=>⟨b,hb,BEv.refl _ _⟩⟩
theorem rZ.hr {B:Nat} {β:Bet} {w w':World} (s:rZ B β w w') {S:Stb} {h:Hp} (hr:HR w S h β):HR w' S h β:=
 ⟨hr.len,λn b hn=>BR.keep0 (s.evol0 S h) rfl (λ_ r b p ht=>⟨ht,s.frame b (.inr (A7d ht)),λ_ h=>h⟩) (λb' p hb=>⟨s.frame b' (.inr ⟨n,p,hb⟩),λ_ h=>h⟩) (hr.blk n b hn),hr.inj,λb o hs=>by rw[s.size];exact hr.old b o hs,hr.glob.evol0 (s.evol0 S h),λr b p ht=>by rw[s.size];exact hr.tlt r b p ht,hr.one⟩
theorem UA {B:Nat} {β:Bet} {w:World} {r:Nat} (hB:B<=r) (hr:w.heap[r]? =some (.deferred (some []))) (hi:¬img β r):rZ B β w (w.putObj r (.deferred none)):=by
 have hlt:r<w.heap.size:=(C4.1 hr).1
 have hne:∀i,i≠r->(w.putObj r (.deferred none)).heap[i]? =w.heap[i]? :=λi hi=>by simp[World.putObj,G3 (N9 hi)]
 have hnew:(w.putObj r (.deferred none)).heap[r]? =some (.deferred none):=by simp[World.putObj,hlt]
 refine⟨Out.refl _,by simp[World.putObj],λi hi'=>hne i ?_,λi c e f hc=> ?_,λi l hl=> ?_,λa=> ?_,λa=> ?_⟩
 ·rintro rfl
  rcases hi' with h|h
  ·omega
  ·exact hi h
 ·rw[hne i (by rintro rfl;rw[hr] at hc;cases hc)];exact hc
 ·rw[hne i (by rintro rfl;rw[hr] at hl;cases hl)];exact hl
 ·by_cases h:a.block=r
  ·unfold World.frozen?
   rw[h,hnew,hr]
  ·exact World.frozen?_of_block (hne _ h)
 ·by_cases h:a.block=r
  ·unfold World.cell?
   rw[h,hnew,hr]
  ·exact World.cell?_of_block (hne _ h)
theorem zQ {F:Fence} {n:Nat} {fn:Func} {tmps:Array Value} {R:Ending->World->Prop} {B:Nat} {β:Bet}:∀(ds:List Deferred) (w:World),pH B w β ds->
 (∀w',rZ B β w w'->∃v,(results fn tmps).run P w'=.ok v w'/\R (.returned v) w')->LeavesInM F n P fn tmps R ds .returning w
 |[],w,_,hk=>hk w (rZ.refl _ _ _)
 |d::ds,w,hm,hk=>by
  obtain⟨r,h1,h2,h3,h4⟩:=hm.2 d (.head _)
  have s1:=UA h2 h3 h4
  refine⟨by simp,.inl ⟨r,_,h1,run_takeDeferred h3,zQ ds _ ⟨(xK.1 hm.1).2,λe he=> ?_⟩ λw' s=>hk w' (s1.trans s)⟩⟩
  obtain⟨r',g1,g2,g3,g4⟩:=hm.2 e (.tail _ he)
  refine⟨r',g1,g2,?_,g4⟩
  have hne:r'≠r:=by
   rintro rfl
   exact(xK.1 hm.1).1 e he (h1.trans g1.symm)
  simp only[World.putObj]
  rw[G3 (N9 hne)]
  exact g3
theorem X9 {E:Env} (hE:E.Ok P) {f:FuncId} {fn:Func} (hf:P.funcs[f]? =some fn) (hname:(fn.name== "runtime.NumGoroutine")=false) (hN:E.N=fn.ntmps) {args:List V} {h:Hp} {k:V->Hp->Prop}
 (hsz:args.length<=fn.ntmps) (hx:mK E fn args h k):M4 P f args h k:=by
 intro w S β argv hr hv
 unfold mK at hx
 cases hb:fn.body with
 |none=>simp[hb] at hx
 |some c=>
  simp only[hb] at hx
  have hx:=bP hE c _ _ _ (rK _ _ _ _ hx)
  have hst:St E.N ⟨none,w.heap.size,[]⟩ {tmps:=argv++Array.replicate (fn.ntmps-argv.size) undef,defers:=[]} w S (rJ args 0 []) h β:=by
   refine⟨hr,λt=> ?_,?_,⟨[],[],rfl,.nil,by simp⟩,by simp,B1 _⟩
   ·rw[uG]
    split
    ·rename_i ht
     have ht:t<args.length:=by omega
     have hta:t<argv.size:=by rw[hv.1];exact ht
     rw[Nat.sub_zero,A5,A3 ht]
     rw[C0,V6 hta,B7 hta]
     exact hv.2 t args[t] argv[t] (A3 ht) (B7 hta)
    ·exact .u _
   ·rw[hN];simp[hv.1];omega
  refine .inl ⟨Go.MuLone.run_callFunc_enter hf hname hb argv w,gW (ro:=none) (n:=0) |>.1 (callsIn_of_wp_marks hf hb (FF.all none f) (wpIn_mono (hx 0 ⟨none,w.heap.size,[]⟩ _ w S β hst) λe a' w' hp=> ?_))⟩
  obtain⟨x,rfl,ts',h',S',β',hk,hs',hE'⟩:=hp
  have fin:(BA E.T h' ts' fn.results.toList λvs=>GX vs λv=>k v h')->LeavesInM (FF none) 0 P fn a'.tmps (λe w'=>∃v,e=.returned v/\∃va h' S' β',k va h'/\HR w' S' h' β'/\VR w' S' h' β' va v/\F7 w S h β w' S' h' β') a'.defers .returning w':=λhk=>by
   obtain⟨vs,hk,hl,hh⟩:=MT hE.types _ _ hk
   obtain⟨ms,ms2,hms,hs0⟩:=hs'.marks
   rw[G5] at hms
   rw[<-hms] at hs0
   refine zQ a'.defers w' hs0 λw2 s=> ?_
   have hr2:=s.hr hs'.hr
   obtain⟨us,u1,u2,u3⟩:=hh w2 S' β' a'.tmps hr2 λt=>(hs'.tr t).evol0 (s.evol0 S' h')
   have E2:F7 w S h β w2 S' h' β':=by
    refine⟨hE'.outer.trans s.outer,by rw[s.size];exact hE'.size,λi hi hni=>by rw[s.frame i (.inl hi)];exact hE'.frame i hi hni,λi c e f hi=> ?_,λi l hl=> ?_,λa ha=>(s.froz a).trans (hE'.froz a ha),hE'.sub,hE'.new,λb o hs=>(s.cell _).trans (hE'.cell b o hs),hE'.imgs,hE'.len,hE'.blk⟩
    ·obtain⟨c',h1,h2⟩:=hE'.shape i c e f hi
     exact⟨c',s.cells i c' e f h1,h2⟩
    ·obtain⟨l',h1⟩:=hE'.loops i l hl
     exact⟨l',s.loops i l' h1⟩
   exact⟨_,CX u2,_,rfl,UG vs,h',S',β',MR hk,hr2,A2b (by omega) u3,E2⟩
  cases x with
  |normal=>exact fin hk
  |exit id=>exact hk.elim
  |ret=>exact fin hk
def eO (v:V) (h:Hp) (k:List D->Prop):Prop:=match v with
 | .tup vs=>zP vs h λds _=>k ds
 |v=>DD v h λd _=>k [d]
def nG:V->List D->V
 | .tup _,ds=>.tup (ds.map .d)
 |_,[d]=>.d d
 |_,_=>.u
theorem kH {v:V} {h:Hp} {k:List D->Prop} (hk:eO v h k):∃ds,k ds/\∀(w:World) (S:Stb) (β:Bet) (cv:Value),HR w S h β->VR w S h β v cv->
 ∃S' h',HR w S' h' β/\F7 w S h β w S' h' β/\∀(h2:Hp) (β2:Bet),VR w S' h2 β2 (nG v ds) cv:=by
 unfold eO at hk
 split at hk
 ·rename_i vs
  obtain⟨ds,h',hk,hl,hh⟩:=xF _ _ _ hk
  refine⟨ds,hk,λw S β cv hr hv=> ?_⟩
  cases hv with
  |tup _ arr h1 h2=>
   obtain⟨S',r1,e1,d1⟩:=hh w S β arr.toList hr (by simpa using h1) λj c u hj hu=>h2 j c u hj (by simpa using hu)
   refine⟨S',h',r1,e1,λh2 β2=>.tup _ _ (by simp;omega) λj c u hc hu=> ?_⟩
   rw[A8] at hc
   cases hd:ds[j]? with
   |none=>simp[hd] at hc
   |some d=>simp[hd] at hc;subst hc;exact .d (d1 j d u hd (by simpa using hu))
 ·rename_i hno
  obtain⟨d,h',hk,hh⟩:=rP hk
  refine⟨[d],hk,λw S β cv hr hv=> ?_⟩
  obtain⟨S',r1,e1,d1⟩:=hh w S β cv hr hv
  refine⟨S',h',r1,e1,λh2 β2=> ?_⟩
  have:nG v [d]=.d d:=by
   cases v<;>first|rfl|exact absurd rfl (hno _)
  rw[this]
  exact .d d1
structure DLe (d d':D):Prop where
 wrap::
 says:∀(w:World) (S:Stb) (v:Value),DR w S d v->DR w S d' v/\d'.flat=d.flat
theorem DLe.refl (d:D):DLe d d:=⟨λ_ _ _ h=>⟨h,rfl⟩⟩
theorem DLe.trans {a b c:D} (x:DLe a b) (y:DLe b c):DLe a c:=⟨λw S v h=>by
 obtain⟨h1,h2⟩:=x.says w S v h
 obtain⟨h3,h4⟩:=y.says w S v h1
 exact⟨h3,h4.trans h2⟩⟩
theorem DLe.full (sz:Nat) (full:Bool) (xs:List D):DLe (.sl sz full xs) (.sl sz false xs):=⟨λw S v h=>by
 cases h with
 |sl _ _ _ a cap b off uf h1 h2 h3 h4 h5 h6 h7=>exact⟨.sl _ _ _ a cap b off uf h1 (by simp) h3 h4 h5 h6 h7,rfl⟩⟩
theorem DLe.nil (sz sz':Nat) (full:Bool):DLe (.sl sz full []) (.sl sz' false []):=⟨λw S v h=>by
 cases h with
 |sl _ _ _ a cap b off uf h1 h2 h3 h4 h5 h6 h7=>exact⟨.sl _ _ _ a cap b off uf h1 (by simp) (by simp) (by simp) (by simp) (by simp) (by simp),rfl⟩⟩
def A6r:List D->List D->Prop
 |[],ys=>ys=[]
 |x::xs,ys=>match ys with
  |[]=>False
  |y::ys=>DLe x y/\A6r xs ys
theorem A6r.spec:∀{xs ys:List D},A6r xs ys->ys.length=xs.length/\∀(j:Nat) (x y:D),xs[j]? =some x->ys[j]? =some y->DLe x y
 |[],ys,h=>by
  have h:ys=[]:=h
  subst h;simp
 |x::xs,[],h=>h.elim
 |x::xs,y::ys,h=>by
  obtain⟨i1,i2⟩:=A6r.spec h.2
  refine⟨by simp[i1],λj a b ha hb=> ?_⟩
  cases j with
  |zero=>simp at ha hb;subst ha;subst hb;exact h.1
  |succ j=>exact i2 j a b (by simpa using ha) (by simpa using hb)
theorem DLe.agg {xs ys:List D} (h:A6r xs ys):DLe (.agg xs) (.agg ys):=⟨λw S v hv=>by
 obtain⟨l1,l2⟩:=h.spec
 cases hv with
 |agg _ arr h1 h2 h3=>
  refine⟨.agg ys arr (by rw[h1,l1]) (λj c hj=> ?_) (λj c u hj hu=> ?_),rfl⟩
  all_goals
   have hlt:j<xs.length:=by rw[<-l1];exact(A4.1 hj).1
   have hx:=A3 hlt
  ·have hla:j<arr.size:=by rw[h1];exact hlt
   have:=(l2 j _ c hx hj).says w S _ (h3 j _ _ hx (B7 hla))
   rw[this.2];exact h2 j _ hx
  ·exact((l2 j _ c hx hj).says w S u (h3 j _ u hx hu)).1⟩
theorem DLe.sl {sz:Nat} {full:Bool} {xs ys:List D} (h:ys.length=xs.length/\∀(j:Nat) (x y:D),xs[j]? =some x->ys[j]? =some y->A6r x.cells y.cells):DLe (.sl sz full xs) (.sl sz full ys):=⟨λw S v hv=>by
 obtain⟨l1,l2⟩:=h
 cases hv with
 |sl _ _ _ a cap b off uf h1 h2 h3 h4 h5 h6 h7=>
  have get:∀(j:Nat) (y:D),ys[j]? =some y->∃x,xs[j]? =some x:=λj y hj=>by
   have hlt:j<xs.length:=by rw[<-l1];exact(A4.1 hj).1
   exact⟨_,A3 hlt⟩
  have key:∀(i:Nat) (y:D) (j:Nat) (c:D),ys[i]? =some y->y.cells[j]? =some c->∃x c',xs[i]? =some x/\x.cells[j]? =some c'/\DLe c' c:=λi y j c hi hj=>by
   obtain⟨x,hx⟩:=get i y hi
   obtain⟨m1,m2⟩:=(l2 i x y hx hi).spec
   have hlt:j<x.cells.length:=by rw[<-m1];exact(A4.1 hj).1
   exact⟨x,_,hx,A3 hlt,m2 j _ c (A3 hlt) hj⟩
  rw[<-l1]
  refine⟨.sl _ _ _ a cap b off uf (by rw[l1];exact h1) (by rw[l1];exact h2) (λe=>E7 (by rw[l1,h3 e];rfl)) (λe=>h4 λe'=>e (E7 (by rw[l1,e'];rfl))) (λi y hi=> ?_) (λi y j c hi hj=> ?_) (λi y j c hi hj=> ?_),rfl⟩
  ·obtain⟨x,hx⟩:=get i y hi
   rw[(l2 i x y hx hi).spec.1];exact h5 i x hx
  ·obtain⟨x,c',hx,hc,hle⟩:=key i y j c hi hj
   obtain⟨f1,f2,f3⟩:=h6 i x j c' hx hc
   exact⟨by rw[(hle.says w S _ (h7 i x j c' hx hc)).2];exact f1,f2,f3⟩
  ·obtain⟨x,c',hx,hc,hle⟩:=key i y j c hi hj
   exact(hle.says w S _ (h7 i x j c' hx hc)).1⟩
def VLe:V->V->Prop
 | .d x,y=>match y with
   | .d y=>DLe x y
   |_=>False
 | .tup xs,y=>match y with
   | .tup ys=>VLesT xs ys
   |_=>False
 |x,y=>x=y
where VLesT:List V->List V->Prop
 |[],ys=>ys=[]
 |x::xs,ys=>match ys with
  |[]=>False
  |y::ys=>(match x,y with
   | .d x,.d y=>DLe x y
   |x,y=>x=y)/\VLesT xs ys
def LY:List V->List V->Prop
 |[],ys=>ys=[]
 |x::xs,ys=>match ys with
  |[]=>False
  |y::ys=>VLe x y/\LY xs ys
theorem VLesT.spec:∀{xs ys:List V},VLe.VLesT xs ys->ys.length=xs.length/\∀(j:Nat) (x y:V),xs[j]? =some x->ys[j]? =some y->∀{w S h β v},VR w S h β x v->VR w S h β y v
 |[],ys,h=>by
  have h:ys=[]:=h
  subst h;simp
 |x::xs,[],h=>h.elim
 |x::xs,y::ys,h=>by
  obtain⟨i1,i2⟩:=VLesT.spec h.2
  refine⟨by simp[i1],λj a b ha hb=> ?_⟩
  cases j with
  |zero=>
   simp at ha hb;subst ha;subst hb
   intro w S h' β v hv
   have hh:=h.1
   split at hh
   ·cases hv with
    |d hd=>exact .d (hh.says w S v hd).1
   ·subst hh;exact hv
  |succ j=>exact i2 j a b (by simpa using ha) (by simpa using hb)
theorem VLe.vr {x y:V} (h:VLe x y) {w:World} {S:Stb} {hp:Hp} {β:Bet} {v:Value} (hv:VR w S hp β x v):VR w S hp β y v:=by
 cases x with
 |d x=>
  cases y with
  |d y=>cases hv with
   |d hd=>exact .d (DLe.says h w S v hd).1
  |_=>exact h.elim
 |tup xs=>
  cases y with
  |tup ys=>
   obtain⟨l1,l2⟩:=VLesT.spec h
   cases hv with
   |tup _ arr h1 h2=>
    refine .tup ys arr (by rw[h1,l1]) λj c u hj hu=> ?_
    have hlt:j<xs.length:=by rw[<-l1];exact(A4.1 hj).1
    exact l2 j _ c (A3 hlt) hj (h2 j _ u (A3 hlt) hu)
  |_=>exact h.elim
 |_=>have h:_=y:=h;subst h;exact hv
theorem LY.vrs:∀{xs ys:List V},LY xs ys->ys.length=xs.length/\∀(j:Nat) (x y:V),xs[j]? =some x->ys[j]? =some y->VLe x y
 |[],ys,h=>by
  have h:ys=[]:=h
  subst h;simp
 |x::xs,[],h=>h.elim
 |x::xs,y::ys,h=>by
  obtain⟨i1,i2⟩:=LY.vrs h.2
  refine⟨by simp[i1],λj a b ha hb=> ?_⟩
  cases j with
  |zero=>simp at ha hb;subst ha;subst hb;exact h.1
  |succ j=>exact i2 j a b (by simpa using ha) (by simpa using hb)
theorem C9.le {f:FuncId} {args args':List V} {v:V} (hle:LY args args') (h:C9 P f args' v):C9 P f args v:=λw S hp β argv hr hv=>by
 obtain⟨l1,l2⟩:=hle.vrs
 refine h w S hp β argv hr ⟨by rw[l1];exact hv.1,λj c u hj hu=> ?_⟩
 have hlt:j<args.length:=by rw[<-l1];exact(A4.1 hj).1
 exact(l2 j _ c (A3 hlt) hj).vr (hv.2 j _ u (A3 hlt) hu)
theorem T8.le {f:FuncId} {args args':List V} {sz:Nat} {ys:List D} (hle:LY args args') (h:T8 P f args' sz ys):T8 P f args sz ys:=λw S hp β argv n hn hr hv=>by
 obtain⟨l1,l2⟩:=hle.vrs
 refine h w S hp β argv n hn hr ⟨by rw[l1];exact hv.1,λj c u hj hu=> ?_⟩
 have hlt:j<args.length:=by rw[<-l1];exact(A4.1 hj).1
 exact(l2 j _ c (A3 hlt) hj).vr (hv.2 j _ u (A3 hlt) hu)
def E5 (ds:List D):V:=UG (ds.map .d)
theorem RJ {E:Env} (hE:E.Ok P) {f:FuncId} {fn:Func} (hf:P.funcs[f]? =some fn) (hname:(fn.name== "runtime.NumGoroutine")=false) (hN:E.N=fn.ntmps) {args:List V} (hargs:args.all (nmV 0)=true)
 (hsz:args.length<=fn.ntmps) {r:List D} (hx:mK E fn args [] λv h=>eO v h λds=>VLe (nG v ds) (E5 r)):C9 P f args (E5 r):=by
 intro w S h β argv hr hv
 have hc:=X9 hE hf hname hN hsz hx w S [] argv (rQ hr.old hr.glob) ⟨hv.1,λj c u hj hu=>by
  exact(hv.2 j c u hj hu).nil (C5.1 hargs _ (A7 hj))⟩
 have key:∀(cv:Value) (w':World),(∃v h' S' β',(eO v h' λds=>VLe (nG v ds) (E5 r))/\HR w' S' h' β'/\VR w' S' h' β' v cv/\F7 w S [] [] w' S' h' β')->
  ∃S' β',HR w' S' h β'/\VR w' S' h β' (E5 r) cv/\F7 w S h β w' S' h β':=λcv w' ⟨v,h',S',β',hk,hr',hv',hE'⟩=>by
  obtain⟨ds,hd,hh⟩:=kH hk
  obtain⟨S2,h2,r2,e2,d2⟩:=hh w' S' β' cv hr' hv'
  have eT:=hE'.trans e2
  refine⟨S2,β,?_⟩
  have E2:F7 w S h β w' S2 h β:=by
   refine⟨eT.outer,eT.size,λi hi _=>eT.frame i hi ?_,eT.shape,eT.loops,eT.froz,eT.sub,λb o hs=> ?_,eT.cell,λb hb=>.inl hb,B1 _,λm b hm=>⟨b,hm,BEv.refl _ _⟩⟩
   ·rintro⟨m,p,hm⟩;simp at hm
   ·rcases eT.new b o hs with h|h|⟨m,p,hm⟩
    ·exact .inl h
    ·exact .inr (.inl h)
    ·simp at hm
  have stays:∀b',b'<w.heap.size->w'.heap[b']? =w.heap[b']? /\∀o,S2 b' o->S b' o:=λb' hlt=>by
   refine⟨eT.frame b' hlt (by rintro⟨m,p,hm⟩;simp at hm),λo ho=> ?_⟩
   rcases eT.new b' o ho with h|h|⟨m,p,hm⟩
   ·exact h
   ·omega
   ·simp at hm
  exact⟨⟨hr.len,λm b hm=>BR.keep E2 rfl (λ_ r b p ht=>⟨ht,stays b (hr.tlt r b p ht)⟩) (λb' p hb'=>stays b' (hr.lt hb')) (hr.blk m b hm),hr.inj,r2.old,r2.glob,λr b p ht=>D3 (hr.tlt r b p ht) eT.size,hr.one⟩,hd.vr (d2 h β),E2⟩
 exact bC.mono (hc) key
def EZ (sz:Nat) (v:V) (h:Hp) (k:List D->Prop):Prop:=match v with
 | .sref n ver lo len _=>dV h n λb=>match b with
   | .row ver' sz' ro xs=>match ro with
     |false=>X4 (Nat.beq sz' sz) (Chk (ver=ver'/\lo+len<=xs.length) (Nam ((xs.drop lo).take len) λys=>k ys))
     |true=>False
   |_=>False
 | .d (.sl _ full xs)=>match full,xs with
   |true,[]=>X4 (Nat.blt 0 sz) (k [])
   |_,_=>False
 |_=>False
theorem WG {E:Env} (hE:E.Ok P) {f:FuncId} {fn:Func} (hf:P.funcs[f]? =some fn) (hname:(fn.name== "runtime.NumGoroutine")=false) (hN:E.N=fn.ntmps) {args:List V} (hargs:args.all (nmV 0)=true)
 (hsz:args.length<=fn.ntmps) {sz:Nat} {r:List D} (hx:mK E fn args [] λv h=>EZ sz v h λys=>ys=r):T8 P f args sz r:=by
 intro w S h β argv n hn hr hv
 have hc:=X9 hE hf hname hN hsz hx w S [] argv (rQ hr.old hr.glob) ⟨hv.1,λj c u hj hu=>by
  exact(hv.2 j c u hj hu).nil (C5.1 hargs _ (A7 hj))⟩
 have hnl:n<h.length:=(A4.1 hn).1
 have hnb:n<β.length:=D3 hnl hr.len
 have hnone:β[n]? =some none:=by have:=hr.blk n _ hn;simpa[BR] using this
 have key:∀(cv:Value) (w':World),(∃v h' S' β',(EZ sz v h' λys=>ys=r)/\HR w' S' h' β'/\VR w' S' h' β' v cv/\F7 w S [] [] w' S' h' β')->
  ∃S' β',HR w' S' (h.set n (.row 0 sz false r)) β'/\VR w' S' (h.set n (.row 0 sz false r)) β' (.sref n 0 0 r.length false) cv/\F7 w S h β w' S' (h.set n (.row 0 sz false r)) β':=λcv w' ⟨v,h',S',β',hk,hr',hv',eT⟩=>by
  have core:∀(p:Option (Nat×Nat)),(∀b q,p=some (b,q)->img β' b)->(F7 w S h β w' S' (h.set n (.row 0 sz false r)) (β.set n p)->BR w' S' (h.set n (.row 0 sz false r)) (β.set n p) n (.row 0 sz false r))->
   HR w' S' (h.set n (.row 0 sz false r)) (β.set n p)/\F7 w S h β w' S' (h.set n (.row 0 sz false r)) (β.set n p):=λp hp hbr=>by
   have hnew:∀b q,p=some (b,q)->w.heap.size<=b:=λb q e=>by
    rcases eT.imgs b (hp b q e) with⟨m,q',hm⟩|h
    ·simp at hm
    ·exact h
   have J3:(β.set n p)[n]? =some p:=by simp[hnb]
   have E2:F7 w S h β w' S' (h.set n (.row 0 sz false r)) (β.set n p):=by
    refine⟨eT.outer,eT.size,λi hi _=>eT.frame i hi ?_,eT.shape,eT.loops,eT.froz,eT.sub,λb o hs=> ?_,eT.cell,λb hb=> ?_,by simp,λm b hm=> ?_⟩
    ·rintro⟨m,p,hm⟩;simp at hm
    ·rcases eT.new b o hs with h|h|⟨m,p,hm⟩
     ·exact .inl h
     ·exact .inr (.inl h)
     ·simp at hm
    ·obtain⟨m,q,hm⟩:=hb
     by_cases hmn:m=n
     ·subst hmn
      rw[J3] at hm
      exact .inr (hnew b q (by simpa using hm))
     ·rw[C3 (N9 hmn)] at hm
      exact .inl ⟨m,q,hm⟩
    ·by_cases hmn:m=n
     ·subst hmn
      rw[hn] at hm;cases hm
      exact⟨_,by simp[hnl];rfl,trivial⟩
     ·exact⟨b,by rw[C3 (N9 hmn)];exact hm,by rw[C3 (N9 hmn)];exact BEv.refl _ _⟩
   have stays:∀b',b'<w.heap.size->w'.heap[b']? =w.heap[b']? /\∀o,S' b' o->S b' o:=λb' hlt=>by
    refine⟨eT.frame b' hlt (by rintro⟨m,p,hm⟩;simp at hm),λo ho=> ?_⟩
    rcases eT.new b' o ho with h|h|⟨m,p,hm⟩
    ·exact h
    ·omega
    ·simp at hm
   refine⟨⟨by simpa using hr.len,λm b hm=> ?_,λm1 m2 b q1 q2 h1 h2=> ?_,hr'.old,hr'.glob,λr b p ht=>by rw[tM hnl] at ht;exact D3 (hr.tlt r b p ht) eT.size,vP hr.one hn (λh=>nomatch h)⟩,E2⟩
   ·by_cases hmn:m=n
    ·subst hmn
     have:b=.row 0 sz false r:=by simpa[hnl] using hm.symm
     subst this
     exact hbr E2
    ·rw[C3 (N9 hmn)] at hm
     exact BR.keep E2 (by rw[C3 (N9 hmn)]) (λ_ r b p ht=>⟨by rw[tM hnl];exact ht,stays b (hr.tlt r b p ht)⟩) (λb' p hb'=>stays b' (hr.lt hb')) (hr.blk m b hm)
   ·have hcase:∀m q,(β.set n p)[m]? =some (some (b,q))->(m≠n/\β[m]? =some (some (b,q)))∨(m=n/\p=some (b,q)):=by
     intro m q hm
     by_cases hmn:m=n
     ·subst hmn;rw[J3] at hm;exact .inr ⟨rfl,by simpa using hm⟩
     ·rw[C3 (N9 hmn)] at hm;exact .inl ⟨hmn,hm⟩
    rcases hcase m1 q1 h1 with⟨a1,a2⟩|⟨a1,a2⟩<;>rcases hcase m2 q2 h2 with⟨b1,b2⟩|⟨b1,b2⟩
    ·exact hr.inj _ _ _ _ _ a2 b2
    ·exact absurd (hr.lt a2) (by have:=hnew _ _ b2;omega)
    ·exact absurd (hr.lt b2) (by have:=hnew _ _ a2;omega)
    ·omega
  have hget:(h.set n (.row 0 sz false r))[n]? =some (.row 0 sz false r):=by simp[hnl]
  have empty:0<sz->r=[]->(∃a,cv=.slice a 0 0)->∃S' β',HR w' S' (h.set n (.row 0 sz false r)) β'/\VR w' S' (h.set n (.row 0 sz false r)) β' (.sref n 0 0 r.length false) cv/\F7 w S h β w' S' (h.set n (.row 0 sz false r)) β':=λhs hre ⟨a,hcv⟩=>by
   subst hre;subst hcv
   obtain⟨c1,c2⟩:=core none (by simp) λE=>⟨hs,by simp,.inl ⟨rfl,by simp[hnb]⟩⟩
   refine⟨S',_,c1,.sref rfl ⟨a,0,rfl,B1 _,by simp,?_⟩,c2⟩
   rw[hget]
   exact⟨B1 _,λ_=>.inl ⟨by simp[hnb],rfl⟩⟩
  unfold EZ at hk
  split at hk
  ·rename_i m ver lo len full
   obtain⟨blk,hm,hk⟩:=O6.1 hk
   split at hk
   case h_2=>exact hk.elim
   rename_i ver' sz' ro xs
   cases ro with
   |true=>exact hk.elim
   |false=>
   simp only[] at hk
   obtain⟨hs0,hk1⟩:=(J1 _ _).1 hk
   clear hk
   have hs:=B2 hs0
   clear hs0
   subst hs
   obtain⟨⟨hver,hl⟩,hk2⟩:=hk1.elim
   clear hk1
   subst hver
   have hk:(xs.drop lo).take len=r:=hk2.elim
   cases hv' with
   |sref v1 v2=>
    obtain⟨a,cap,rfl,hc1,hc2,hp⟩:=v2
    simp only[hm] at hp
    obtain⟨_,hp⟩:=hp
    obtain⟨b0,b1,b2⟩:=hr'.blk m _ hm
    have hrl:r.length=len:=by rw[<-hk];simp;omega
    rcases hp trivial with⟨hno,rfl⟩|⟨b,base,cells,elem,fz,q1,q2,q3,q4⟩
    ·have hl0:len=0:=by omega
     subst hl0
     exact empty b0 (E7 hrl) ⟨a,rfl⟩
    ·rcases b2 with⟨rfl,hno⟩|⟨b',base',c,e,k1,k2,k3,k4,k5⟩
     ·rw[q1] at hno;simp at hno
     ·rw[q1] at k1;simp at k1;obtain⟨rfl,rfl⟩:=k1
      rw[q3] at k2;cases k2
      have hg:∀{i:Nat} {x:D},r[i]? =some x->xs[lo+i]? =some x:=by rw[<-hk];exact bM
      obtain⟨c1,c2⟩:=core (some (b,base+lo*sz')) (λb2 q e=>by cases e;exact⟨m,base,q1⟩) λE=>by
       refine⟨b0,λi x hx=>b1 _ x (hg hx),.inr ⟨b,base+lo*sz',cells,elem,by simp[hnb],q3,?_,λi x j y hx hy=> ?_,λo ho=>absurd (k5 o ho).1 (by simp)⟩⟩
       ·have:(lo+len)*sz'<=xs.length*sz':=D6 _ hl
        rw[hrl];rw[H5] at this;omega
       ·obtain⟨u,u1,u2⟩:=k4 (lo+i) x j y (hg hx) hy
        exact⟨u,by rw[H5,<-aP] at u1;exact u1,u2⟩
      refine⟨S',_,c1,.sref rfl ⟨a,cap,by rw[hrl],by rw[hrl];exact hc1,by simp,?_⟩,c2⟩
      rw[hget]
      refine⟨B1 _,λ_=>.inr ⟨b,base+lo*sz',cells,elem,(0,0),by simp[hnb],λh=>by simpa using q2 h,q3,?_⟩⟩
      rw[C1];rw[H5] at q4;omega
  ·split at hk
   ·obtain⟨hs,hk⟩:=(J1 _ _).1 hk
    have hs:0<sz:=B5 hs
    cases hv' with
    |d hd=>
     cases hd with
     |sl _ _ _ a cap b off uf h1 h2 h3=>exact empty hs hk.symm ⟨a,by rw[h2 rfl];rfl⟩
   ·exact hk.elim
  ·exact hk.elim
 exact bC.mono (hc) key
def QT (T:TT) (kt:TypeId) (es:List (D×D)) (v:V) (h:Hp):Prop:=match v with
 | .map n=>dV h n λb=>match b with
   | .map T' kt' es'=>T'=T/\kt'=kt/\es'=es
   |_=>False
 |_=>False
theorem WH {E:Env} (hE:E.Ok P) {f:FuncId} {fn:Func} (hf:P.funcs[f]? =some fn) (hname:(fn.name== "runtime.NumGoroutine")=false) (hN:E.N=fn.ntmps) {args:List V} (hargs:args.all (nmV 0)=true)
 (hsz:args.length<=fn.ntmps) {T:TT} {kt:TypeId} {es:List (D×D)} (hx:mK E fn args [] λv h=>QT T kt es v h):pB P f args T kt es:=by
 intro w S h β argv n hn hr hv
 have hc:=X9 hE hf hname hN hsz hx w S [] argv (rQ hr.old hr.glob) ⟨hv.1,λj c u hj hu=>by
  exact(hv.2 j c u hj hu).nil (C5.1 hargs _ (A7 hj))⟩
 have hnl:n<h.length:=(A4.1 hn).1
 have hnb:n<β.length:=D3 hnl hr.len
 have hnone:β[n]? =some none:=by have:=hr.blk n _ hn;simpa[BR] using this
 have key:∀(cv:Value) (w':World),(∃v h' S' β',QT T kt es v h'/\HR w' S' h' β'/\VR w' S' h' β' v cv/\F7 w S [] [] w' S' h' β')->
  ∃S' β',HR w' S' (h.set n (.map T kt es)) β'/\VR w' S' (h.set n (.map T kt es)) β' (.map n) cv/\F7 w S h β w' S' (h.set n (.map T kt es)) β':=λcv w' ⟨v,h',S',β',hk,hr',hv',eT⟩=>by
  have core:∀(p:Option (Nat×Nat)),(∀b q,p=some (b,q)->img β' b)->(F7 w S h β w' S' (h.set n (.map T kt es)) (β.set n p)->BR w' S' (h.set n (.map T kt es)) (β.set n p) n (.map T kt es))->
   HR w' S' (h.set n (.map T kt es)) (β.set n p)/\F7 w S h β w' S' (h.set n (.map T kt es)) (β.set n p):=λp hp hbr=>by
   have hnew:∀b q,p=some (b,q)->w.heap.size<=b:=λb q e=>by
    rcases eT.imgs b (hp b q e) with⟨m,q',hm⟩|h
    ·simp at hm
    ·exact h
   have J3:(β.set n p)[n]? =some p:=by simp[hnb]
   have E2:F7 w S h β w' S' (h.set n (.map T kt es)) (β.set n p):=by
    refine⟨eT.outer,eT.size,λi hi _=>eT.frame i hi ?_,eT.shape,eT.loops,eT.froz,eT.sub,λb o hs=> ?_,eT.cell,λb hb=> ?_,by simp,λm b hm=> ?_⟩
    ·rintro⟨m,p,hm⟩;simp at hm
    ·rcases eT.new b o hs with h|h|⟨m,p,hm⟩
     ·exact .inl h
     ·exact .inr (.inl h)
     ·simp at hm
    ·obtain⟨m,q,hm⟩:=hb
     by_cases hmn:m=n
     ·subst hmn
      rw[J3] at hm
      exact .inr (hnew b q (by simpa using hm))
     ·rw[C3 (N9 hmn)] at hm
      exact .inl ⟨m,q,hm⟩
    ·by_cases hmn:m=n
     ·subst hmn
      rw[hn] at hm;cases hm
      exact⟨_,by simp[hnl];rfl,trivial⟩
     ·exact⟨b,by rw[C3 (N9 hmn)];exact hm,by rw[C3 (N9 hmn)];exact BEv.refl _ _⟩
   have stays:∀b',b'<w.heap.size->w'.heap[b']? =w.heap[b']? /\∀o,S' b' o->S b' o:=λb' hlt=>by
    refine⟨eT.frame b' hlt (by rintro⟨m,p,hm⟩;simp at hm),λo ho=> ?_⟩
    rcases eT.new b' o ho with h|h|⟨m,p,hm⟩
    ·exact h
    ·omega
    ·simp at hm
   refine⟨⟨by simpa using hr.len,λm b hm=> ?_,λm1 m2 b q1 q2 h1 h2=> ?_,hr'.old,hr'.glob,λr b p ht=>by rw[tM hnl] at ht;exact D3 (hr.tlt r b p ht) eT.size,vP hr.one hn (λh=>nomatch h)⟩,E2⟩
   ·by_cases hmn:m=n
    ·subst hmn
     have:b=.map T kt es:=by simpa[hnl] using hm.symm
     subst this
     exact hbr E2
    ·rw[C3 (N9 hmn)] at hm
     exact BR.keep E2 (by rw[C3 (N9 hmn)]) (λ_ r b p ht=>⟨by rw[tM hnl];exact ht,stays b (hr.tlt r b p ht)⟩) (λb' p hb'=>stays b' (hr.lt hb')) (hr.blk m b hm)
   ·have hcase:∀m q,(β.set n p)[m]? =some (some (b,q))->(m≠n/\β[m]? =some (some (b,q)))∨(m=n/\p=some (b,q)):=by
     intro m q hm
     by_cases hmn:m=n
     ·subst hmn;rw[J3] at hm;exact .inr ⟨rfl,by simpa using hm⟩
     ·rw[C3 (N9 hmn)] at hm;exact .inl ⟨hmn,hm⟩
    rcases hcase m1 q1 h1 with⟨a1,a2⟩|⟨a1,a2⟩<;>rcases hcase m2 q2 h2 with⟨b1,b2⟩|⟨b1,b2⟩
    ·exact hr.inj _ _ _ _ _ a2 b2
    ·exact absurd (hr.lt a2) (by have:=hnew _ _ b2;omega)
    ·exact absurd (hr.lt b2) (by have:=hnew _ _ a2;omega)
    ·omega
  have hget:(h.set n (.map T kt es))[n]? =some (.map T kt es):=by simp[hnl]
  unfold QT at hk
  split at hk
  ·rename_i m
   obtain⟨blk,hm,hk⟩:=O6.1 hk
   split at hk
   case h_2=>exact hk.elim
   obtain⟨rfl,rfl,rfl⟩:=hk
   have hbm:=hr'.blk m _ hm
   obtain⟨b,mes,clock,k1,k2,k3,k4,k5,k6⟩:=hbm
   cases hv' with
   |map h1 h2=>
    have h3:=h2 (by rw[hm];simp)
    rw[k1] at h3
    simp only[W8,iJ,and_true] at h3
    subst h3
    obtain⟨c1,c2⟩:=core (some (b,0)) (λb2 q e=>by cases e;exact⟨m,0,k1⟩) λE=>⟨b,mes,clock,by simp[hnb],k2,k3,k4,k5,k6⟩
    exact⟨S',_,c1,.map (by rw[hget];trivial) (λ_=>by simp[hnb]),c2⟩
  ·exact hk.elim
 exact bC.mono (hc) key
end Go.PM
namespace Go.PM
variable [CN]
variable {P:Program}
def LJ:vB->Go.LoopState
 | .ready=>.ready
 | .busy=>.busy
 | .done=>.done
 | .exhausted=>.exhausted
theorem zN {w:World} {S:Stb} {h:Hp} {β:Bet} (hr:HR w S h β) {n N:Nat} {st:vB} {pe:Option Code} {ts:Tm} {ps:List Tmp} {qs body:Code} (hn:h[n]? =some (.loop st pe N ts ps qs body)) (st':vB) (pe':Option Code):
 ∃b l,β[n]? =some (some (b,0))/\w.heap[b]? =some (.loop l)/\l.pending=pe/\l.params.toList=ps/\l.assign=qs/\l.body=body/\l.tmps.size=N/\TR w S h β ts l.tmps/\l.state=LJ st/\
  HR (w.putObj b (.loop {l with state:=LJ st',pending:=pe'})) S (h.set n (.loop st' pe' N ts ps qs body)) β/\
  F7 w S h β (w.putObj b (.loop {l with state:=LJ st',pending:=pe'})) S (h.set n (.loop st' pe' N ts ps qs body)) β:=by
 obtain⟨b,l,h1,h2,h3,h4,h5,h6,h7,h8,h9,h10⟩:=hr.blk n _ hn
 have hlt:b<w.heap.size:=(C4.1 h2).1
 refine⟨b,l,h1,h2,h3,h4,h5,h6,h7,h8,by rw[h10];cases st<;>rfl,?_⟩
 have J3:β.set n (some (b,0))=β:=fT h1
 have hnew:=World.putObj_heap_same (w:=w) (o:=.loop {l with state:=LJ st',pending:=pe'}) hlt
 have hoth:∀i,i≠b->(w.putObj b (.loop {l with state:=LJ st',pending:=pe'})).heap[i]? =w.heap[i]? :=λi hi=>World.putObj_heap_other hi
 have:=upd hr hn (blk':=.loop st' pe' N ts ps qs body) (w':=w.putObj b (.loop {l with state:=LJ st',pending:=pe'})) (some (b,0)) (by simp) (λi _ hne=>hoth i (λe=>hne 0 (by rw[e];exact h1)))
  (λi p c e f hp hi=>by rw[h1] at hp;simp at hp;obtain⟨rfl,_⟩:=hp;rw[h2] at hi;simp at hi)
  (λi p l' hp hi=>by rw[h1] at hp;simp at hp;obtain⟨rfl,_⟩:=hp;exact⟨_,hnew⟩)
  (λa=>by
    by_cases ha:a.block=b
    ·unfold World.frozen?;simp only[ha,hnew,h2]
    ·exact World.frozen?_of_block (hoth _ ha))
  (λi p o hp hs=>by rw[h1] at hp;simp at hp;obtain⟨rfl,_⟩:=hp;exact absurd hs (h9 o))
  (λb' p hb'=>.inl ⟨0,by cases hb';exact h1⟩) (by rw[h1];exact .inr ⟨⟨_,_,_,_,_,_,_,rfl⟩,rfl⟩)
  (λE=>⟨b,_,by rw[J3];exact h1,hnew,rfl,h4,h5,h6,h7,λt=>(h8 t).evol E,h9,by cases st'<;>rfl⟩)
 rw[J3] at this
 exact this
theorem A0x {w:World} {S:Stb} {h:Hp} {β:Bet} (hr:HR w S h β) (o:Obj) (ho:∀c t f,o≠.cells c t f):HR (w.alloc o) S h β/\F7 w S h β (w.alloc o) S h β:=by
 have E:F7 w S h β (w.alloc o) S h β:=by
  refine⟨⟨⟨rfl,rfl⟩,rfl,B1 _⟩,by simp,λi hi _=>xW w o i hi,λi c e f hi=>⟨c,by rw[xW w o i (C4.1 hi).1];exact hi,rfl⟩,λi l hi=>⟨l,by rw[xW w o i (C4.1 hi).1];exact hi⟩,
   λa _=>jV w o ho a,λ_ _ h=>h,λ_ _ h=>.inl h,λb o' hs=>World.cell?_of_block (a:=⟨b,o',none⟩) (xW w o b (hr.old b o' hs)),λ_ h=>.inl h,B1 _,λ_ b hb=>⟨b,hb,BEv.refl _ _⟩⟩
 exact⟨⟨hr.len,λn b hn=>BR.keep E rfl (λ_ r b p ht=>⟨ht,xW w o b (hr.tlt r b p ht),λ_ h=>h⟩) (λb' p hb=>⟨xW w o b' (hr.lt hb),λ_ h=>h⟩) (hr.blk n b hn),hr.inj,λb o' hs=>D3 (hr.old b o' hs) E.size,hr.glob.evol E,λr b p ht=>D3 (hr.tlt r b p ht) E.size,hr.one⟩,E⟩
def B2n (N:Nat):List Tmp->List V->Tm->(Tm->Prop)->Prop
 |[],vs,ts,k=>match vs with
  |[]=>k ts
  |_=>False
 |p::ps,vs,ts,k=>match vs with
  |[]=>False
  |v::vs=>match Nat.ble (p+1) N with
   |true=>B2n N ps vs ((p,v)::ts) k
   |false=>False
theorem MC {N:Nat}:∀(ps:List Tmp) (vs:List V) (ts:Tm) (k:Tm->Prop),B2n N ps vs ts k->ps.length=vs.length/\∃ts',k ts'/\∀(w:World) (S:Stb) (h:Hp) (β:Bet) (tmps:Array Value) (args:List Value),TR w S h β ts tmps->tmps.size=N->
 args.length=vs.length->(∀(j:Nat) (c:V) (u:Value),vs[j]? =some c->args[j]? =some u->VR w S h β c u)->
 TR w S h β ts' ((ps.zip args).foldl (λtmps (t,a)=>tmps.setIfInBounds t a) tmps)/\((ps.zip args).foldl (λtmps (t,a)=>tmps.setIfInBounds t a) tmps).size=N
 |[],[],ts,k,hk=>⟨rfl,ts,hk,λw S h β tmps args ht hs _ _=>by simpa using⟨ht,hs⟩⟩
 |[],_::_,ts,k,hk=>hk.elim
 |p::ps,[],ts,k,hk=>hk.elim
 |p::ps,v::vs,ts,k,hk=>by
  simp only[B2n] at hk
  split at hk
  ·rename_i hp
   have hp:p<N:=B5 hp
   obtain⟨hl,ts',hk,hh⟩:=MC ps vs _ k hk
   refine⟨by simp[hl],ts',hk,λw S h β tmps args ht hs ha hv=> ?_⟩
   cases args with
   |nil=>simp at ha
   |cons a args=>
    simp only[H8,dX]
    exact hh w S h β _ args (A2d (a:={tmps:=tmps,defers:=[]}) ht (by rw[hs];exact hp) (hv 0 v a rfl rfl)) (by simpa using hs) (by simpa using ha) λj c u hj hu=>hv (j+1) c u (by simpa using hj) (by simpa using hu)
  ·exact hk.elim
def XZ (E:Env) (nm:Nat) (vs:List V) (h:Hp) (k:V->Hp->Prop):Prop:=
 dV h nm λb=>match b with
  | .loop .ready none N ts ps qs body=>X4 (Nat.beq N E.N) (B2n N ps vs ts λts1=>bH E qs ts1 h λe ts2 h2=>match e with
    | .normal=>dV h2 nm λb2=>match b2 with
      | .loop .ready pe2 N2 ts2' ps2 as2 body2=>iI h2 nm (.loop .busy pe2 N2 ts2' ps2 as2 body2) λh3=>bH E body ts2 h3 λe ts4 h4=>dV h4 nm λb4=>match b4 with
        | .loop _ _ N4 ts4' ps4 as4 body4=>match e with
          | .normal=>iI h4 nm (.loop .ready none N4 ts4' ps4 as4 body4) λh5=>k (.d (.b true)) h5
          | .exit id=>iI h4 nm (.loop .done (some (.exit id)) N4 ts4' ps4 as4 body4) λh5=>k (.d (.b false)) h5
          | .ret=>iI h4 nm (.loop .done (some .ret) N4 ts4' ps4 as4 body4) λh5=>k (.d (.b false)) h5
        |_=>False
      |_=>False
    |_=>False)
  |_=>False
theorem A8f {w:World} {S:Stb} {h:Hp} {β:Bet} {ts:Tm} {tmps:Array Value} {N l:Nat} {r:Loop} (hr:HR w S h β) (ht:TR w S h β ts tmps) (hs:tmps.size=N) (hl:w.heap[l]? =some (.loop r)):
 St N ⟨some l,w.heap.size,[]⟩ {tmps:=tmps,defers:=[]} w S ts h β:=
 ⟨hr,ht,hs,⟨[],[],rfl,.nil,by simp⟩,λl' h'=>by cases h';exact⟨r,hl⟩,B1 _⟩
theorem xY {w w':World} {S S':Stb} {h h':Hp} {β β':Bet} (E:F7 w S h β w' S' h' β') (hr':HR w' S' h' β') {n N b:Nat} {st st':vB} {pe pe':Option Code} {ts ts':Tm} {ps ps':List Tmp} {qs as' body body':Code} {N':Nat}
 (hn:h[n]? =some (.loop st pe N ts ps qs body)) (hb:β[n]? =some (some (b,0))) (hn':h'[n]? =some (.loop st' pe' N' ts' ps' as' body')):β'[n]? =some (some (b,0)):=by
 obtain⟨x,h1,h2⟩:=E.blk n _ hn
 rw[hn'] at h1;cases h1
 rcases h2 with h2|⟨_,h2⟩
 ·cases h2
 ·rw[h2,hb]
theorem A3i {E:Env} (hE:E.Ok P) (o:Oper) (c:Call) (f:Operand) (nm:Nat) (vs:List V) (h:Hp) (k:V->Hp->Prop) (hop:o.op=.call c) (hc:c.callee=.value f) (hx:XZ E nm vs h k)
 (n:Nat) (ro:Option Nat) (a:Act) (w:World) (S:Stb) (β:Bet) (hr:HR w S h β) (hf:VR w S h β (.yld nm) (a.eval f)) (hor:OR w S h β a.eval c.args.toList vs)
 (next:Act->World->Prop) (Q:Exit->Act->World->Prop)
 (hk:∀v h' w' S' β' cv,k v h'->HR w' S' h' β'->VR w' S' h' β' v cv->F7 w S h β w' S' h' β'->next (a.put o.dst cv) w'):o.wpIn (FF ro) n P a w next Q:=by
 unfold XZ at hx
 obtain⟨b0,hn,hx⟩:=O6.1 hx
 split at hx
 case h_2=>exact hx.elim
 rename_i N ts ps qs body
 obtain⟨hN,hx⟩:=(J1 _ _).1 hx
 have hN:N=E.N:=B2 hN
 subst hN
 obtain⟨b,l,g1,g2,g3,g4,g5,g6,g7,g8,g9,_⟩:=zN hr hn .ready none
 generalize hfe:a.eval f=fe at hf
 cases hf with
 | @yld _ b' y1 y2=>
   have hb':=y2 (by rw[hn];simp)
   rw[g1] at hb';simp at hb';subst hb'
   obtain⟨z1,ts1,hx,z2⟩:=MC _ _ _ _ hx
   have hargs:(c.args.map a.eval).size=l.params.size:=by
    have e1:=hor.1
    have e2:l.params.toList.length=ps.length:=by rw[g4]
    simp at e1 e2 ⊢;omega
   refine⟨λf _=>FF.all ro f,?_⟩
   rw[Oper.semAt_eq _ _ _ (λc' h=>by rw[hop] at h;cases h)]
   have hrun:(execOp a.eval o).run P w=(Instr.yield b (c.args.map a.eval)).run P w:=by
    simp[execOp,hop,resolve,hc,Deferred.ofValue,hfe,invoke]
   rw[hrun,run_yield g2 hargs,Oper.uponIn_round]
   refine⟨λh=>by simp[FF,Fence.wide] at h,?_⟩
   rw[g5,g6]
   have hz:(l.params.zip (c.args.map a.eval)).foldl (λtmps (t,a)=>tmps.setIfInBounds t a) l.tmps=(ps.zip (c.args.toList.map a.eval)).foldl (λtmps (t,a)=>tmps.setIfInBounds t a) l.tmps:=by
    rw[<-Array.foldl_toList,Array.toList_zip,g4,Array.toList_map]
   obtain⟨t1,t2⟩:=z2 w S h β l.tmps (c.args.toList.map a.eval) g8 g7 (by have:=hor.1;simp at this ⊢;omega) λj y v hj hv=>by
    simp only[A8,F0] at hv
    obtain⟨x,hx,rfl⟩:=hv
    exact hor.2 j x y hx hj
   refine roundIn_of_wpIn (FF.all ro _) ?_
   have hst:=A8f hr t1 t2 g2
   have ha:=bP hE qs _ _ _ hx (n-1) ⟨some b,w.heap.size,[]⟩ _ w S β hst
   rw[show(l.params.zip (c.args.map a.eval)).foldl (λtmps (t,a)=>tmps.setIfInBounds t a) l.tmps=(ps.zip (c.args.toList.map a.eval)).foldl (λtmps (t,a)=>tmps.setIfInBounds t a) l.tmps from hz]
   refine wpIn_mono ha λe a1 w1 hp=> ?_
   obtain⟨x,rfl,ts2,h2,S2,β2,hx,hs2,E2⟩:=hp
   cases x with
   |exit id=>exact hx.elim
   |ret=>exact hx.elim
   |normal=>
    simp only[] at hx
    obtain⟨b2,hn2,hx⟩:=O6.1 hx
    split at hx
    case h_2=>exact hx.elim
    rename_i pe2 N2 ts2' ps2 as2 body2
    have hx:=(aG.1 hx).2
    obtain⟨b',l2,q1,q2,q3,q4,q5,q6,q7,q8,q9,q10,q11⟩:=zN hs2.hr hn2 .busy pe2
    have hbb:=xY E2 hs2.hr hn g1 hn2
    rw[q1] at hbb;simp at hbb;subst hbb
    have hst2:l2.state=.ready:=q9
    have hl2:{l2 with state:=LJ vB.busy,pending:=pe2}={l2 with state:=.busy}:=by rw[<-q3];rfl
    rw[hl2] at q10 q11
    refine⟨_,run_beginRound q2 hst2,?_⟩
    have hb:=bP hE body _ _ _ hx (n-1) ⟨some b',w.heap.size,[]⟩ _ _ S2 β2 (hs2.evol q11 q10)
    refine wpIn_mono hb λe a3 w3 hp=> ?_
    obtain⟨x,rfl,ts4,h4,S4,β4,hx,hs4,E4⟩:=hp
    obtain⟨b4,hn4,hx⟩:=O6.1 hx
    split at hx
    case h_2=>exact hx.elim
    rename_i N4 ts4' ps4 as4 body4
    have hn3:(h2.set nm (Blk.loop .busy pe2 N2 ts2' ps2 as2 body2))[nm]? =some (.loop .busy pe2 N2 ts2' ps2 as2 body2):=by
     have:=(A4.1 hn2).1
     simp[this]
    have fin:∀(jump:Option Code) (hx:iI h4 nm (.loop (if jump.isNone then .ready else .done) jump N4 ts4' ps4 as4 body4) λh5=>k (.d (.b jump.isNone)) h5),
     ∃v w',(Instr.endRound b' jump).run P w3=.ok v w'/\next (a.put o.dst v) w':=λjump hx=>by
     have hx:=(aG.1 hx).2
     obtain⟨b5,l5,p1,p2,p3,p4,p5,p6,p7,p8,p9,p10,p11⟩:=zN hs4.hr hn4 (if jump.isNone then .ready else .done) jump
     have hbb:=xY E4 hs4.hr hn3 q1 hn4
     rw[p1] at hbb;simp at hbb;subst hbb
     refine⟨_,_,run_endRound jump p2,?_⟩
     have hl5:{l5 with state:=LJ (if jump.isNone then vB.ready else .done),pending:=jump}={l5 with state:=if jump.isNone then Go.LoopState.ready else .done,pending:=jump}:=by
      cases jump<;>rfl
     rw[hl5] at p10 p11
     exact hk _ _ _ S4 β4 _ hx p10 (.d (.b _)) (E2.trans (q11.trans (E4.trans p11)))
    cases x with
    |normal=>exact fin none hx
    |exit id=>exact fin (some (.exit id)) hx
    |ret=>exact fin (some .ret) hx
structure E6 (P:Program) (f:FuncId) (args:List V) (h:Hp) (k:V->Hp->Prop):Prop where
 wrap::
 holds:M4 P f args h k
structure H6 (P:Program) (f:FuncId) (args:List V) (h:Hp) (k:Res->Prop):Prop where
 wrap::
 holds:∃r,k r/\B5j P f args h r
structure L3 (P:Program) (N:Nat) (c:Code) (ts:Tm) (h:Hp) (k:Ex->Tm->Hp->Prop):Prop where
 wrap::
 holds:LP P N c ts h k
structure CP (P:Program) (N:Nat) (g:Operand) (ps:List Tmp) (qs body:Code) (ts:Tm) (h:Hp) (k:Ex->Tm->Hp->Prop):Prop where
 wrap::
 holds:AWP P N (.rangeFunc g ps.toArray qs body) ts h k
def RN (P:Program) (T:TT) (N:Nat) (yld:Nat->List V->Hp->(V->Hp->Prop)->Prop):Env where
 T:=T
 N:=N
 weak:=WkS N
 call:=E6 P
 yld:=yld
 pcall:=λf args h k=>H6 P f args h k
 loop:=L3 P N
 range:=CP P N
def noYld:Nat->List V->Hp->(V->Hp->Prop)->Prop:=λ_ _ _ _=>False
def P9 (P:Program) (T:TT) (N:Nat):Env:=RN P T N noYld
def yM (E:Env) (n:Nat):Nat->List V->Hp->(V->Hp->Prop)->Prop:=λnm vs h k=>match Nat.beq nm n with
 |true=>XZ E nm vs h k
 |false=>E.yld nm vs h k
def B5i (P:Program) (yld:Nat->List V->Hp->(V->Hp->Prop)->Prop):Prop:=
 ∀(o:Oper) (c:Call) (f:Operand) (nm:Nat) vs h k,o.op=.call c->c.callee=.value f->yld nm vs h k->
  ∀(n:Nat) (ro:Option Nat) (a:Act) (w:World) (S:Stb) (β:Bet),HR w S h β->VR w S h β (.yld nm) (a.eval f)->OR w S h β a.eval c.args.toList vs->
   ∀(next:Act->World->Prop) (Q:Exit->Act->World->Prop),
    (∀v h' w' S' β' cv,k v h'->HR w' S' h' β'->VR w' S' h' β' v cv->F7 w S h β w' S' h' β'->next (a.put o.dst cv) w')->o.wpIn (FF ro) n P a w next Q
theorem FU {E:Env} (hE:E.Ok P) (n:Nat):B5i P (yM E n):=λo c f nm vs h k ho hc hx=>by
 unfold yM at hx
 split at hx
 ·exact A3i hE o c f nm vs h k ho hc hx
 ·exact hE.yld o c f nm vs h k ho hc hx
theorem FI {T:TT} {N:Nat} {yld} (hy:B5i P yld) (hT:W9 P T=true) (hm:P.follows .mixedOrders=true):(RN P T N yld).Ok P where
 weak:=λ_ _ _ h=>h
 types:=hT
 mixed:=hm
 call:=λf args h k hx=>by
  have hx:E6 P f args h k:=hx
  exact hx.holds
 pcall:=λf args h k hx=>by
  have hx:H6 P f args h k:=hx
  exact hx.holds
 yld:=hy
 loop:=λc ts h k hx=>by
  have hx:L3 P N c ts h k:=hx
  exact .of_LP hx.holds
 range:=λg ps qs body ts h k hx=>by
  have hx:CP P N g ps.toList qs body ts h k:=hx
  have hx2:AWP P N (.rangeFunc g ps qs body) ts h k:=by simpa using hx.holds
  exact hx2
theorem I6 {T:TT} {N:Nat} (hT:W9 P T=true) (hm:P.follows .mixedOrders=true):(P9 P T N).Ok P:=FI (λ_ _ _ _ _ _ _ _ _ hx=>hx.elim) hT hm
theorem C9.callV {f:FuncId} {args:List V} {h:Hp} {k:V->Hp->Prop} {v:V} (hc:C9 P f args v) (hk:k v h):M4 P f args h k:=by
 intro w S β argv hr hv
 have:=hc w S h β argv hr hv
 rcases this with⟨h1,h2⟩|⟨v',w',h1,S',β',h2⟩
 ·refine .inl ⟨h1,λcs=> ?_⟩
  obtain⟨e,w',fr,⟨cv,he,S',β',g1,g2,g3⟩,r⟩:=h2 cs
  exact⟨e,w',fr,⟨cv,he,v,h,S',β',hk,g1,g2,g3⟩,r⟩
 ·exact .inr ⟨v',w',h1,v,h,S',β',hk,h2⟩
theorem E6.of {f:FuncId} {args:List V} {h:Hp} {k:V->Hp->Prop} {v:V} (hc:C9 P f args v) (hk:k v h):E6 P f args h k:=by
 exact⟨hc.callV hk⟩
theorem E6.ofV {f:FuncId} {args:List V} {h:Hp} {k:V->Hp->Prop} (hc:M4 P f args h k):E6 P f args h k:=by
 exact⟨hc⟩
theorem H6.of {f:FuncId} {args:List V} {h:Hp} {k:Res->Prop} {v:V} (hc:C9 P f args v) (hk:k (.d v)):H6 P f args h k:=by
 exact⟨.d v,hk,hc⟩
theorem H6.ofRow {f:FuncId} {args:List V} {h:Hp} {k:Res->Prop} {sz:Nat} {ys:List D} (hc:T8 P f args sz ys) (hk:k (.row sz ys)):H6 P f args h k:=by
 exact⟨.row sz ys,hk,hc⟩
theorem E6.ofRow {f:FuncId} {args:List V} {h:Hp} {k:V->Hp->Prop} {sz:Nat} {ys:List D} (hc:T8 P f args sz ys)
 (hk:cT.lenOfK h λn=>ER h [.row 0 sz false ys] λh'=>k (.sref n 0 0 ys.length false) h'):E6 P f args h k:=by
 have hk:=iH _ _ _ (cU _ _ hk)
 refine .ofV λw S β argv hr hv=> ?_
 obtain⟨β0,r1,e1⟩:=iT hr 1
 have hres:(h++List.replicate 1 Blk.res)[h.length]? =some .res:=by simp
 have J3:(h++List.replicate 1 Blk.res).set h.length (.row 0 sz false ys)=h++[.row 0 sz false ys]:=by simp
 rcases hc w S _ β0 argv h.length hres r1 ⟨hv.1,λj c u hj hu=>(hv.2 j c u hj hu).evol e1⟩ with⟨h1,h2⟩|⟨cv,w',h1,S',β',g1,g2,g3⟩
 ·refine .inl ⟨h1,λcs=> ?_⟩
  obtain⟨e,w',fr,⟨cv,he,S',β',g1,g2,g3⟩,r⟩:=h2 cs
  rw[J3] at g1 g2 g3
  exact⟨e,w',fr,⟨cv,he,_,_,S',β',hk,g1,g2,e1.trans g3⟩,r⟩
 ·rw[J3] at g1 g2 g3
  exact .inr ⟨cv,w',h1,_,_,S',β',hk,g1,g2,e1.trans g3⟩
theorem H6.ofMap {f:FuncId} {args:List V} {h:Hp} {k:Res->Prop} {T:TT} {kt:TypeId} {es:List (D×D)} (hc:pB P f args T kt es) (hk:k (.map T kt es)):H6 P f args h k:=by
 exact⟨.map T kt es,hk,hc⟩
theorem E6.ofMap {f:FuncId} {args:List V} {h:Hp} {k:V->Hp->Prop} {T:TT} {kt:TypeId} {es:List (D×D)} (hc:pB P f args T kt es)
 (hk:cT.lenOfK h λn=>ER h [.map T kt es] λh'=>k (.map n) h'):E6 P f args h k:=by
 have hk:=iH _ _ _ (cU _ _ hk)
 refine .ofV λw S β argv hr hv=> ?_
 obtain⟨β0,r1,e1⟩:=iT hr 1
 have hres:(h++List.replicate 1 Blk.res)[h.length]? =some .res:=by simp
 have J3:(h++List.replicate 1 Blk.res).set h.length (.map T kt es)=h++[.map T kt es]:=by simp
 rcases hc w S _ β0 argv h.length hres r1 ⟨hv.1,λj c u hj hu=>(hv.2 j c u hj hu).evol e1⟩ with⟨h1,h2⟩|⟨cv,w',h1,S',β',g1,g2,g3⟩
 ·refine .inl ⟨h1,λcs=> ?_⟩
  obtain⟨e,w',fr,⟨cv,he,S',β',g1,g2,g3⟩,r⟩:=h2 cs
  rw[J3] at g1 g2 g3
  exact⟨e,w',fr,⟨cv,he,_,_,S',β',hk,g1,g2,e1.trans g3⟩,r⟩
 ·rw[J3] at g1 g2 g3
  exact .inr ⟨cv,w',h1,_,_,S',β',hk,g1,g2,e1.trans g3⟩
theorem E6.body {E:Env} (hE:E.Ok P) {f:FuncId} {fn:Func} (hf:P.funcs[f]? =some fn) (hname:(fn.name== "runtime.NumGoroutine")=false) (hN:E.N=fn.ntmps) {args:List V} {h:Hp} {k:V->Hp->Prop}
 (hsz:args.length<=fn.ntmps) (hx:mK E fn args h k):E6 P f args h k:=.ofV (X9 hE hf hname hN hsz hx)
theorem A0o {f:FuncId} {args:List V} {h:Hp} {k:V->Hp->Prop} (hc:O3 args h λargs' h'=>M4 P f args' h' k):M4 P f args h k:=by
 intro w S β argv hr hv
 obtain⟨ds,h',hk,hl,hds⟩:=Y5 _ _ _ hc
 obtain⟨S',r1,e1,d1⟩:=hds w S β hr argv.toList (by simpa using hv.1) λj c u hj hu=>hv.2 j c u hj (by simpa using hu)
 rcases hk w S' β argv r1 ⟨by rw[hl];exact hv.1,λj c u hj hu=>d1 j c u hj (by simpa using hu)⟩ with⟨h1,h2⟩|⟨cv,w',h1,v,h2,S2,β2,hkv,g1,g2,g3⟩
 ·refine .inl ⟨h1,λcs=> ?_⟩
  obtain⟨e,w',fr,⟨cv,he,v,h2,S2,β2,hkv,g1,g2,g3⟩,r⟩:=h2 cs
  exact⟨e,w',fr,⟨cv,he,v,h2,S2,β2,hkv,g1,g2,e1.trans g3⟩,r⟩
 ·exact .inr ⟨cv,w',h1,v,h2,S2,β2,hkv,g1,g2,e1.trans g3⟩
theorem E6.lift {f:FuncId} {args:List V} {h:Hp} {k:V->Hp->Prop} (hc:O3 args h λargs' h'=>E6 P f args' h' k):E6 P f args h k:=by
 refine .ofV (A0o ?_)
 have:(λargs' h'=>E6 P f args' h' k)=λargs' h'=>M4 P f args' h' k:=by
  funext args' h'
  exact propext ⟨λh=>h.holds,λh=>⟨h⟩⟩
 rw[<-this]
 exact hc
def jC (ts:Tm):Tm->Prop
 |[]=>True
 |p::r=>look ts p.1=p.2/\jC ts r
theorem jC.mem {ts:Tm}:∀{l:Tm},jC ts l->∀p∈l,look ts p.1=p.2
 |q::r,h,p,hp=>by
  cases hp with
  |head=>exact h.1
  |tail _ hp=>exact jC.mem h.2 p hp
theorem L3.of {E:Env} (hE:E.Ok P) {c:Code} {ts:Tm} {h:Hp} {k:Ex->Tm->Hp->Prop} {X:Type} (tsx:X->Tm) (hx:X->Hp) (Inv:X->Prop) (μ:X->Nat) (x0:X) (ht:jC ts (tsx x0)) (hh:h=hx x0) (h0:Inv x0)
 (round:∀x,Inv x->bH E c (tsx x) (hx x) λe ts h=>match e with
   | .normal=>∃y,Wm E.N (hx x0).length ts h (tsx y) (hx y)/\Inv y/\μ y<μ x
   |e=>k e ts h):L3 P E.N c ts h k:=by
 subst hh
 refine⟨?_⟩
 refine LP.weak (Wk.tmps ht.mem) (LP.loop tsx hx Inv μ x0 h0 λx hi=>AWP.mono (λe ts h hk=> ?_) (bP hE c _ _ _ (round x hi)))
 cases e<;>exact hk
theorem Wm.fin {N m:Nat} {ts ts':Tm} {h h':Hp} (n:Nat) (hn:m<=n) (ht:jC ts ts') (hh:h.take n=h') (h1:ts'.all (λp=>nmV n p.2)=true) (h2:h'.all (tZ n)=true):Wm N m ts h ts' h':=by
 subst hh
 exact(Wk.tmps ht.mem).wm.trans (Wm.drop hn h1 h2)
def A9w (ts:Tm) (h:Hp) (k:Ex->Tm->Hp->Prop):Option Code->Prop
 |none=>k .normal ts h
 |some .ret=>k .ret ts h
 |some (.exit id)=>k (.exit id) ts h
 |_=>False
def B0t (ts:Tm) (n:Nat) (h:Hp) (k:Ex->Tm->Hp->Prop):Prop:=
 dV h n λb=>match b with
  | .loop st pe N ts' ps qs body=>match st with
    | .busy=>False
    |_=>iI h n (.loop .exhausted pe N ts' ps qs body) λh'=>A9w ts h' k pe
  |_=>False
theorem A0b {E:Env} (hE:E.Ok P) {f:FuncId} {fn:Func} (hf:P.funcs[f]? =some fn) (hname:(fn.name== "runtime.NumGoroutine")=false) (hN:E.N=fn.ntmps) {args:List V} {h:Hp} {k:V->Hp->Prop}
 (hsz:args.length<=fn.ntmps) (hx:mK E fn args h k) (w:World) (S:Stb) (β:Bet) (argv:Array Value) (hr:HR w S h β) (hv:VRs w S h β args argv):
 (callFunc f argv).run P w=.ok (.enter f argv) w/\Calls P f argv w λe w'=>∃v,e=.returned v/\∃va h' S' β',k va h'/\HR w' S' h' β'/\VR w' S' h' β' va v/\F7 w S h β w' S' h' β':=by
 have hb:∃c,fn.body=some c:=by
  cases hb:fn.body with
  |none=>simp[mK,hb] at hx
  |some c=>exact⟨c,rfl⟩
 obtain⟨c,hb⟩:=hb
 have he:=Go.MuLone.run_callFunc_enter hf hname hb argv w
 rcases X9 hE hf hname hN hsz hx w S β argv hr hv with h|⟨v,w',h1,_⟩
 ·exact h
 ·rw[he] at h1;cases h1
theorem CP.body {E:Env} (hE:E.Ok P) {T2:TT} (hT2:W9 P T2=true) (hm:P.follows .mixedOrders=true) {g:Operand} {ps:List Tmp} {qs body:Code} {ts:Tm} {h:Hp} {k:Ex->Tm->Hp->Prop} {gf:FuncId} {cap:List V} {fn:Func}
 (hg:evK ts g λv=>v=.fn gf cap) (hf:P.funcs[gf]? =some fn) (hname:(fn.name== "runtime.NumGoroutine")=false) (hsz:cap.length+1<=fn.ntmps)
 (hx:cT.lenOfK h λn=>ER h [.loop .ready none E.N ts ps qs body] λh1=>mK (RN P T2 fn.ntmps (yM E n)) fn (.yld n::cap) h1 λ_ h'=>B0t ts n h' k):CP P E.N g ps qs body ts h k:=by
 refine⟨?_⟩
 have hx:=iH _ _ _ (cU _ _ hx)
 have hg:=gC _ _ _ hg
 intro n C a w S β hs
 have hE2:(RN P T2 fn.ntmps (yM E h.length)).Ok P:=FI (FU hE _) hT2 hm
 obtain⟨lb,hlb1,hlb2⟩:∃lb,a.eval g=.func (.func gf) #[] lb/\VRs w S h β cap lb:=by
  have:=rS hs.hr.glob hs.tr g
  rw[hg] at this
  generalize hge:a.eval g=ge at this
  cases this with
  |fn _ _ arr h1 h2=>exact⟨arr,rfl,h1,h2⟩
 refine wpIn_rangeFunc λfid hfid=> ?_
 have lay:∃(l:Nat) (mark:List Deferred) (w₁:World) (β1:Bet),(Instr.enterLoop fid a.tmps ps.toArray qs body (FF C.ro).round).run P w=.ok (l,mark) w₁/\
  HR w₁ S (h++[.loop .ready none E.N ts ps qs body]) β1/\F7 w S h β w₁ S (h++[.loop .ready none E.N ts ps qs body]) β1/\β1[h.length]? =some (some (l,0))/\
  (∀d∈mark,∃r,d.target=.collected r/\w.heap.size<=r/\w₁.heap[r]? =some (.deferred (some []))/\¬img β1 r)/\mark.length<=1:=by
  have core:∀(w':World) (D:Nat),HR w' S h β->F7 w S h β w' S h β->
   ∃β1,HR (w'.alloc (.loop {state:=.ready,pending:=none,fn:=fid,tmps:=a.tmps,params:=ps.toArray,assign:=qs,body,defers:=D})) S (h++[.loop .ready none E.N ts ps qs body]) β1/\
    F7 w S h β (w'.alloc (.loop {state:=.ready,pending:=none,fn:=fid,tmps:=a.tmps,params:=ps.toArray,assign:=qs,body,defers:=D})) S (h++[.loop .ready none E.N ts ps qs body]) β1/\β1[h.length]? =some (some (w'.heap.size,0))/\
    (∀r,r<w'.heap.size->¬img β r->¬img β1 r):=λw' D hr' hE'=>by
   obtain⟨β0,r1,e1⟩:=iT hr' 1
   have hres:(h++List.replicate 1 Blk.res)[h.length]? =some .res:=by simp
   have J3:(h++List.replicate 1 Blk.res).set h.length (.loop .ready none E.N ts ps qs body)=h++[.loop .ready none E.N ts ps qs body]:=by simp
   have ht':TR w' S h β ts a.tmps:=λt=>(hs.tr t).evol hE'
   obtain⟨r2,e2⟩:=wG r1 hres (.loop {state:=.ready,pending:=none,fn:=fid,tmps:=a.tmps,params:=ps.toArray,assign:=qs,body,defers:=D}) (.loop .ready none E.N ts ps qs body) 0
    (jV _ _ (by intro c t f h;cases h)) λE3 hno hb hheap=>⟨_,_,hb,hheap,rfl,by simp,rfl,rfl,hs.size,λt=>((ht' t).evol e1).evol E3,hno,rfl⟩
   rw[J3] at r2 e2
   have hl0:h.length<β0.length:=by have:=r1.len;simp at this;omega
   refine⟨_,r2,hE'.trans (e1.trans e2),by simp[hl0],λr hlt hni=> ?_⟩
   rintro hi
   rcases e2.imgs r hi with hi|hi
   ·rcases e1.imgs r hi with hi|hi
    ·exact hni hi
    ·omega
   ·omega
  cases hro:C.ro with
  |none=>
   obtain⟨a1,a2⟩:=A0x hs.hr (.deferred (some [])) (by intro c t f h;cases h)
   obtain⟨β1,c1,c2,c3,c4⟩:=core (w.alloc (.deferred (some []))) w.heap.size a1 a2
   refine⟨_,_,_,β1,run_enterLoop_outer fid a.tmps ps.toArray qs body,c1,c2,by rw[c3,World.size_alloc],λd hd=> ?_,by simp⟩
   simp only[H9] at hd;subst hd
   have hsz:w.heap.size<(w.alloc (.deferred (some []))).heap.size:=by show w.heap.size<(w.heap.push _).size;simp
   refine⟨w.heap.size,rfl,B1 _,?_,c4 _ hsz λ⟨m,p,hm⟩=> ?_⟩
   ·rw[xW _ _ _ hsz];exact World.alloc_heap_new w _
   ·have:=hs.hr.lt hm;omega
  |some l0=>
   obtain⟨r0,hr0⟩:=hs.round l0 hro
   obtain⟨β1,c1,c2,c3,_⟩:=core w r0.defers hs.hr (F7.refl _ _ _ _)
   refine⟨w.heap.size,[],_,β1,?_,c1,c2,c3,by simp,by simp⟩
   show(Instr.enterLoop fid a.tmps ps.toArray qs body (some l0)).run P w=_
   unfold Instr.enterLoop
   simp only[Sem.run_bind,run_getLoop hr0,run_newObj_alloc,Result.andThen,Sem.run_pure]
 obtain⟨l,mark,w₁,β1,l1,l2,l3,l4,l5,l6⟩:=lay
 have hcap:VRs w₁ S (h++[.loop .ready none E.N ts ps qs body]) β1 (.yld h.length::cap) (#[.func (.yield l) #[] #[]]++lb):=by
  refine⟨by simp[hlb2.1];omega,λj c u hj hu=> ?_⟩
  cases j with
  |zero=>
   simp at hj;subst hj
   have:(#[Value.func (.yield l) #[] #[]]++lb)[0]? =some (.func (.yield l) #[] #[]):=by
    rw[V6 (by simp)];rfl
   rw[this] at hu;cases hu
   exact .yld (by simp[yA]) λ_=>l4
  |succ j=>
   rw[wJ (by simp)] at hu
   exact(hlb2.2 j c u (by simpa using hj) (by simpa using hu)).evol l3
 obtain⟨k1,k2⟩:=A0b hE2 hf hname rfl (by simpa using hsz) hx w₁ S β1 _ l2 hcap
 refine⟨l,mark,w₁,{target:=.fn (.func gf) lb,args:= #[.func (.yield l) #[] #[]]},w₁,gf,_,w₁,l1,?_,λf' _=>FF.all C.ro f',?_,λh=>by simp[FF,Fence.wide] at h,CallsIn.mono (gW.2 k2) λe w' he=> ?_⟩
 ·simp only[resolve,hlb1]
  simp[go_sem]
 ·simp only[invoke]
  exact k1
 ·obtain⟨v,rfl,va,h',S',β',hk,q1,q2,q3⟩:=he
  unfold B0t at hk
  obtain⟨b3,hn3,hk⟩:=O6.1 hk
  split at hk
  case h_2=>exact hk.elim
  rename_i st pe N3 ts3 ps3 as3 body3
  have hn1:(h++[Blk.loop .ready none E.N ts ps qs body])[h.length]? =some (.loop .ready none E.N ts ps qs body):=by simp
  obtain⟨b4,l',p1,p2,p3,_,_,_,_,_,p9,p10,p11⟩:=zN q1 hn3 .exhausted pe
  have hbb:=xY q3 q1 hn1 l4 hn3
  rw[p1] at hbb;simp at hbb;subst hbb
  have hp:{l' with state:=LJ vB.exhausted,pending:=pe}={l' with state:=.exhausted}:=by rw[<-p3];rfl
  rw[hp] at p10 p11
  have hnb:st≠.busy:=by rintro rfl;exact hk.elim
  have hk:iI h' h.length (.loop .exhausted pe N3 ts3 ps3 as3 body3) λh''=>A9w ts h'' k pe:=by
   cases st
   ·exact hk
   ·exact hk.elim
   ·exact hk
   ·exact hk
  have hk:=(aG.1 hk).2
  have eT:=l3.trans (q3.trans p11)
  have hst:St E.N C {a with defers:=mark++a.defers} (w'.putObj b4 (.loop {l' with state:=.exhausted})) S' ts (h'.set h.length (.loop .exhausted pe N3 ts3 ps3 as3 body3)) β':=by
   have h0:=hs.evol eT p10
   obtain⟨ms,ms2,ems,hms'⟩:=hs.marks
   have hms:=hms'.evol eT
   refine⟨h0.hr,h0.tr,h0.size,⟨mark++ms,ms2,by rw[D5,<-ems],?_,λd hd=> ?_⟩,h0.round,h0.base⟩
   all_goals try rw[D5] at*
   ·refine jL.2 ⟨?_,hms.1,λd hd e he=> ?_⟩
    ·match mark,l6 with
     |[],_=>exact .nil
     |[x],_=>exact .cons (by simp) .nil
    ·obtain⟨r,r1,r2,_,_⟩:=l5 d hd
     obtain⟨r',s1,_,s3,_⟩:=hms'.2 e he
     rw[r1,s1]
     intro hh
     have:r=r':=by simpa using hh
     have:=(C4.1 s3).1
     omega
   ·rcases K0.1 hd with hd|hd
    ·obtain⟨r,r1,r2,r3,r4⟩:=l5 d hd
     have e2:=q3.trans p11
     have hlt:=(C4.1 r3).1
     refine⟨r,r1,F5 hs.base r2,by rw[e2.frame r hlt r4];exact r3,λhi=> ?_⟩
     rcases e2.imgs r hi with hi|hi
     ·exact r4 hi
     ·omega
    ·exact hms.2 d hd
  refine⟨pe,_,by rw[<-p3];exact run_endLoop p2 (by rw[p9];cases st<;>simp[LJ] at hnb ⊢),?_⟩
  have hP:∀(x:Ex),k x ts (h'.set h.length (.loop .exhausted pe N3 ts3 ps3 as3 body3))->lZ E.N C w S h β k (nU x) {a with defers:=mark++a.defers} (w'.putObj b4 (.loop {l' with state:=.exhausted})):=λx hk=>(lZ.here x hst hk).then eT
  unfold A9w at hk
  split at hk
  ·exact hP .normal hk
  ·exact wpIn_ret (hP .ret hk)
  ·exact wpIn_exit (hP (.exit _) hk)
  ·exact hk.elim
abbrev I (n:Int):D:=.i .i64 n
abbrev B (x:Bool):D:=.b x
theorem A6t (i:Nat) (h:i<9223372036854775807):IntKind.i64.wrap ((i:Int)+1)=((i+1:Nat):Int):=by
 rw[EY (by omega)];omega
theorem dI {α:Type} {l:List α} {i:Nat} (h:i<l.length):∃x,l[i]? =some x/\l.drop i=x::l.drop (i+1):=
 ⟨l[i],A3 h,dM h⟩
theorem D4 {α β:Type} {f:α->β} {l:List α} {i:Nat} {x:α} (h:l[i]? =some x):(l.map f)[((i:Nat):Int).toNat]? =some (f x):=by simp[h]
def over (ov ts:Tm):Tm:=ov++ts.filter λp=> !(ov.any λq=>Nat.beq p.1 q.1)
def J3:Hp->List (Nat×Blk)->Hp
 |h,[]=>h
 |h,p::r=>J3 (h.set p.1 p.2) r
theorem L3.at {E:Env} (hE:E.Ok P) {c:Code} {ts:Tm} {h:Hp} {k:Ex->Tm->Hp->Prop} {X:Type} (tv:X->Tm) (hv:X->List (Nat×Blk)) (Inv:X->Prop) (μ:X->Nat) (x0:X) (ht:jC ts (over (tv x0) ts)) (hh:h=J3 h (hv x0)) (h0:Inv x0)
 (round:∀x,Inv x->bH E c (over (tv x) ts) (J3 h (hv x)) λe ts' h'=>match e with
   | .normal=>∃y,Wm E.N h.length ts' h' (over (tv y) ts) (J3 h (hv y))/\Inv y/\μ y<μ x
   |e=>k e ts' h'):L3 P E.N c ts h k:=by
 refine L3.of hE (X:=X) (λx=>over (tv x) ts) (λx=>J3 h (hv x)) Inv μ x0 ht hh h0 λx hi=> ?_
 have:=round x hi
 rw[<-hh]
 exact this
theorem qP.skip {N:Nat} {ts:Tm} {h:Hp} {k k2:Tm->Hp->Prop} (hk:k ts h):qP (WkS N) ts h k k2:=qP.mk ts h Wk.refl hk
theorem Wm.end {N m:Nat} {ts ts':Tm} {h h':Hp} (ht:jC ts ts') (hh:h.take m=h') (h1:ts'.all (λp=>nmV m p.2)=true) (h2:h'.all (tZ m)=true):Wm N m ts h ts' h':=
 Wm.fin m (B1 _) ht hh h1 h2
theorem Nam.dec {x:Bool} {p:Prop} [Decidable p] {K:Bool->Prop} (e:x=decide p) (a:p->K true) (b:¬p->K false):Nam x K:=by
 refine Nam.mk rfl ?_
 rw[e]
 by_cases h:p
 ·rw[C2 h];exact a h
 ·rw[B6 h];exact b h
theorem E6.ofB {f:FuncId} {args:List V} {h:Hp} {k:V->Hp->Prop} {x:Bool} (hc:C9 P f args (E5 [.b x])) (a:x=true->k (.d (.b true)) h) (b:x=false->k (.d (.b false)) h):E6 P f args h k:=by
 refine E6.of hc ?_
 cases x
 ·exact b rfl
 ·exact a rfl
theorem H6.ofB {f:FuncId} {args:List V} {h:Hp} {k:Res->Prop} {x:Bool} (hc:C9 P f args (E5 [.b x])) (a:x=true->k (.d (.d (.b true)))) (b:x=false->k (.d (.d (.b false)))):H6 P f args h k:=by
 refine H6.of hc ?_
 cases x
 ·exact b rfl
 ·exact a rfl
abbrev SL (sz:Nat) (xs:List D):D:=.sl sz false xs
theorem E6.le {f:FuncId} {args args':List V} {h:Hp} {k:V->Hp->Prop} {v:V} (hle:LY args args') (hc:C9 P f args' v) (hk:k v h):E6 P f args h k:=.of (hc.le hle) hk
theorem VLe.refl (v:V):VLe v v:=by
 cases v with
 |d x=>exact DLe.refl x
 |tup xs=>
  show VLe.VLesT xs xs
  induction xs with
  |nil=>rfl
  |cons x xs ih=>
   refine⟨?_,ih⟩
   cases x<;>first|exact DLe.refl _|rfl
 |_=>rfl
theorem VLe.d {x y:D} (h:DLe x y):VLe (.d x) (.d y):=h
theorem MA.both {p:Prop} {K:Bool->Prop} (a:p->K true) (b:K false):MA p K:=⟨⟨a,b⟩⟩
theorem Wk.virtT {N:Nat} {ts:Tm} {h:Hp} {t a sz:Nat} (ro:Bool) (hsz:0<sz) (ht:look ts t=.d (.sl a true [])):Wk N ts h ((t,.sref h.length 0 0 0 false)::ts) (h++[.row 0 sz ro []]):=λC act w S β hs=>by
 obtain⟨β0,r1,e1⟩:=iT hs.hr 1
 have hres:(h++List.replicate 1 Blk.res)[h.length]? =some .res:=by simp
 have hnone:β0[h.length]? =some none:=by have:=r1.blk _ _ hres;simpa[BR] using this
 have J3:(h++List.replicate 1 Blk.res).set h.length (.row 0 sz ro [])=h++[.row 0 sz ro []]:=by simp
 have hv:=hs.tr t
 rw[ht] at hv
 obtain⟨ad,had⟩:∃ad,act.tmps.getD t undef=.slice ad 0 0:=by
  generalize act.tmps.getD t undef=cv at hv
  cases hv with
  |d hd=>cases hd with
   |sl _ _ _ ad cap b off uf h1 h2=>exact⟨ad,by rw[h2 rfl];rfl⟩
 obtain⟨r2,e2,v2⟩:=kN r1 hres hnone 0 sz ro hsz trivial ad
 rw[J3] at r2 e2 v2
 have h0:=hs.evol (e1.trans e2) r2
 refine⟨S,β0,⟨r2,λt'=> ?_,h0.size,h0.marks,h0.round,h0.base⟩,e1.trans e2⟩
 simp only[look]
 cases hb:Nat.beq t t' with
 |true=>
  have:=B2 hb
  subst this
  rw[had];exact v2
 |false=>exact h0.tr t'
theorem L3.weak {N:Nat} {c:Code} {ts ts':Tm} {h h':Hp} {k:Ex->Tm->Hp->Prop} (hw:Wk N ts h ts' h') (hl:L3 P N c ts' h' k):L3 P N c ts h k:=⟨LP.weak hw hl.holds⟩
theorem L3.virt {N:Nat} {c:Code} {ts:Tm} {h:Hp} {k:Ex->Tm->Hp->Prop} (t a sz:Nat) (ro:Bool) (hsz:0<sz) (ht:look ts t=.d (.sl a true []))
 (hl:cT.lenOfK h λn=>ER h [.row 0 sz ro []] λh'=>L3 P N c ((t,.sref n 0 0 0 false)::ts) h' k):L3 P N c ts h k:=
 L3.weak (Wk.virtT ro hsz ht) (iH _ _ _ (cU _ _ hl))
theorem U9 {α:Type} {p:α->Bool} {a:α} {l:List α} (h:p a=true) (hl:l.all p=true):(a::l).all p=true:=by rw[AO,h,hl];rfl
theorem whole {α:Type} {l:List α} {n:Nat} (h:n=l.length):(l.drop 0).take n=l:=by subst h;simp
def A3e (P:Program) (N:Nat) (c:Code) (k:Ex->Tm->Hp->Prop):Nat->Tm->Hp->Prop
 |0,_,_=>False
 |n+1,ts,h=>AWP P N c ts h λe ts' h'=>match e with
  | .normal=>A3e P N c k n ts' h'
  |e=>k e ts' h'
theorem AWP.rounds {N:Nat} {c:Code} {k:Ex->Tm->Hp->Prop} {n:Nat} {ts:Tm} {h:Hp} (hl:A3e P N c k n ts h):LP P N c ts h k:=by
 refine LP.loop (X:=Nat×Tm×Hp) (λx=>x.2.1) (λx=>x.2.2) (λx=>A3e P N c k x.1 x.2.1 x.2.2) (λx=>x.1) (n,ts,h) hl ?_
 rintro⟨m,ts1,h1⟩ hi
 cases m with
 |zero=>exact hi.elim
 |succ m=>
  refine AWP.mono (λe ts2 h2 hk=> ?_) hi
  cases e with
  |normal=>exact⟨(m,ts2,h2),Wk.refl.wm,hk,DX m⟩
  |exit id=>exact hk
  |ret=>exact hk
structure yL (P:Program) (N:Nat) (c:Code) (n:Nat) (ts:Tm) (h:Hp) (k:Ex->Tm->Hp->Prop):Prop where
 wrap::
 holds:A3e P N c k n ts h
theorem L3.rounds {N:Nat} {c:Code} {ts:Tm} {h:Hp} {k:Ex->Tm->Hp->Prop} (n:Nat) (hl:yL P N c n ts h k):L3 P N c ts h k:=⟨AWP.rounds hl.holds⟩
theorem yL.step {E:Env} (hE:E.Ok P) {c:Code} {n:Nat} {ts:Tm} {h:Hp} {k:Ex->Tm->Hp->Prop}
 (hx:bH E c ts h λe ts' h'=>match e with
   | .normal=>yL P E.N c n ts' h' k
   |e=>k e ts' h'):yL P E.N c (n+1) ts h k:=by
 refine⟨AWP.mono (λe ts2 h2 hk=> ?_) (bP hE c _ _ _ hx)⟩
 cases e with
 |normal=>exact hk.holds
 |exit id=>exact hk
 |ret=>exact hk
theorem Wk.virtC {N:Nat} {ts:Tm} {h:Hp} {n i a sz:Nat} {cs:List D} (ro:Bool) (hsz:0<sz) (hn:h[n]? =some (.vard cs)) (hi:cs[i]? =some (.sl a true [])):
 Wk N ts h ts ((h++[Blk.row 0 sz ro []]).set n (.var ((cs.map V.d).set i (.sref h.length 0 0 0 false)))):=λC act w S β hs=>by
 have hil:i<cs.length:=(A4.1 hi).1
 have hnl:n<h.length:=(A4.1 hn).1
 obtain⟨β0,r1,e1⟩:=iT hs.hr 1
 have hres:(h++List.replicate 1 Blk.res)[h.length]? =some .res:=by simp
 have hnone:β0[h.length]? =some none:=by have:=r1.blk _ _ hres;simpa[BR] using this
 have J3:(h++List.replicate 1 Blk.res).set h.length (.row 0 sz ro [])=h++[.row 0 sz ro []]:=by simp
 obtain⟨b0,cells0,elem0,k1,k2,k3,k4,k5⟩:=hs.hr.blk n _ hn
 have hcl:i<cells0.size:=by omega
 obtain⟨ad,had⟩:∃ad,cells0[i]=.slice ad 0 0:=by
  have:=(k4 i _ cells0[i] hi (B7 hcl)).2
  generalize cells0[i]=cv at this
  cases this with
  |sl _ _ _ ad cap b off uf h1 h2=>exact⟨ad,by rw[h2 rfl];rfl⟩
 obtain⟨r2,e2,v2⟩:=kN r1 hres hnone 0 sz ro hsz trivial ad
 rw[J3] at r2 e2 v2
 have e12:=e1.trans e2
 have hn2:(h++[Blk.row 0 sz ro []])[n]? =some (.vard cs):=by rw[B8 hnl];exact hn
 obtain⟨b,cells,elem,g1,g2,g3,g4,g5⟩:=r2.blk n _ hn2
 have hβ:β0.set n (some (b,0))=β0:=by
  obtain⟨hl,he⟩:=A4.1 g1
  conv=>rhs;rw[<-Z5 hl]
  rw[he]
 have hb:b=b0:=by
  obtain⟨x,hx,ev⟩:=e12.blk n _ hn
  rw[hn2] at hx
  cases hx
  rcases ev with h'|⟨_,ht⟩|⟨_,_,_,h',_⟩
  ·cases h'
  ·rw[g1,k1] at ht;simp at ht;exact ht
  ·cases h'
 subst hb
 have hcell:cells=cells0:=by rw[k2] at g2;cases g2;rfl
 subst hcell
 have:=upd (w':=w) r2 hn2 (blk':=.var ((cs.map .d).set i (.sref h.length 0 0 0 false))) (some (b,0)) (B1 _) (λ_ _ _=>rfl) (λ_ _ c e f _ h=>⟨c,h,rfl⟩) (λ_ _ l _ h=>⟨l,h⟩) (λ_=>rfl) (λ_ _ _ _ _=>rfl)
  (λb' p hb=>by cases hb;exact .inl ⟨0,g1⟩) (by rw[g1];exact .inr (.inl ⟨.inl ⟨_,rfl⟩,rfl⟩)) (λE=> ?_)
 ·rw[hβ] at this
  have E:=e12.trans this.2
  exact⟨_,β0,hs.evol E this.1,E⟩
 ·rw[hβ] at E ⊢
  refine⟨b,cells,elem,g1,g2,by rw[g3];simp,λj c u hj hu=> ?_,g5⟩
  by_cases hij:i=j
  ·subst hij
   simp[hil] at hj
   subst hj
   rw[B7 hcl] at hu
   cases hu
   rw[had]
   exact⟨rfl,v2.evol E⟩
  ·rw[C3 hij,A8] at hj
   cases hd:cs[j]? with
   |none=>simp[hd] at hj
   |some d=>
    simp[hd] at hj
    subst hj
    obtain⟨f1,f2⟩:=g4 j d u hd hu
    exact⟨f1,.d (f2.evol E.sub E.cell)⟩
theorem L3.virtC {N:Nat} {c:Code} {ts:Tm} {h:Hp} {k:Ex->Tm->Hp->Prop} (n i a sz:Nat) {cs:List D} (ro:Bool) (hsz:0<sz) (hn:h[n]? =some (.vard cs)) (hi:cs[i]? =some (.sl a true []))
 (hl:cT.lenOfK h λm=>ER h [.row 0 sz ro []] λh'=>L3 P N c ts (h'.set n (.var ((cs.map .d).set i (.sref m 0 0 0 false)))) k):L3 P N c ts h k:=
 L3.weak (Wk.virtC ro hsz hn hi) (iH _ _ _ (cU _ _ hl))
theorem Wk.liftT {N:Nat} {ts:Tm} {h:Hp} {t m ver lo len sz:Nat} {ro full:Bool} {xs:List D} (ht:look ts t=.sref m ver lo len full) (hm:h[m]? =some (.row ver sz ro xs)) (hl:lo+len<=xs.length):
 Wk N ts h ((t,.d (.sl sz full ((xs.drop lo).take len)))::ts) (h.set m (.row ver sz true xs)):=λC act w S β hs=>by
 obtain⟨r1,e1⟩:=freeze hs.hr hm
 have hv:=hs.tr t
 rw[ht] at hv
 have hd:=pL hs.hr hm hl hv
 have h0:=hs.evol e1 r1
 refine⟨_,β,⟨r1,λt'=> ?_,h0.size,h0.marks,h0.round,h0.base⟩,e1⟩
 simp only[look]
 cases hb:Nat.beq t t' with
 |true=>
  have:=B2 hb
  subst this
  exact .d hd
 |false=>exact h0.tr t'
theorem dT {K:Bool->Prop} (a:K true):Dec (true=true) K:=Dec.t rfl a
theorem dU {K:Bool->Prop} (a:K true):Dec (false=false) K:=Dec.t rfl a
theorem dF {K:Bool->Prop} (a:K false):Dec (true=false) K:=Dec.f (by decide) a
theorem dG {K:Bool->Prop} (a:K false):Dec (false=true) K:=Dec.f (by decide) a
theorem dS {p:Prop} [Decidable p] {K:Bool->Prop} (a:p->K true) (b:¬p->K false):Dec p K:=Dec.split a b
theorem aT {p:Prop} [Decidable p] {K:Bool->Prop} (a:K true) (h:p:=by omega):Dec p K:=Dec.t h a
theorem aF {p:Prop} [Decidable p] {K:Bool->Prop} (a:K false) (h:¬p:=by omega):Dec p K:=Dec.f h a
theorem aW {n:Int} {K:Int->Prop} (a:K n) (h: -9223372036854775808<=n/\n<9223372036854775808:=by omega):Wr .i64 n K:=Wr.id h a
theorem aL {α β:Type} {f:α->β} {l:List α} {K:Nat->Prop} (k:K l.length):Nam (l.map f).length K:=Nam.mk (A6 _) k
theorem aD {d:D} {A:Prop} (a:A) (h:d.flat=true:=by assumption):brN d.flat.toNat A False:=WW h a
theorem aB {x:Bool} {A B:Prop} (a:x=true->A) (b:x=false->B):brN x.toNat A B:=br_mk a b
theorem sam {ts l:Tm} (h:jC ts l:=by repeat(first|exact trivial|refine And.intro rfl ?_|refine And.intro (N8 (λn=>V.d (I n)) (A6t _ (by omega))) ?_)):jC ts l:=h
structure Imp (p q:Prop):Prop where
 h:q->p
structure Imq (p a x b y:Prop):Prop where
 h:(a->x)->(b->y)->p
theorem imT {K:Bool->Prop}:Imp (Dec (true=true) K) (K true):=⟨dT⟩
theorem imU {K:Bool->Prop}:Imp (Dec (false=false) K) (K true):=⟨dU⟩
theorem imF {K:Bool->Prop}:Imp (Dec (true=false) K) (K false):=⟨dF⟩
theorem imG {K:Bool->Prop}:Imp (Dec (false=true) K) (K false):=⟨dG⟩
theorem imA {p:Prop} [Decidable p] {K:Bool->Prop} (h:p:=by omega):Imp (Dec p K) (K true):=⟨λa=>aT a h⟩
theorem imB {p:Prop} [Decidable p] {K:Bool->Prop} (h:¬p:=by omega):Imp (Dec p K) (K false):=⟨λa=>aF a h⟩
theorem imW {n:Int} {K:Int->Prop} (h: -9223372036854775808<=n/\n<9223372036854775808:=by omega):Imp (Wr .i64 n K) (K n):=⟨λa=>aW a h⟩
theorem imC {A B:Prop} (a:A:=by first|omega|exact rfl|(simp only[A6];omega)|(simp[room];done)|(simp[room];omega)|(simp[X1,room];done)|(simp[X1,room];omega)):Imp (Chk A B) B:=⟨λb=>Chk.mk a b⟩
theorem imL {α β:Type} {f:α->β} {l:List α} {K:Nat->Prop}:Imp (Nam (l.map f).length K) (K l.length):=⟨aL⟩
theorem imP {N:Nat} {ts:Tm} {h:Hp} {k k2:Tm->Hp->Prop}:Imp (qP (WkS N) ts h k k2) (k ts h):=⟨qP.skip⟩
theorem imE {A B:Prop}:Imp (MB A B) A:=⟨MB.l⟩
theorem imD {d:D} {A:Prop} (h:d.flat=true:=by assumption):Imp (brN d.flat.toNat A False) A:=⟨λa=>aD a h⟩
theorem imS {p:Prop} [Decidable p] {K:Bool->Prop}:Imq (Dec p K) p (K true) (¬p) (K false):=⟨dS⟩
theorem imQ {x:Bool} {A B:Prop}:Imq (brN x.toNat A B) (x=true) A (x=false) B:=⟨aB⟩
theorem sT {p q:Prop} (a:q) (e:Imp p q:=by first|(with_reducible first|exact imT|exact imU|exact imF|exact imG)|exact imA|exact imB|exact imW|exact imC|exact imL|exact imP|exact imE|exact imD):p:=e.h a
theorem sP {p a x b y:Prop} (u:a->x) (v:b->y) (e:Imq p a x b y:=by first|exact imS|exact imQ):p:=e.h u v
theorem fI {p:Prop} (h:p:=by((conv=>whnf);first|(exfalso;omega)|exact DLe.refl _|exact⟨DLe.refl _,rfl⟩|exact⟨DLe.refl _,DLe.refl _,rfl⟩|exact⟨DLe.refl _,rfl,rfl⟩)):p:=h
theorem fJ {p:Prop} (h:p:=by((conv=>whnf);first|exact DLe.refl _|exact⟨DLe.refl _,rfl⟩|exact⟨DLe.refl _,DLe.refl _,rfl⟩|exact⟨DLe.refl _,rfl,rfl⟩)):p:=h
theorem xO {p:Prop} (h:p:=by(exfalso;omega)):p:=h
theorem wE {N m:Nat} {ts ts':Tm} {h h':Hp} (hh:h.take m=h':=by exact rfl) (ht:jC ts ts':=by exact sam) (h1:ts'.all (λp=>nmV m p.2)=true:=by exact rfl) (h2:h'.all (tZ m)=true:=by exact rfl):Wm N m ts h ts' h':=Wm.end ht hh h1 h2
structure Im3 (c p q:Prop):Prop where
 h:c->q->p
theorem imC1 {f:FuncId} {args:List V} {h:Hp} {k:V->Hp->Prop} {v:V}:Im3 (C9 P f args v) (E6 P f args h k) (k v h):=⟨E6.of⟩
theorem imC2 {f:FuncId} {args:List V} {h:Hp} {k:Res->Prop} {v:V}:Im3 (C9 P f args v) (H6 P f args h k) (k (.d v)):=⟨H6.of⟩
theorem cA {c p q:Prop} (hc:c) (a:q) (e:Im3 c p q:=by first|exact imC1|exact imC2):p:=e.h hc a
end Go.PM
namespace Go.PM
variable [CN]
variable {P:Program} {T:TT}
def bL (v:V) (h:Hp) (k:List D->Hp->Prop):Prop:=match v with
 | .tup vs=>zP vs h k
 |v=>DD v h λd h'=>k [d] h'
theorem iV {v:V} {h:Hp} {k:List D->Hp->Prop} (hk:bL v h k):∃ds h',k ds h'/\∀(w:World) (S:Stb) (β:Bet) (cv:Value),HR w S h β->VR w S h β v cv->
 ∃S',HR w S' h' β/\F7 w S h β w S' h' β/\∀(h2:Hp) (β2:Bet),VR w S' h2 β2 (nG v ds) cv:=by
 unfold bL at hk
 split at hk
 ·rename_i vs
  obtain⟨ds,h',hk,hl,hh⟩:=xF _ _ _ hk
  refine⟨ds,h',hk,λw S β cv hr hv=> ?_⟩
  cases hv with
  |tup _ arr h1 h2=>
   obtain⟨S',r1,e1,d1⟩:=hh w S β arr.toList hr (by simpa using h1) λj c u hj hu=>h2 j c u hj (by simpa using hu)
   refine⟨S',r1,e1,λh2 β2=>.tup _ _ (by simp;omega) λj c u hc hu=> ?_⟩
   rw[A8] at hc
   cases hd:ds[j]? with
   |none=>simp[hd] at hc
   |some d=>simp[hd] at hc;subst hc;exact .d (d1 j d u hd (by simpa using hu))
 ·rename_i hno
  obtain⟨d,h',hk,hh⟩:=rP hk
  refine⟨[d],h',hk,λw S β cv hr hv=> ?_⟩
  obtain⟨S',r1,e1,d1⟩:=hh w S β cv hr hv
  refine⟨S',r1,e1,λh2 β2=> ?_⟩
  have:nG v [d]=.d d:=by
   cases v<;>first|rfl|exact absurd rfl (hno _)
  rw[this]
  exact .d d1
theorem GY {r:List D} {w:World} {S:Stb} {h h':Hp} {β β':Bet} {cv:Value} (hv:VR w S h β (E5 r) cv):VR w S h' β' (E5 r) cv:=by
 unfold E5 UG at*
 match r with
 |[]=>cases hv with
  |tup _ arr h1 h2=>exact .tup _ arr h1 (by simp)
 |[d]=>cases hv with
  |d hd=>exact .d hd
 |a::b::r=>cases hv with
  |tup _ arr h1 h2=>
   refine .tup _ arr h1 λj c u hj hu=> ?_
   have:=h2 j c u hj hu
   have hj:((a::b::r).map V.d)[j]? =some c:=hj
   obtain⟨d,_,rfl⟩:=K4.1 (A7 hj)
   cases this with
   |d hd=>exact .d hd
end Go.PM
namespace Go.PM
variable [CN]
variable {P:Program}
theorem H6.ofK {f:FuncId} {args:List V} {h:Hp} {k:Res->Prop} {n:Nat} {b:Blk} {v:V} (hc:mC P f args [n] [b] v) (hn:h[n]? =some b) (hk:k (.keep [n] v)):H6 P f args h k:=
 ⟨.keep [n] v,hk,λbs hl hb=>by
   have:bs=[b]:=by
    match bs,hl with
    |[c],_=>
     have:=hb 0 n rfl
     rw[hn] at this
     simp at this
     rw[this]
   rw[this];exact hc⟩
def ren1 (ns:List Nat):V->V
 | .ptr n a b c=>.ptr (ns.getD n 0) a b c
 | .sref n a b c d=>.sref (ns.getD n 0) a b c d
 | .map n=>.map (ns.getD n 0)
 |v=>v
def ok1 (q:Nat):V->Bool
 | .d _=>true
 | .ptr n _ _ _=>Nat.blt n q
 | .sref n _ _ _ _=>Nat.blt n q
 | .map n=>Nat.blt n q
 | .rp _ _=>true
 | .fn _ cap=>match cap with
   |[]=>true
   |_=>false
 |_=>false
def bG (ns:List Nat):V->V
 | .ptr n a b c=>.ptr (ns.getD n 0) a b c
 | .sref n a b c d=>.sref (ns.getD n 0) a b c d
 | .map n=>.map (ns.getD n 0)
 | .fn f cap=>.fn f (cap.map (ren1 ns))
 |v=>v
def okV (q:Nat):V->Bool
 | .d _=>true
 | .ptr n _ _ _=>Nat.blt n q
 | .sref n _ _ _ _=>Nat.blt n q
 | .map n=>Nat.blt n q
 | .rp _ _=>true
 | .fn _ cap=>cap.all (ok1 q)
 |_=>false
def P4 (ns:List Nat):Blk->Blk
 | .var cs=>.var (cs.map (bG ns))
 |b=>b
def okB (q:Nat):Blk->Bool
 | .var cs=>cs.all (okV q)
 | .vard _=>true
 | .row _ _ _ _=>true
 | .map _ _ _=>true
 |_=>false
theorem vM (ns:List Nat) (v:V):(bG ns v).flat=v.flat:=by cases v<;>rfl
theorem A2p {ns:List Nat} {i m:Nat} (h:ns[i]? =some m):ns.getD i 0=m:=by rw[A5,h];rfl
structure pI (ns:List Nat) (q:Nat) (h:Hp) (β:Bet) (h2:Hp) (β2:Bet):Prop where
 len:ns.length=q
 hp:∀(i m:Nat),ns[i]? =some m->h2[m]? =(h[i]?).map (P4 ns)
 bet:∀(i m:Nat),ns[i]? =some m->β2[m]? =β[i]?
 ok:∀(i:Nat) (b:Blk),i<q->h[i]? =some b->okB q b=true
theorem pI.at {ns:List Nat} {q:Nat} {h h2:Hp} {β β2:Bet} (s:pI ns q h β h2 β2) {i:Nat} (hi:i<q):∃m,ns[i]? =some m/\ns.getD i 0=m:=by
 have:i<ns.length:=by rw[s.len];exact hi
 exact⟨ns[i],A3 this,A2p (A3 this)⟩
theorem PR.ren {ns:List Nat} {q:Nat} {h h2:Hp} {β β2:Bet} (s:pI ns q h β h2 β2) {n ver e o:Nat} {v:Value} (hn:n<q):PR h2 β2 (ns.getD n 0) ver e o v↔PR h β n ver e o v:=by
 obtain⟨m,hm,hd⟩:=s.at hn
 rw[hd]
 unfold PR
 rw[s.hp n m hm,s.bet n m hm]
 cases hb:h[n]? with
 |none=>simp
 |some b=>
  have:=s.ok n b hn hb
  cases b<;>simp[okB,P4] at this ⊢
theorem SR.ren {ns:List Nat} {q:Nat} {w:World} {h h2:Hp} {β β2:Bet} (s:pI ns q h β h2 β2) {n ver lo len:Nat} {full:Bool} {v:Value} (hn:n<q):SR w h2 β2 (ns.getD n 0) ver lo len full v↔SR w h β n ver lo len full v:=by
 obtain⟨m,hm,hd⟩:=s.at hn
 rw[hd]
 unfold SR
 rw[s.hp n m hm,s.bet n m hm]
 cases hb:h[n]? with
 |none=>simp
 |some b=>
  have:=s.ok n b hn hb
  cases b<;>simp[okB,P4] at this ⊢
theorem VR.ren1 {ns:List Nat} {q:Nat} {w:World} {S:Stb} {h h2:Hp} {β β2:Bet} (s:pI ns q h β h2 β2) {c:V} {u:Value} (hc:ok1 q c=true):VR w S h2 β2 (ren1 ns c) u↔VR w S h β c u:=by
 have mapq:∀n,n<q->∀b:Nat,(isMap h2[ns.getD n 0]? /\(h2[ns.getD n 0]? ≠some .gone->β2[ns.getD n 0]? =some (some (b,0))))↔(isMap h[n]? /\(h[n]? ≠some .gone->β[n]? =some (some (b,0)))):=λn hn b=>by
  obtain⟨m,hm,hd⟩:=s.at hn
  rw[hd,s.hp n m hm,s.bet n m hm]
  cases hb:h[n]? with
  |none=>simp[isMap]
  |some b=>
   have:=s.ok n b hn hb
   cases b<;>simp[okB,P4,isMap] at this ⊢
 constructor
 ·intro hv
  cases c with
  |d x=>cases hv with
   |d hd=>exact .d hd
  |ptr n a b c=>cases hv with
   |ptr h1 h2=>exact .ptr h1 ((PR.ren s (B5 hc)).1 h2)
  |sref n a b c d=>cases hv with
   |sref h1 h2=>exact .sref h1 ((SR.ren s (B5 hc)).1 h2)
  |map n=>
   have hv:VR w S h2 β2 (.map (ns.getD n 0)) u:=hv
   cases hv with
   |map h1 h2=>
    obtain⟨a1,a2⟩:=(mapq n (B5 hc) _).1 ⟨h1,h2⟩
    exact .map a1 a2
  |rp cs o=>cases hv with
   |rp _ _ b off uf h1 h2=>exact .rp cs o b off uf h1 h2
  |fn f cap=>
   cases cap with
   |nil=>cases hv with
    |fn _ _ arr h1 h2=>exact .fn f [] arr h1 (by simp)
   |cons=>cases hc
  |_=>cases hc
 ·intro hv
  cases c with
  |d x=>cases hv with
   |d hd=>exact .d hd
  |ptr n a b c=>cases hv with
   |ptr h1 h2=>exact .ptr h1 ((PR.ren s (B5 hc)).2 h2)
  |sref n a b c d=>cases hv with
   |sref h1 h2=>exact .sref h1 ((SR.ren s (B5 hc)).2 h2)
  |map n=>
   cases hv with
   |map h1 h2=>
    obtain⟨a1,a2⟩:=(mapq n (B5 hc) _).2 ⟨h1,h2⟩
    exact .map a1 a2
  |rp cs o=>cases hv with
   |rp _ _ b off uf h1 h2=>exact .rp cs o b off uf h1 h2
  |fn f cap=>
   cases cap with
   |nil=>cases hv with
    |fn _ _ arr h1 h2=>exact .fn f [] arr h1 (by simp)
   |cons=>cases hc
  |_=>cases hc
theorem VR.ren {ns:List Nat} {q:Nat} {w:World} {S:Stb} {h h2:Hp} {β β2:Bet} (s:pI ns q h β h2 β2) {c:V} {u:Value} (hc:okV q c=true):VR w S h2 β2 (bG ns c) u↔VR w S h β c u:=by
 cases c with
 |fn f cap=>
  have hall:∀(j:Nat) (x:V),cap[j]? =some x->ok1 q x=true:=λj x hj=>C5.1 hc x (A7 hj)
  constructor
  ·intro hv
   cases hv with
   |fn _ _ arr h1 h2=>
    exact .fn f cap arr (by rw[h1,A6]) λj x u hj hu=>(VR.ren1 s (hall j x hj)).1 (h2 j (PM.ren1 ns x) u (by rw[A8,hj];rfl) hu)
  ·intro hv
   cases hv with
   |fn _ _ arr h1 h2=>
    refine .fn f _ arr (by rw[h1,A6]) λj x u hj hu=> ?_
    rw[A8,F0] at hj
    obtain⟨y,hj,rfl⟩:=hj
    exact(VR.ren1 s (hall j y hj)).2 (h2 j y u hj hu)
 |d x=>exact VR.ren1 s (c:=.d x) rfl
 |ptr n a b c=>exact VR.ren1 s (c:=.ptr n a b c) hc
 |sref n a b c d=>exact VR.ren1 s (c:=.sref n a b c d) hc
 |map n=>exact VR.ren1 s (c:=.map n) hc
 |rp cs o=>exact VR.ren1 s (c:=.rp cs o) rfl
 |_=>cases hc
theorem BR.ren {ns:List Nat} {q:Nat} {w:World} {S:Stb} {h h2:Hp} {β β2:Bet} (s:pI ns q h β h2 β2) {i m:Nat} (hi:ns[i]? =some m) {b:Blk} (hb:okB q b=true):BR w S h2 β2 m (P4 ns b)↔BR w S h β i b:=by
 have hbet:=s.bet i m hi
 cases b with
 |var cs=>
  simp only[P4,BR,hbet,A6]
  constructor
  ·rintro⟨b,cells,elem,h1,h2,h3,h4,h5⟩
   refine⟨b,cells,elem,h1,h2,h3,λj c u hj hu=> ?_,h5⟩
   obtain⟨f1,f2⟩:=h4 j (bG ns c) u (by rw[A8,hj];rfl) hu
   exact⟨by rw[vM] at f1;exact f1,(VR.ren s (C5.1 hb _ (A7 hj))).1 f2⟩
  ·rintro⟨b,cells,elem,h1,h2,h3,h4,h5⟩
   refine⟨b,cells,elem,h1,h2,h3,λj c u hj hu=> ?_,h5⟩
   rw[A8,F0] at hj
   obtain⟨c',hj,rfl⟩:=hj
   obtain⟨f1,f2⟩:=h4 j c' u hj hu
   exact⟨by rw[vM];exact f1,(VR.ren s (C5.1 hb _ (A7 hj))).2 f2⟩
 |vard cs=>simp only[P4,BR,hbet]
 |row a b c d=>simp only[P4,BR,hbet]
 |map a b c=>simp only[P4,BR,hbet]
 |_=>cases hb
theorem BEv.ren {ns:List Nat} {q:Nat} {b b':Blk} {t t':Option (Option (Nat×Nat))} (hb:okB q b=true) (hb':okB q b'=true) (h:BEv b t b' t'):BEv (P4 ns b) t (P4 ns b') t':=by
 cases b with
 |var cs=>
  rcases h with rfl|⟨h,e⟩|⟨a,c,d,rfl,h⟩
  ·cases hb'
  ·refine .inr (.inl ⟨?_,e⟩)
   rcases h with⟨x,rfl⟩|⟨x,rfl⟩
   ·exact .inl ⟨_,rfl⟩
   ·exact .inr ⟨_,rfl⟩
  ·exact .inr (.inr ⟨a,c,d,rfl,h⟩)
 |vard cs=>
  rcases h with rfl|⟨h,e⟩|⟨a,c,d,rfl,h⟩
  ·cases hb'
  ·refine .inr (.inl ⟨?_,e⟩)
   rcases h with⟨x,rfl⟩|⟨x,rfl⟩
   ·exact .inl ⟨_,rfl⟩
   ·exact .inr ⟨_,rfl⟩
  ·exact .inr (.inr ⟨a,c,d,rfl,h⟩)
 |row a b c d=>
  rcases h with rfl|⟨x,y,z,rfl,h⟩
  ·cases hb'
  ·exact .inr ⟨x,y,z,rfl,h⟩
 |map a b c=>
  rcases h with rfl|⟨h,e⟩
  ·cases hb'
  ·obtain⟨x,rfl⟩:=h
   exact .inr ⟨⟨_,rfl⟩,e⟩
 |_=>cases hb
theorem zV:∀(l:List (Nat×Blk)) (h:Hp),(J3 h l).length=h.length
 |[],_=>rfl
 |p::l,h=>by rw[J3,zV l,L5]
theorem nQ:∀(l:List (Nat×Blk)) (h:Hp) (j:Nat),(∀p∈l,p.1≠j)->(J3 h l)[j]? =h[j]?
 |[],_,_,_=>rfl
 |p::l,h,j,hn=>by rw[J3,nQ l _ j λq hq=>hn q (.tail _ hq),C3 (hn p (.head _))]
theorem FE:∀(ns:List Nat) (bs:List Blk) (h:Hp) (i m:Nat) (b:Blk),ns.Nodup->ns[i]? =some m->bs[i]? =some b->m<h.length->(J3 h (ns.zip bs))[m]? =some b
 |[],_,_,_,_,_,_,hi,_,_=>by simp at hi
 |n::ns,[],_,_,_,_,_,_,hb,_=>by simp at hb
 |n::ns,c::bs,h,0,m,b,hnd,hi,hb,hl=>by
  simp at hi hb
  subst hi;subst hb
  rw[H8,J3,nQ (ns.zip bs) _ n λp hp e=>(dW.1 hnd).1 (by have h1:=(KY hp).1;rw[e] at h1;exact h1)]
  exact G1 hl
 |n::ns,c::bs,h,i+1,m,b,hnd,hi,hb,hl=>by
  rw[H8,J3]
  exact FE ns bs _ i m b (dW.1 hnd).2 (by simpa using hi) (by simpa using hb) (by rw[L5];exact hl)
theorem UH (ns:List Nat) (r:List D):bG ns (E5 r)=E5 r:=match r with
 |[]=>rfl
 |[_]=>rfl
 |_::_::_=>rfl
theorem JH {f:FuncId} {args:List V} {H:Hp} (hH:H.all (okB H.length)=true) (ha:args.all (okV H.length)=true) {Q:V->Prop} (hQ:∀v,Q v->okV H.length v=true∨∃r,v=E5 r) {k0:V->Hp->Prop}
 (hc:M4 P f args H λv h'=>Q v/\h'.length=H.length/\h'.all (okB H.length)=true/\k0 v h') {ns:List Nat} (hnd:ns.Nodup) (hq:ns.length=H.length) {h:Hp} (hpre:∀(i m:Nat),ns[i]? =some m->h[m]? =(H[i]?).map (P4 ns))
 {k:V->Hp->Prop} (hk:∀v H',Q v->k0 v H'->H'.length=H.length->k (bG ns v) (J3 h (ns.zip (H'.map (P4 ns))))):M4 P f (args.map (bG ns)) h k:=by
 intro w S β argv hr hv
 obtain⟨β0,hβ0⟩:∃β0:Bet,β0=ns.map λm=>(β[m]?).getD none:=⟨_,rfl⟩
 have hin:∀(i m:Nat),ns[i]? =some m->m<h.length:=λi m hi=>by
  have hil:i<H.length:=by rw[<-hq];exact(A4.1 hi).1
  have:=hpre i m hi
  rw[A3 hil] at this
  exact(A4.1 this).1
 have hbet:∀(i m:Nat),ns[i]? =some m->β[m]? =β0[i]? :=λi m hi=>by
  have hm:m<β.length:=D3 (hin i m hi) hr.len
  rw[hβ0,A8,hi,Q3,A3 hm];rfl
 have s0:pI ns H.length H β0 h β:=⟨hq,hpre,hbet,λi b _ hb=>C5.1 hH b (A7 hb)⟩
 have hl0:β0.length=H.length:=by rw[hβ0,A6,hq]
 have hname:∀i,i<H.length->∃m,ns[i]? =some m:=λi hi=>⟨ns[i]'(by omega),A3 _⟩
 have h0:∀(i b p:Nat),β0[i]? =some (some (b,p))->∃m,ns[i]? =some m/\β[m]? =some (some (b,p)):=λi b p hi=>by
  have hil:i<H.length:=by rw[<-hl0];exact(A4.1 hi).1
  obtain⟨m,hm⟩:=hname i hil
  exact⟨m,hm,by rw[hbet i m hm];exact hi⟩
 have hndi:∀(i j m:Nat),ns[i]? =some m->ns[j]? =some m->i=j:=λi j m hi hj=>by
  exact(AJ (A4.1 hi).1 hnd).1 (hi.trans hj.symm)
 have r0:HR w S H β0:=by
  refine⟨by omega,λi b hb=> ?_,λi j b p q hi hj=> ?_,hr.old,hr.glob,λr b p ht=> ?_,λi j b c hi hj ho=> ?_⟩
  ·obtain⟨m,hm⟩:=hname i (A4.1 hb).1
   have:=hr.blk m (P4 ns b) (by rw[hpre i m hm,hb];rfl)
   exact(BR.ren s0 hm (C5.1 hH b (A7 hb))).1 this
  ·obtain⟨m1,a1,a2⟩:=h0 i b p hi
   obtain⟨m2,b1,b2⟩:=h0 j b q hj
   have:=hr.inj _ _ _ _ _ a2 b2
   subst this
   exact hndi i j m1 a1 b1
  ·unfold tl at ht
   have:=(A4.1 ht).1
   omega
  ·have:=C5.1 hH b (A7 hi)
   cases b<;>simp[okB,Blk.own] at this ho
 have hv0:VRs w S H β0 args argv:=⟨by rw[hv.1,A6],λj c u hj hu=>
  (VR.ren s0 (C5.1 ha c (A7 hj))).1 (hv.2 j (bG ns c) u (by rw[A8,hj];rfl) hu)⟩
 have key:∀(cv:Value) (w':World),(∃v h' S' β',(Q v/\h'.length=H.length/\h'.all (okB H.length)=true/\k0 v h')/\HR w' S' h' β'/\VR w' S' h' β' v cv/\F7 w S H β0 w' S' h' β')->
  ∃v h' S' β',k v h'/\HR w' S' h' β'/\VR w' S' h' β' v cv/\F7 w S h β w' S' h' β':=λcv w' ⟨v,H',S',β1,⟨e1,e2,e3,e4⟩,r1,v1,E1⟩=>by
  obtain⟨h',hh'⟩:∃h',h'=J3 h (ns.zip (H'.map (P4 ns))):=⟨_,rfl⟩
  have hlen:h'.length=h.length:=by rw[hh',zV]
  have hat:∀(i m:Nat),ns[i]? =some m->h'[m]? =(H'[i]?).map (P4 ns):=λi m hi=>by
   have hil:i<H'.length:=by rw[e2,<-hq];exact(A4.1 hi).1
   rw[A3 hil,hh']
   exact FE ns _ h i m _ hnd hi (by rw[A8,A3 hil];rfl) (hin i m hi)
  have hoth:∀(j:Nat),j∉ns->h'[j]? =h[j]? :=λj hj=>by
   rw[hh']
   exact nQ _ _ j λp hp e=>hj (by have h1:=(KY hp).1;rw[e] at h1;exact h1)
  obtain⟨β',hβ'⟩:∃β':Bet,β'=(List.range β.length).map λj=>if j∈ns then(β1[ns.idxOf j]?).getD none else(β[j]?).getD none:=⟨_,rfl⟩
  have hblen:β'.length=β.length:=by rw[hβ'];simp
  have bat:∀(i m:Nat),ns[i]? =some m->β'[m]? =β1[i]? :=λi m hi=>by
   have hm:m<β.length:=D3 (hin i m hi) hr.len
   have hmem:m∈ns:=A7 hi
   have hidx:ns.idxOf m=i:=hndi _ _ m (by
    rw[A3 (List.idxOf_lt_length_of_mem hmem),List.getElem_idxOf]) hi
   have hil:i<β1.length:=D3 (by rw[e2,<-hq];exact(A4.1 hi).1) r1.len
   rw[hβ',A8,F2 hm]
   simp only[Q3,if_pos hmem,hidx,A3 hil,O0]
  have both:∀(j:Nat),j∉ns->β'[j]? =β[j]? :=λj hj=>by
   rw[hβ',A8]
   by_cases hl:j<β.length
   ·rw[F2 hl]
    simp only[Q3,if_neg hj,A3 hl,O0]
   ·rw[E0 (by simpa using hl),E0 (by omega)];rfl
  have s1:pI ns H.length H' β1 h' β':=⟨hq,hat,bat,λi b _ hb=>C5.1 e3 b (A7 hb)⟩
  have himg0:∀b,img β0 b->img β b:=λb ⟨i,p,hi⟩=>by
   obtain⟨m,_,h2⟩:=h0 i b p hi
   exact⟨m,p,h2⟩
  have E:F7 w S h β w' S' h' β':=by
   refine⟨E1.outer,E1.size,λi hi hni=>E1.frame i hi λhh=>hni (himg0 i hh),E1.shape,E1.loops,E1.froz,E1.sub,λb o hs=> ?_,E1.cell,λb ⟨j,p,hj⟩=> ?_,by omega,λj b hb=> ?_⟩
   ·rcases E1.new b o hs with g|g|g
    ·exact .inl g
    ·exact .inr (.inl g)
    ·exact .inr (.inr (himg0 b g))
   ·by_cases hjn:j∈ns
    ·obtain⟨i,hi⟩:=D9.1 hjn
     rw[bat i j hi] at hj
     exact(E1.imgs b ⟨i,p,hj⟩).imp (himg0 b) id
    ·rw[both j hjn] at hj
     exact .inl ⟨j,p,hj⟩
   ·by_cases hjn:j∈ns
    ·obtain⟨i,hi⟩:=D9.1 hjn
     have hil:i<H.length:=by rw[<-hq];exact(A4.1 hi).1
     obtain⟨b',g1,g2⟩:=E1.blk i _ (A3 hil)
     have hbb:=hpre i j hi
     rw[A3 hil,hb] at hbb
     simp only[Q3,W8] at hbb
     subst hbb
     refine⟨P4 ns b',by rw[hat i j hi,g1];rfl,?_⟩
     rw[bat i j hi,hbet i j hi]
     exact BEv.ren (C5.1 hH _ (R5 hil)) (C5.1 e3 _ (A7 g1)) g2
    ·exact⟨b,by rw[hoth j hjn];exact hb,by rw[both j hjn];exact BEv.refl _ _⟩
  have stays:∀(j c p:Nat),j∉ns->β[j]? =some (some (c,p))->w'.heap[c]? =w.heap[c]? /\∀o,S' c o->S c o:=λj c p hj hc=>by
   have hno:¬img β0 c:=λ⟨i,q,hi⟩=>by
    obtain⟨m,g1,g2⟩:=h0 i c q hi
    have:=hr.inj _ _ _ _ _ hc g2
    subst this
    exact hj (A7 g1)
   have hlt:=hr.lt hc
   refine⟨E1.frame c hlt hno,λo ho=> ?_⟩
   rcases E1.new c o ho with g|g|g
   ·exact g
   ·omega
   ·exact absurd g hno
  have htl:∀r,tl h' β' r=tl h β r:=λr=>by
   unfold tl
   rw[hlen]
   refine both _ λhm=> ?_
   obtain⟨i,hi⟩:=D9.1 hm
   have:=hin i _ hi
   omega
  have hold:∀b,img β b->b<w.heap.size:=λb ⟨j,p,hj⟩=>hr.lt hj
  have hcase:∀(j b p:Nat),β'[j]? =some (some (b,p))->(j∉ns/\β[j]? =some (some (b,p)))∨∃i,ns[i]? =some j/\β1[i]? =some (some (b,p)):=λj b p hj=>by
   by_cases hjn:j∈ns
   ·obtain⟨i,hi⟩:=D9.1 hjn
    exact .inr ⟨i,hi,by rw[<-bat i j hi];exact hj⟩
   ·exact .inl ⟨hjn,by rw[<-both j hjn];exact hj⟩
  have hmix:∀(j1 j2 b p q i:Nat),j1∉ns->β[j1]? =some (some (b,p))->ns[i]? =some j2->β1[i]? =some (some (b,q))->False:=λj1 j2 b p q i g1 g2 g3 g4=>by
   rcases E1.imgs b ⟨i,q,g4⟩ with⟨i',p',g⟩|g
   ·obtain⟨m,a1,a2⟩:=h0 i' b p' g
    have:=hr.inj _ _ _ _ _ g2 a2
    subst this
    exact g1 (A7 a1)
   ·have:=hr.lt g2;omega
  refine⟨bG ns v,h',S',β',by rw[hh'];exact hk v H' e1 e4 e2,⟨by rw[hlen,hblen];exact hr.len,λj b hb=> ?_,λj1 j2 b p q g1 g2=> ?_,r1.old,r1.glob,λr b p ht=>by rw[htl] at ht;exact D3 (hr.tlt r b p ht) E1.size,λj1 j2 b c g1 g2 o1 o2=> ?_⟩,(by
   rcases hQ v e1 with g|⟨r,rfl⟩
   ·exact(VR.ren s1 g).2 v1
   ·rw[UH];exact GY v1),E⟩
  ·by_cases hjn:j∈ns
   ·obtain⟨i,hi⟩:=D9.1 hjn
    rw[hat i j hi,F0] at hb
    obtain⟨b',g1,rfl⟩:=hb
    exact(BR.ren s1 hi (C5.1 e3 _ (A7 g1))).2 (r1.blk i b' g1)
   ·rw[hoth j hjn] at hb
    exact BR.keep E (both j hjn) (λ_ r b p ht=>⟨by rw[htl];exact ht,stays (h.length+r) b p (λhm=>by
     obtain⟨i,hi⟩:=D9.1 hm
     have:=hin i _ hi
     omega) ht⟩) (λc p hc=>stays j c p hjn hc) (hr.blk j b hb)
  ·rcases hcase j1 b p g1 with⟨a1,a2⟩|⟨i,a1,a2⟩<;>rcases hcase j2 b q g2 with⟨b1,b2⟩|⟨i',b1,b2⟩
   ·exact hr.inj _ _ _ _ _ a2 b2
   ·exact(hmix j1 j2 b p q i' a1 a2 b1 b2).elim
   ·exact(hmix j2 j1 b q p i b1 b2 a1 a2).elim
   ·have:=r1.inj _ _ _ _ _ a2 b2
    subst this
    rw[a1] at b1
    exact T7 b1
  ·have own:∀(j:Nat) (b:Blk),h'[j]? =some b->b.own=true->j∉ns:=λj b hj ho hm=>by
    obtain⟨i,hi⟩:=D9.1 hm
    rw[hat i j hi,F0] at hj
    obtain⟨b',g1,rfl⟩:=hj
    have:=C5.1 e3 _ (A7 g1)
    cases b'<;>simp[okB,Blk.own,P4] at this ho
   have n1:=own j1 b g1 o1
   have n2:=own j2 c g2 o2
   rw[hoth j1 n1] at g1
   rw[hoth j2 n2] at g2
   exact hr.one j1 j2 b c g1 g2 o1 o2
 exact bC.mono (hc w S β0 argv r0 hv0) key
theorem NS {f:FuncId} {args:List V} {H:Hp} (hH:H.all (okB H.length)=true) (ha:args.all (okV H.length)=true) {r:List D} {k0:Hp->Prop}
 (hc:M4 P f args H λv h'=>v=E5 r/\h'.length=H.length/\h'.all (okB H.length)=true/\k0 h') {ns:List Nat} (hnd:ns.Nodup) (hq:ns.length=H.length) {h:Hp} (hpre:∀(i m:Nat),ns[i]? =some m->h[m]? =(H[i]?).map (P4 ns))
 {k:V->Hp->Prop} (hk:∀H',k0 H'->H'.length=H.length->k (E5 r) (J3 h (ns.zip (H'.map (P4 ns))))):M4 P f (args.map (bG ns)) h k:=
 JH hH ha (λv e=>.inr ⟨r,e⟩) (k0:=λ_ h=>k0 h) hc hnd hq hpre λv H' e h1 h2=>by rw[show v=E5 r from e,UH];exact hk H' h1 h2
theorem ok1_nm {q:Nat} {v:V} (h:ok1 q v=true):nm1 q v=true:=by
 cases v with
 |fn f cap=>
  cases cap with
  |nil=>rfl
  |cons=>cases h
 |d x=>rfl
 |rp cs o=>rfl
 |ptr n a b c=>exact h
 |sref n a b c d=>exact h
 |map n=>exact h
 |_=>cases h
theorem ZE {q:Nat} {v:V} (h:okV q v=true):nmV q v=true:=by
 cases v with
 |fn f cap=>exact C5.2 λx hx=>ok1_nm (C5.1 h x hx)
 |d x=>rfl
 |rp cs o=>rfl
 |ptr n a b c=>exact h
 |sref n a b c d=>exact h
 |map n=>exact h
 |_=>cases h
theorem dQ {q:Nat} {b:Blk} (h:okB q b=true):tZ q b=true:=by
 cases b with
 |var cs=>
  refine C5.2 λc hc=>ZE (C5.1 h c hc)
 |vard cs=>rfl
 |row a b c d=>rfl
 |map a b c=>rfl
 |_=>cases h
theorem WF {E:Env} (hE:E.Ok P) {f:FuncId} {fn:Func} (hf:P.funcs[f]? =some fn) (hname:(fn.name== "runtime.NumGoroutine")=false) (hN:E.N=fn.ntmps) {args:List V} {H:Hp}
 (hsz:args.length<=fn.ntmps) {r:List D} {k0:Hp->Prop} (hx:mK E fn args H λv h=>bL v h λds h'=>VLe (nG v ds) (E5 r)/\(h'.take H.length).all (okB H.length)=true/\k0 (h'.take H.length)):
 M4 P f args H λv h'=>v=E5 r/\h'.length=H.length/\h'.all (okB H.length)=true/\k0 h':=by
 intro w S β argv hr hv
 have hc:=X9 hE hf hname hN hsz hx w S β argv hr hv
 have key:∀(cv:Value) (w':World),(∃v h' S' β',(bL v h' λds h'=>VLe (nG v ds) (E5 r)/\(h'.take H.length).all (okB H.length)=true/\k0 (h'.take H.length))/\HR w' S' h' β'/\VR w' S' h' β' v cv/\F7 w S H β w' S' h' β')->
  ∃v h' S' β',(v=E5 r/\h'.length=H.length/\h'.all (okB H.length)=true/\k0 h')/\HR w' S' h' β'/\VR w' S' h' β' v cv/\F7 w S H β w' S' h' β':=λcv w' ⟨v,h',S',β',hk,hr',hv',hE'⟩=>by
  obtain⟨ds,h2,⟨hd,ho,ht⟩,hh⟩:=iV hk
  obtain⟨S2,r2,e2,d2⟩:=hh w' S' β' cv hr' hv'
  have hle:H.length<=h2.length:=(hE'.trans e2).len
  have r3:=r2.drop (n:=H.length) (C5.2 λb hb=>dQ (C5.1 ho b hb))
  have e3:=(hE'.trans e2).drop (n:=H.length) (B1 _) r2.len
  exact⟨E5 r,h2.take H.length,S2,_,⟨rfl,by rw[D0];omega,ho,ht⟩,r3,hd.vr (d2 _ _),e3⟩
 exact bC.mono (hc) key
def WkH (h h2:Hp):Prop:=∀(w:World) (S:Stb) (β:Bet),HR w S h β->∃S' β',HR w S' h2 β'/\F7 w S h β w S' h2 β'
theorem WkH.of {h h2:Hp} (hw:∀N,Wk N [] h [] h2):WkH h h2:=λw S β hr=>by
 obtain⟨S',β',hs,e⟩:=hw 0 ⟨none,0,[]⟩ ⟨#[],[]⟩ w S β ⟨hr,λt=>.u _,rfl,⟨[],[],rfl,List.Pairwise.nil,λd hd=>(O9 hd).elim⟩,(λl hl=>nomatch hl),B9 _⟩
 exact⟨S',β',hs.hr,e⟩
theorem WkH.trans {h h1 h2:Hp} (a:WkH h h1) (b:WkH h1 h2):WkH h h2:=λw S β hr=>by
 obtain⟨S1,β1,r1,e1⟩:=a w S β hr
 obtain⟨S2,β2,r2,e2⟩:=b w S1 β1 r1
 exact⟨S2,β2,r2,e1.trans e2⟩
theorem E6.pre {f:FuncId} {args:List V} {h h2:Hp} {k:V->Hp->Prop} (hw:WkH h h2) (hc:E6 P f args h2 k):E6 P f args h k:=.ofV λw S β argv hr hv=>by
 obtain⟨S1,β1,r1,e1⟩:=hw w S β hr
 rcases hc.holds w S1 β1 argv r1 ⟨hv.1,λj c u hj hu=>(hv.2 j c u hj hu).evol e1⟩ with⟨h1,h2⟩|⟨cv,w',h1,v,h',S',β',hk,g1,g2,g3⟩
 ·refine .inl ⟨h1,λcs=> ?_⟩
  obtain⟨e,w',fr,⟨cv,he,v,h',S',β',hk,g1,g2,g3⟩,r⟩:=h2 cs
  exact⟨e,w',fr,⟨cv,he,v,h',S',β',hk,g1,g2,e1.trans g3⟩,r⟩
 ·exact .inr ⟨cv,w',h1,v,h',S',β',hk,g1,g2,e1.trans g3⟩
theorem M4.post {f:FuncId} {args:List V} {h:Hp} {k:V->Hp->Prop} (hc:M4 P f args h λv h'=>∃h2,WkH h' h2/\k v h2):M4 P f args h k:=λw S β argv hr hv=>by
 rcases hc w S β argv hr hv with⟨h1,h2⟩|⟨cv,w',h1,v,h',S',β',⟨h2,hw,hk⟩,g1,g2,g3⟩
 ·refine .inl ⟨h1,λcs=> ?_⟩
  obtain⟨e,w',fr,⟨cv,he,v,h',S',β',⟨h2,hw,hk⟩,g1,g2,g3⟩,r⟩:=h2 cs
  obtain⟨S2,β2,r2,e2⟩:=hw w' S' β' g1
  exact⟨e,w',fr,⟨cv,he,v,h2,S2,β2,hk,r2,g2.evol e2,g3.trans e2⟩,r⟩
 ·obtain⟨S2,β2,r2,e2⟩:=hw w' S' β' g1
  exact .inr ⟨cv,w',h1,v,h2,S2,β2,hk,r2,g2.evol e2,g3.trans e2⟩
theorem E6.upd {f:FuncId} {args:List V} {H:Hp} (hH:H.all (okB H.length)=true) (ha:args.all (okV H.length)=true) {r:List D} {k0:Hp->Prop}
 (hc:M4 P f args H λv h'=>v=E5 r/\h'.length=H.length/\h'.all (okB H.length)=true/\k0 h') (ns:List Nat) (hnd:ns.Nodup) (hq:ns.length=H.length) {args':List V} (he:args'=args.map (bG ns)) {h:Hp} (hpre:∀(i m:Nat),ns[i]? =some m->h[m]? =(H[i]?).map (P4 ns))
 {k:V->Hp->Prop} (hk:∀H',k0 H'->H'.length=H.length->∃h2,WkH (J3 h (ns.zip (H'.map (P4 ns)))) h2/\k (E5 r) h2):E6 P f args' h k:=by
 subst he
 exact .ofV (NS hH ha hc hnd hq hpre (k:=λv h'=>∃h2,WkH h' h2/\k v h2) hk).post
theorem WkH.refl (h:Hp):WkH h h:=λw S β hr=>⟨S,β,hr,F7.refl _ _ _ _⟩
theorem yC {f:FuncId} {args:List V} {H:Hp} (hH:H.all (okB H.length)=true) (ha:args.all (okV H.length)=true) {k0:V->Hp->Prop}
 (hc:M4 P f args H λv h'=>okV H.length v=true/\h'.length=H.length/\h'.all (okB H.length)=true/\k0 v h') {ns:List Nat} (hnd:ns.Nodup) (hq:ns.length=H.length) {h:Hp} (hpre:∀(i m:Nat),ns[i]? =some m->h[m]? =(H[i]?).map (P4 ns))
 {k:V->Hp->Prop} (hk:∀v H',k0 v H'->H'.length=H.length->k (bG ns v) (J3 h (ns.zip (H'.map (P4 ns))))):M4 P f (args.map (bG ns)) h k:=
 JH hH ha (λv e=>.inl e) hc hnd hq hpre λv H' _ h1 h2=>hk v H' h1 h2
theorem gY {ns:List Nat} {h H:Hp} {g:Blk->Blk} (e:ns.map (λm=>h[m]?)=(List.range ns.length).map λi=>(H[i]?).map g):∀(i m:Nat),ns[i]? =some m->h[m]? =(H[i]?).map g:=λi m hi=>by
 have hl:=(A4.1 hi).1
 have e:=N8 (λl=>l[i]?) e
 simp only[A8,hi,F2 hl,Q3,W8] at e
 exact e
theorem mI {E:Env} (hE:E.Ok P) {f:FuncId} {fn:Func} (hf:P.funcs[f]? =some fn) (hname:(fn.name== "runtime.NumGoroutine")=false) (hN:E.N=fn.ntmps) {args:List V} {H:Hp}
 (hsz:args.length<=fn.ntmps) {k0:V->Hp->Prop} (hx:mK E fn args H λv h'=>okV H.length v=true/\(h'.take H.length).all (okB H.length)=true/\k0 v (h'.take H.length)):
 M4 P f args H λv h'=>okV H.length v=true/\h'.length=H.length/\h'.all (okB H.length)=true/\k0 v h':=by
 intro w S β argv hr hv
 have hc:=X9 hE hf hname hN hsz hx w S β argv hr hv
 have key:∀(cv:Value) (w':World),(∃v h' S' β',(okV H.length v=true/\(h'.take H.length).all (okB H.length)=true/\k0 v (h'.take H.length))/\HR w' S' h' β'/\VR w' S' h' β' v cv/\F7 w S H β w' S' h' β')->
  ∃v h' S' β',(okV H.length v=true/\h'.length=H.length/\h'.all (okB H.length)=true/\k0 v h')/\HR w' S' h' β'/\VR w' S' h' β' v cv/\F7 w S H β w' S' h' β':=λcv w' ⟨v,h',S',β',⟨hd,ho,ht⟩,hr',hv',hE'⟩=>by
  have hle:H.length<=h'.length:=hE'.len
  have r3:=hr'.drop (n:=H.length) (C5.2 λb hb=>dQ (C5.1 ho b hb))
  have e3:=hE'.drop (n:=H.length) (B1 _) hr'.len
  exact⟨v,h'.take H.length,S',_,⟨hd,by rw[D0];omega,ho,ht⟩,r3,hv'.drop (ZE hd),e3⟩
 exact bC.mono (hc) key
theorem E6.updV {f:FuncId} {args:List V} {H:Hp} (hH:H.all (okB H.length)=true) (ha:args.all (okV H.length)=true) {k0:V->Hp->Prop}
 (hc:M4 P f args H λv h'=>okV H.length v=true/\h'.length=H.length/\h'.all (okB H.length)=true/\k0 v h') (ns:List Nat) (hnd:ns.Nodup) (hq:ns.length=H.length) {args':List V} (he:args'=args.map (bG ns)) {h:Hp} (hpre:∀(i m:Nat),ns[i]? =some m->h[m]? =(H[i]?).map (P4 ns))
 {k:V->Hp->Prop} (hk:∀v H',k0 v H'->H'.length=H.length->k (bG ns v) (J3 h (ns.zip (H'.map (P4 ns))))):E6 P f args' h k:=by
 subst he
 exact .ofV (yC hH ha hc hnd hq hpre hk)
theorem pV:∀(ns:List Nat) (bs:List Blk) (h:Hp),J3 h (ns.zip bs)=J5 h ns bs
 |[],bs,h=>by cases bs<;>rfl
 |n::ns,[],h=>rfl
 |n::ns,b::bs,h=>pV ns bs (h.set n b)
theorem H6.updV {f:FuncId} {args:List V} {H H':Hp} {v0:V} (hH:H.all (okB H.length)=true) (ha:args.all (okV H.length)=true)
 (hc:M4 P f args H λv h'=>okV H.length v=true/\h'.length=H.length/\h'.all (okB H.length)=true/\(v=v0/\h'=H')) (ns:List Nat) (hnd:ns.Nodup) (hq:ns.length=H.length) {args':List V} (he:args'=args.map (bG ns)) {h:Hp} (hpre:∀(i m:Nat),ns[i]? =some m->h[m]? =(H[i]?).map (P4 ns))
 {k:Res->Prop} (hk:k (.upd ns (H'.map (P4 ns)) (bG ns v0))):H6 P f args' h k:=
 ⟨_,hk,λbs hl hb w S h1 β argv hp hr hv=>by
   subst he
   have h2:=yC hH ha hc hnd hq (h:=h1) (λi m hi=>by rw[hp i m hi,<-hb i m hi];exact hpre i m hi) (k:=λv h'=>v=bG ns v0/\h'=J5 h1 ns (H'.map (P4 ns)))
    (λv H1 e _=>⟨by rw[e.1],by rw[e.2,pV]⟩)
   rcases h2 w S β argv hr hv with⟨h1,h2⟩|⟨cv,w',h1,v',h',S',β',⟨rfl,rfl⟩,g1,g2,g3⟩
   ·refine .inl ⟨h1,λcs=> ?_⟩
    obtain⟨e,w',fr,⟨cv,he,v',h',S',β',⟨rfl,rfl⟩,g1,g2,g3⟩,r⟩:=h2 cs
    exact⟨e,w',fr,⟨cv,he,S',β',g1,g2,g3⟩,r⟩
   ·exact .inr ⟨cv,w',h1,S',β',g1,g2,g3⟩⟩
end Go.PM

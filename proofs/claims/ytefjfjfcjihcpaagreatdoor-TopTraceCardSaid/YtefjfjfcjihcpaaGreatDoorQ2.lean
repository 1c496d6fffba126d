/- TopTrace: part 2 of the proof: for every input the law returns true, and its arguments read behind the call as they read before; where the library's table is as its own text lays it. -/
import Derived.Test.YtefjfjfcjihcpaaGreatDoorQ1
import Derived.Laws.MakeOwn
set_option maxRecDepth 10000
set_option maxHeartbeats 400000000
set_option linter.unusedSectionVars false
namespace Go.PM
variable [CN]
variable {P:Program} {T:TT}
def ClK (v:V) (l:List V):Prop:=
 (∃cs,v=.d (.agg cs)/\l=cs.map .d)∨(∃x:D,x.flat=true/\v=.d x/\l=[.d x])∨(v=.agg l)∨(v.flat=true/\l=[v])
theorem rV {v:V} {k:List V->Prop} (h:BV v k):∃l,k l/\ClK v l:=by
 unfold BV at h
 split at h
 ·exact⟨_,h,.inl ⟨_,rfl,rfl⟩⟩
 ·rename_i x hx
  refine⟨_,h,.inr (.inl ⟨x,?_,rfl,rfl⟩)⟩
  cases x<;>first|rfl|exact absurd rfl (hx _)
 ·exact⟨_,h,.inr (.inr (.inl rfl))⟩
 ·exact h.elim
 ·exact h.elim
 ·rename_i h1 h2 h3 h4 h5
  refine⟨_,h,.inr (.inr (.inr ⟨?_,rfl⟩))⟩
  cases v<;>first|rfl|exact absurd rfl (h2 _)|exact absurd rfl (h3 _)|exact absurd rfl h4|exact absurd rfl (h5 _)
theorem vQ {v:Value} (h:one v=true):v.cells= #[v]:=by cases v<;>simp_all[one,Value.cells]
theorem DR.cells {w:World} {S:Stb} {x:D} {v:Value} (h:DR w S x v):v.cells.toList.length=x.cells.length/\
 ∀(j:Nat) (c:D) (y:Value),x.cells[j]? =some c->v.cells.toList[j]? =some y->DR w S c y/\c.flat=true:=by
 by_cases hx:x.flat=true
 ·have hv:=vQ (h.one hx)
  have hc:x.cells=[x]:=by cases x<;>simp_all[D.cells,D.flat]
  rw[hv,hc]
  refine⟨rfl,λj c y hj hy=> ?_⟩
  cases j with
  |zero=>simp at hj hy;subst hj;subst hy;exact⟨h,hx⟩
  |succ j=>simp at hj
 ·cases h with
  |agg cs arr h1 h2 h3=>
   simp only[Value.cells,D.cells]
   exact⟨by simpa using h1,λj c y hj hy=>⟨h3 j c y hj (by simpa using hy),h2 j c hj⟩⟩
  |_=>simp[D.flat] at hx
theorem ClK.rel {v:V} {l:List V} (h:ClK v l) {w:World} {S:Stb} {hp:Hp} {β:Bet} {cv:Value} (hv:VR w S hp β v cv):cv.cells.toList.length=l.length/\
 ∀(j:Nat) (c:V) (y:Value),l[j]? =some c->cv.cells.toList[j]? =some y->VR w S hp β c y/\c.flat=true:=by
 rcases h with⟨cs,rfl,rfl⟩|⟨x,hx,rfl,rfl⟩|rfl|⟨hf,rfl⟩
 ·cases hv with
  |d hd=>
   obtain⟨a,b⟩:=hd.cells
   refine⟨by simpa[D.cells] using a,λj c y hj hy=> ?_⟩
   simp only[A8,F0] at hj
   obtain⟨c',hc',rfl⟩:=hj
   obtain⟨r1,r2⟩:=b j c' y hc' hy
   exact⟨.d r1,r2⟩
 ·have hv1:=vQ (hv.one (by exact hx))
  rw[hv1]
  refine⟨rfl,λj c y hj hy=> ?_⟩
  cases j with
  |zero=>simp at hj hy;subst hj;subst hy;exact⟨hv,hx⟩
  |succ j=>simp at hj
 ·cases hv with
  |agg cs arr h1 h2 h3=>
   simp only[Value.cells]
   exact⟨by simpa using h1,λj c y hj hy=>⟨h3 j c y hj (by simpa using hy),h2 j c hj⟩⟩
 ·have hv1:=vQ (hv.one hf)
  rw[hv1]
  refine⟨rfl,λj c y hj hy=> ?_⟩
  cases j with
  |zero=>simp at hj hy;subst hj;subst hy;exact⟨hv,hf⟩
  |succ j=>simp at hj
theorem sH {t:TypeId} {ti:TI} (h:dO P t ti=true) {w:World} {b off:Nat} {v:Value} {cells:Array Value} {e:TypeId} (hw:w.heap[b]? =some (.cells cells e (0,0)))
 (hs:v.cells.toList.length=ti.size) (h1:∀y∈v.cells.toList,one y=true) (hl:off+v.cells.toList.length<=cells.size):
 (storeVar t ⟨b,off,none⟩ v).run P w=.ok () (w.setRow b (ov cells.toList off v.cells.toList).toArray):=by
 have:=run_storeCells_at P b off e v.cells.toList 0 cells w hw (by omega) (λy hy=>by rw[<-QN];exact h1 y hy)
 simp only[W2] at this
 have hs':v.cells.size=ti.size:=by simpa using hs
 simp[storeVar,P7 h,hs',this,ov]
theorem FV {cs:List D} {o:Nat} {x:D} {k:List D->Prop} (h:PJ cs o x k) (hx:x.cells≠[]):o+x.cells.length<=cs.length/\k (ov cs o x.cells):=by
 unfold PJ at h
 split at h
 ·rename_i l
  simp only[D.cells] at hx ⊢
  split at h
  ·split at h
   ·rename_i h1
    have h1:=B2 h1
    refine⟨by omega,?_⟩
    have:ov cs 0 l=l:=by simp[ov,<-h1]
    rwa[this]
   ·rcases jT _ _ _ _ h with⟨rfl,_⟩|⟨_,h1,h2⟩
    ·exact absurd rfl hx
    ·exact⟨h1,h2⟩
  ·rcases jT _ _ _ _ h with⟨rfl,_⟩|⟨_,h1,h2⟩
   ·exact absurd rfl hx
   ·exact⟨h1,h2⟩
 ·rename_i hx'
  have hc:x.cells=[x]:=by cases x<;>first|rfl|exact absurd rfl (hx' _)
  rw[hc]
  obtain⟨h1,h2⟩:=aG.1 h
  refine⟨by simp;omega,?_⟩
  have hl:IU cs o [x] (λz=>z=cs.set o x):=by
   simp only[IU];exact vK h1 rfl
  rcases jT _ _ _ _ hl with⟨h3,_⟩|⟨_,_,h4⟩
  ·cases h3
  ·rwa[h4]
theorem ov_map {α β:Type} (f:α->β) (xs ys:List α) (o:Nat):(ov xs o ys).map f=ov (xs.map f) o (ys.map f):=by
 simp[ov]
theorem YZ {α β:Type} {R:α->β->Prop} {xs ys:List α} {us vs:List β} {o o':Nat} (hl:o+ys.length<=xs.length) (hl':o'+vs.length<=us.length) (he:ys.length=vs.length)
 (hx:∀(j:Nat) (x:α) (y:β),xs[j]? =some x->us[(o'-o)+j]? =some y->R x y) (hoo:o<=o')
 (hy:∀(j:Nat) (x:α) (y:β),ys[j]? =some x->vs[j]? =some y->R x y):
 ∀(j:Nat) (x:α) (y:β),(ov xs o ys)[j]? =some x->(ov us o' vs)[(o'-o)+j]? =some y->R x y:=by
 intro j x y h1 h2
 rw[eK hl] at h1
 rw[eK hl'] at h2
 by_cases a:j<o
 ·rw[if_pos a] at h1
  rw[if_pos (by omega)] at h2
  exact hx j x y h1 h2
 ·rw[if_neg a] at h1
  rw[if_neg (by omega)] at h2
  by_cases b:j<o+ys.length
  ·rw[if_pos b] at h1
   rw[if_pos (by omega),show o'-o+j-o'=j-o by omega] at h2
   exact hy _ x y h1 h2
  ·rw[if_neg b] at h1
   rw[if_neg (by omega)] at h2
   exact hx j x y h1 h2
theorem eV (x:D) (hx:x.flat=true):x.cells=[x]:=by cases x<;>simp_all[D.cells,D.flat]
theorem LM {y:D} {l:List D} (hl:l.length=y.cells.length) (hf:∀(j:Nat) (c:D),l[j]? =some c->c.flat=true):(oJ y l).cells=l:=by
 unfold oJ
 split
 ·rfl
 ·rename_i hy
  have:y.cells=[y]:=by cases y<;>first|rfl|exact absurd rfl (hy _)
  rw[this] at hl
  match l,hl with
  |[z],_=>exact eV z (hf 0 z rfl)
theorem BR.vard_var {w:World} {S:Stb} {h:Hp} {β:Bet} {n:Nat} {cs:List D}:BR w S h β n (.vard cs)↔BR w S h β n (.var (cs.map .d)):=by
 constructor
 ·rintro⟨b,c,e,h1,h2,h3,h4,h5⟩
  refine⟨b,c,e,h1,h2,by simpa using h3,λj x y hj hy=> ?_,h5⟩
  simp only[A8,F0] at hj
  obtain⟨c',hc',rfl⟩:=hj
  exact⟨(h4 j c' y hc' hy).1,.d (h4 j c' y hc' hy).2⟩
 ·rintro⟨b,c,e,h1,h2,h3,h4,h5⟩
  refine⟨b,c,e,h1,h2,by simpa using h3,λj x y hj hy=> ?_,h5⟩
  obtain⟨q1,q2⟩:=h4 j (.d x) y (by simp[hj]) hy
  cases q2 with
  |d hd=>exact⟨q1,hd⟩
theorem qY {t:TypeId} {ti:TI} (hti:dO P t ti=true) {o:Oper} {a x:Operand} (ho:o.op=.store t a x) {ρ:Operand->Value} {w:World} {S:Stb} {hp:Hp} {β:Bet} (hr:HR w S hp β)
 {n b off:Nat} {blk blk':Blk} {cs l:List V} (hn:hp[n]? =some blk) (hbr:BR w S hp β n (.var cs)) (hbn:β[n]? =some (some (b,0))) (ha:ρ a=.pointer (some ⟨b,off,none⟩))
 (hx:(ρ x).cells.toList.length=l.length/\∀(j:Nat) (c:V) (y:Value),l[j]? =some c->(ρ x).cells.toList[j]? =some y->VR w S hp β c y/\c.flat=true)
 (hl:l.length=ti.size) (hlen:off+l.length<=cs.length)
 (hev:BEv blk (some (some (b,0))) blk' (some (some (b,0)))) (hb':∀w S h β,BR w S h β n (.var (ov cs off l))->BR w S h β n blk') (hone':blk'.own=false:=by rfl):
 ∃nx w' S' β' cv,(execOp ρ o).run P w=.ok nx w'/\(nx=.value cv∨(nx=.skip/\cv=undef))/\HR w' S' (hp.set n blk') β'/\VR w' S' (hp.set n blk') β' .u cv/\F7 w S hp β w' S' (hp.set n blk') β':=by
 obtain⟨b',cells,e,k1,k2,k3,k4,k5⟩:=hbr
 rw[hbn] at k1;simp at k1;subst k1
 obtain⟨q1,q2⟩:=hx
 have hlc:off+(ρ x).cells.toList.length<=cells.toList.length:=by rw[q1];simp only[F6,k3];exact hlen
 have hone:∀y∈(ρ x).cells.toList,one y=true:=λy hy=>by
  obtain⟨j,hj⟩:=D9.1 hy
  have hjl:j<l.length:=by rw[<-q1];exact(A4.1 hj).1
  obtain⟨d1,d2⟩:=q2 j _ y (A3 hjl) hj
  exact d1.one d2
 have hrun:=sH hti k2 (by rw[q1];exact hl) hone (by simpa using hlc)
 have J3:β.set n (some (b,0))=β:=fT hbn
 have hol:=bK hlc
 obtain⟨r1,r2⟩:=written (hone:=hone') hr (blk':=blk') hn hbn k2 (cells':=(ov cells.toList off (ρ x).cells.toList).toArray) (by simp only[M5,hol,F6]) 0 (λo ho=>absurd ho (k5 o)) hev
  (λE _ hh=>by
    rw[J3] at E ⊢
    refine hb' _ _ _ _ ⟨b,_,e,hbn,hh,?_,λj c y hj hy=> ?_,k5⟩
    ·simp only[M5,hol,F6,k3,bK hlen]
    ·have:=YZ (R:=λ(c:V) (y:Value)=>c.flat=true/\VR w S hp β c y) (xs:=cs) (ys:=l) (us:=cells.toList) (vs:=(ρ x).cells.toList) (o:=off) (o':=off) hlen hlc q1.symm
      (λj c y hj hy=>k4 j c y hj (by simpa using hy)) (B1 _) (λj c y hj hy=>⟨(q2 j c y hj hy).2,(q2 j c y hj hy).1⟩) j c y hj (by simpa using hy)
     exact⟨this.1,this.2.evol E⟩)
 rw[J3] at r1 r2
 refine⟨.skip,_,S,β,undef,?_,.inr ⟨rfl,rfl⟩,r1,.u _,r2⟩
 simp[execOp,ho,Instr.storeAt,Instr.sureAddr,ha,hrun]
theorem A3u {t:TypeId} {ti:TI} (hti:dO P t ti=true) {o:Oper} {a x:Operand} (ho:o.op=.store t a x) {ρ:Operand->Value} {w:World} {S:Stb} {hp:Hp} {β:Bet} (hr:HR w S hp β)
 {n ver e off sz:Nat} {xs:List D} {y xd:D} (hn:hp[n]? =some (.row ver sz false xs)) (ha:PR hp β n ver e off (ρ a)) (hx:DR w S xd (ρ x))
 (hl:xd.cells.length=ti.size) (hpos:0<ti.size) (hy:xs[e]? =some y) (hlen:off+xd.cells.length<=y.cells.length):
 ∃nx w' S' β' cv,(execOp ρ o).run P w=.ok nx w'/\(nx=.value cv∨(nx=.skip/\cv=undef))/\HR w' S' (hp.set n (.row ver sz false (xs.set e (oJ y (ov y.cells off xd.cells))))) β'/\
  VR w' S' (hp.set n (.row ver sz false (xs.set e (oJ y (ov y.cells off xd.cells))))) β' .u cv/\F7 w S hp β w' S' (hp.set n (.row ver sz false (xs.set e (oJ y (ov y.cells off xd.cells))))) β':=by
 simp only[PR,hn] at ha
 obtain⟨b,base,hbn,ha⟩:=ha.2.2 trivial
 obtain⟨g0,g1,⟨rfl,_⟩|⟨b',base',cells,el,k1,k2,k3,k4,k5⟩⟩:=hr.blk n _ hn
 ·simp at hy
 ·rw[hbn] at k1;simp at k1;obtain⟨rfl,rfl⟩:=k1
  obtain⟨q1,q2⟩:=hx.cells
  have he:e<xs.length:=(A4.1 hy).1
  have hysz:=(g1 e y hy).1
  have hmul:e*sz+sz<=xs.length*sz:=by have:=D6 sz (show e+1<=xs.length from he);rwa[P3] at this
  have hlc:base+e*sz+off+(ρ x).cells.toList.length<=cells.toList.length:=by rw[q1];simp only[F6];omega
  have hone:∀y∈(ρ x).cells.toList,one y=true:=λy hy=>by
   obtain⟨j,hj⟩:=D9.1 hy
   have hjl:j<xd.cells.length:=by rw[<-q1];exact(A4.1 hj).1
   obtain⟨d1,d2⟩:=q2 j _ y (A3 hjl) hj
   exact d1.one d2
  have hnS:∀o,¬S b o:=λo ho=>by have:=(k5 o ho).1;cases this
  have hrun:=sH hti k2 (by rw[q1];exact hl) hone (by simpa using hlc)
  have J3:β.set n (some (b,base))=β:=fT hbn
  have hol:=bK hlc
  have hovl:=bK hlen
  have hflat:∀(j:Nat) (c:D),(ov y.cells off xd.cells)[j]? =some c->c.flat=true:=λj c hj=>by
   rw[eK hlen] at hj
   split at hj
   ·exact(g1 e y hy).2 j c hj
   ·split at hj
    ·obtain⟨z,hz⟩:∃z,(ρ x).cells.toList[j-off]? =some z:=by
      have hjl:j-off<(ρ x).cells.toList.length:=by rw[q1];exact(A4.1 hj).1
      exact⟨_,A3 hjl⟩
     exact(q2 _ c z hj hz).2
    ·exact(g1 e y hy).2 j c hj
  have hofc:(oJ y (ov y.cells off xd.cells)).cells=ov y.cells off xd.cells:=LM hovl hflat
  obtain⟨r1,r2⟩:=written hr (blk':=.row ver sz false (xs.set e (oJ y (ov y.cells off xd.cells)))) hn hbn k2 (cells':=(ov cells.toList (base+e*sz+off) (ρ x).cells.toList).toArray)
   (by simp only[M5,hol,F6]) base (λo ho=>absurd ho (hnS o)) (by simp[BEv])
   (λE _ hh=>by
     rw[J3] at E ⊢
     refine⟨g0,λi z hz=> ?_,.inr ⟨b,base,_,el,hbn,hh,?_,λi z j c hz hj=> ?_,λo ho=>absurd ho (hnS o)⟩⟩
     ·rw[K5] at hz
      split at hz
      ·rename_i hi;subst hi
       simp at hz;obtain⟨_,rfl⟩:=hz
       rw[hofc]
       exact⟨by rw[hovl];exact hysz,hflat⟩
      ·exact g1 i z hz
     ·simp only[M5,hol,F6,L5];exact k3
     ·simp only[Z6]
      rw[eK hlc]
      rw[K5] at hz
      split at hz
      ·rename_i hi;subst hi
       simp at hz;obtain⟨_,rfl⟩:=hz
       rw[hofc,eK hlen] at hj
       by_cases a1:j<off
       ·rw[if_pos a1] at hj
        rw[if_pos (by omega)]
        obtain⟨u,hu,hd⟩:=k4 e y j c hy hj
        exact⟨u,by simpa using hu,hd.evol E.sub E.cell⟩
       ·rw[if_neg a1] at hj
        by_cases a2:j<off+xd.cells.length
        ·rw[if_pos a2] at hj
         rw[if_neg (by omega),if_pos (by rw[q1];omega)]
         have hjl:j-off<(ρ x).cells.toList.length:=by rw[q1];omega
         refine⟨(ρ x).cells.toList[j-off],?_,((q2 (j-off) c _ hj (A3 hjl)).1).evol E.sub E.cell⟩
         rw[show base+e*sz+j-(base+e*sz+off)=j-off by omega]
         exact A3 hjl
        ·rw[if_neg a2] at hj
         rw[if_neg (by omega),if_neg (by rw[q1];omega)]
         obtain⟨u,hu,hd⟩:=k4 e y j c hy hj
         exact⟨u,by simpa using hu,hd.evol E.sub E.cell⟩
      ·rename_i hi
       have hjz:j<sz:=by rw[<-(g1 i z hz).1];exact(A4.1 hj).1
       obtain⟨u,hu,hd⟩:=k4 i z j c hz hj
       refine⟨u,?_,hd.evol E.sub E.cell⟩
       rcases gN i e with hlt|hge
       ·have:=D6 sz (show i+1<=e from hlt)
        rw[P3] at this
        rw[if_pos (by omega)];simpa using hu
       ·have:=D6 sz (show e+1<=i by omega)
        rw[P3] at this
        rw[if_neg (by omega),if_neg (by rw[q1];omega)];simpa using hu)
  rw[J3] at r1 r2
  refine⟨.skip,_,S,β,undef,?_,.inr ⟨rfl,rfl⟩,r1,.u _,r2⟩
  simp[execOp,ho,Instr.storeAt,Instr.sureAddr,ha,hrun]
theorem SG (hT:W9 P T=true) {o:Oper} {t:TypeId} {a x:Operand} (ho:o.op=.store t a x) {av xv:V} {bs:List Blk} {K:Kt} (h:A1b T t av xv bs K):
 ∃v bs',K v bs'/\OpS P o [av,xv] (fB av) bs bs' v:=by
 unfold A1b at h
 cases hty:J8 T t with
 |none=>simp[hty] at h
 |some ti=>
  have hti:=H7 hT hty
  simp only[hty] at h
  replace h:=(J1 _ _).1 h
  obtain⟨hpos0,h⟩:=h
  have hpos:0<ti.size:=B5 hpos0
  clear hpos0
  split at h
  ·
   rename_i n ver e off cs
   split at h
   ·rename_i xd
    obtain⟨hsz,h⟩:=(J1 _ _).1 h
    have hsz:=B2 hsz
    obtain⟨hlen,hk⟩:=FV h (λe=>by rw[e] at hsz;simp at hsz;omega)
    refine⟨_,_,hk,λρ w S hp β hr hor hb=> ?_⟩
    have hor2:=(show OR w S hp β ρ [a,x] _ by simpa[ho,F9] using hor).two
    have hn:hp[n]? =some (.vard cs):=by simpa[fB] using hb 0 n rfl
    obtain⟨hp1,hx1⟩:=hor2
    simp only[fB,J5]
    generalize ha:ρ a=aw at hp1
    cases hp1 with
    |ptr g1 g2=>
     simp only[PR,hn] at g2
     obtain⟨b,hbn,rfl,rfl,rfl⟩:=g2
     cases hx1 with
     |d hd=>
      obtain⟨q1,q2⟩:=hd.cells
      refine qY hti ho hr (l:=xd.cells.map .d) hn (BR.vard_var.1 (hr.blk n _ hn)) hbn ha ⟨by simpa using q1,λj c y hj hy=> ?_⟩ (by simpa using hsz) (by simpa using hlen) (by simp[BEv]) (λw S h β hh=> ?_)
      ·simp only[A8,F0] at hj
       obtain⟨c',hc',rfl⟩:=hj
       exact⟨.d (q2 j c' y hc' hy).1,(q2 j c' y hc' hy).2⟩
      ·rw[<-ov_map] at hh
       exact BR.vard_var.2 hh
   ·rename_i hnd
    obtain⟨l,h,hcl⟩:=rV h
    obtain⟨hsz,h⟩:=(J1 _ _).1 h
    have hsz:=B2 hsz
    rcases jT _ _ _ _ h with⟨rfl,hk⟩|⟨hne,hlen,hk⟩
    ·simp at hsz;omega
    ·refine⟨_,_,hk,λρ w S hp β hr hor hb=> ?_⟩
     have hor2:=(show OR w S hp β ρ [a,x] _ by simpa[ho,F9] using hor).two
     have hn:hp[n]? =some (.vard cs):=by simpa[fB] using hb 0 n rfl
     obtain⟨hp1,hx1⟩:=hor2
     simp only[fB,J5]
     generalize ha:ρ a=aw at hp1
     cases hp1 with
     |ptr g1 g2=>
      simp only[PR,hn] at g2
      obtain⟨b,hbn,rfl,rfl,rfl⟩:=g2
      exact qY hti ho hr (l:=l) hn (BR.vard_var.1 (hr.blk n _ hn)) hbn ha (hcl.rel hx1) hsz hlen (by simp[BEv]) (λw S h β hh=>hh)
  ·
   rename_i n ver e off cs
   obtain⟨l,h,hcl⟩:=rV h
   obtain⟨hsz,h⟩:=(J1 _ _).1 h
   have hsz:=B2 hsz
   rcases jT _ _ _ _ h with⟨rfl,hk⟩|⟨hne,hlen,hk⟩
   ·simp at hsz;omega
   ·refine⟨_,_,hk,λρ w S hp β hr hor hb=> ?_⟩
    have hor2:=(show OR w S hp β ρ [a,x] _ by simpa[ho,F9] using hor).two
    have hn:hp[n]? =some (.var cs):=by simpa[fB] using hb 0 n rfl
    obtain⟨hp1,hx1⟩:=hor2
    simp only[fB,J5]
    generalize ha:ρ a=aw at hp1
    cases hp1 with
    |ptr g1 g2=>
     simp only[PR,hn] at g2
     obtain⟨b,hbn,rfl,rfl,rfl⟩:=g2
     exact qY hti ho hr (l:=l) hn (hr.blk n _ hn) hbn ha (hcl.rel hx1) hsz hlen (by simp[BEv]) (λw S h β hh=>hh)
  ·
   rename_i n ver e off ver' sz ro xs
   split at h
   ·rename_i xd
    obtain⟨hsz,h⟩:=(J1 _ _).1 h
    have hsz:=B2 hsz
    obtain⟨hver,h⟩:=h.elim
    subst hver
    obtain⟨y,hy,h⟩:=O6.1 h
    obtain⟨hlen,h⟩:=FV h (λe=>by rw[e] at hsz;simp at hsz;omega)
    obtain⟨_,hk⟩:=aG.1 h
    refine⟨_,_,hk,λρ w S hp β hr hor hb=> ?_⟩
    have hor2:=(show OR w S hp β ρ [a,x] _ by simpa[ho,F9] using hor).two
    have hn:hp[n]? =some (.row ver sz false xs):=by simpa[fB] using hb 0 n rfl
    obtain⟨hp1,hx1⟩:=hor2
    simp only[fB,J5]
    cases hp1 with
    |ptr g1 g2=>cases hx1 with
     |d hd=>exact A3u hti ho hr hn g2 hd hsz hpos hy hlen
   ·exact h.elim
  ·exact h.elim
theorem xR (w:World) (t:TypeId) (v:Value):(newVar t v).run P w=.ok ⟨w.heap.size,0,none⟩ (w.alloc (.cells v.cells t)):=by
 simp[newVar,newRow,newObj,Sem.run]
theorem CA {w:World} {S:Stb} {h:Hp} {β:Bet} (hr:HR w S h β) {n:Nat} (hn:h[n]? =some .res) (t:TypeId) (cells:Array Value) (blk':Blk) (cs:List V)
 (hl:cells.toList.length=cs.length) (hc:∀(j:Nat) (c:V) (y:Value),cs[j]? =some c->cells.toList[j]? =some y->VR w S h β c y/\c.flat=true)
 (hb:∀w S h β,BR w S h β n (.var cs)->BR w S h β n blk') (hk:(∃cs,blk'=.var cs)∨∃cs,blk'=.vard cs):
 ∃β',HR (w.alloc (.cells cells t)) S (h.set n blk') β'/\F7 w S h β (w.alloc (.cells cells t)) S (h.set n blk') β'/\VR (w.alloc (.cells cells t)) S (h.set n blk') β' (.ptr n 0 0 0) (.pointer (some ⟨w.heap.size,0,none⟩)):=by
 have hnl:n<h.length:=(A4.1 hn).1
 obtain⟨r1,r2⟩:=wG (hone:=by rcases hk with⟨_,rfl⟩|⟨_,rfl⟩<;>rfl) hr hn (.cells cells t) blk' 0 (X8 w cells t) (λE hS hβ hh=>
  hb _ _ _ _ ⟨w.heap.size,cells,t,hβ,hh,by simpa using hl,λj c y hj hy=>by
   obtain⟨a,b⟩:=hc j c y hj (by simpa using hy)
   exact⟨b,a.evol E⟩,hS⟩)
 refine⟨_,r1,r2,.ptr rfl ?_⟩
 have hget:(h.set n blk')[n]? =some blk':=by simp[hnl]
 have hβ:(β.set n (some (w.heap.size,0)))[n]? =some (some (w.heap.size,0)):=by
  have:n<β.length:=D3 hnl hr.len
  simp[this]
 unfold PR
 rw[hget]
 rcases hk with⟨cs,rfl⟩|⟨cs,rfl⟩<;>exact⟨_,hβ,rfl,rfl,rfl⟩
theorem FT {ti:TI} {z:Value} (h:TB ti.zero z.cells.toList=true) (w:World) (S:Stb) (hp:Hp) (β:Bet):z.cells.toList.length=(ti.zero.map V.d).length/\
 ∀(j:Nat) (c:V) (y:Value),(ti.zero.map V.d)[j]? =some c->z.cells.toList[j]? =some y->VR w S hp β c y/\c.flat=true:=by
 obtain⟨h1,h2⟩:=gZ h
 refine⟨by simp[h1],λj c y hj hy=> ?_⟩
 simp only[A8,F0] at hj
 obtain⟨c',hc',rfl⟩:=hj
 obtain⟨a,b⟩:=h2 j c' y hc' hy w S
 exact⟨.d a,b⟩
theorem SS (hT:W9 P T=true) {o:Oper} {t:TypeId} (ho:o.op=.alloc t) {vs:List V} {nf:Nat} {K:Kt} (h:zeroV T t λ_ z=>K (.ptr nf 0 0 0) [.vard z]):
 ∃v bs',K v bs'/\OpS P o vs [nf] [.res] bs' v:=by
 unfold zeroV at h
 cases hty:J8 T t with
 |none=>simp[hty] at h
 |some ti=>
  simp only[hty] at h
  obtain⟨i,z,hi⟩:=S5 (H7 hT hty)
  refine⟨_,_,h,λρ w S hp β hr hor hb=> ?_⟩
  have hn:hp[nf]? =some .res:=by simpa using hb 0 nf rfl
  obtain⟨a,b⟩:=FT hi.zs w S hp β
  obtain⟨β',r1,r2,r3⟩:=CA hr hn t z.cells (.vard ti.zero) (ti.zero.map .d) a b (λ_ _ _ _ hh=>BR.vard_var.2 hh) (.inr ⟨_,rfl⟩)
  refine⟨_,_,S,β',_,?_,.inl rfl,by simpa[J5] using r1,by simpa[J5] using r3,by simpa[J5] using r2⟩
  simp[execOp,ho,Instr.alloc,cH hi,xR]
theorem A1j {o:Oper} {t:TypeId} {x:Operand} (ho:o.op=.box t x) {xv:V} {nf:Nat} {K:Kt} (h:A9l xv λb=>K (.ptr nf 0 0 0) [b]):
 ∃v bs',K v bs'/\OpS P o [xv] [nf] [.res] bs' v:=by
 unfold A9l at h
 split at h
 ·rename_i xd
  refine⟨_,_,h,λρ w S hp β hr hor hb=> ?_⟩
  have hn:hp[nf]? =some .res:=by simpa using hb 0 nf rfl
  have hv:=(show OR w S hp β ρ [x] _ by simpa[ho,F9] using hor).one
  cases hv with
  |d hd=>
   obtain⟨a,b⟩:=hd.cells
   obtain⟨β',r1,r2,r3⟩:=CA hr hn t (ρ x).cells (.vard xd.cells) (xd.cells.map .d) (by simpa using a) (λj c y hj hy=>by
    simp only[A8,F0] at hj
    obtain⟨c',hc',rfl⟩:=hj
    exact⟨.d (b j c' y hc' hy).1,(b j c' y hc' hy).2⟩) (λ_ _ _ _ hh=>BR.vard_var.2 hh) (.inr ⟨_,rfl⟩)
   refine⟨_,_,S,β',_,?_,.inl rfl,by simpa[J5] using r1,by simpa[J5] using r3,by simpa[J5] using r2⟩
   simp[execOp,ho,Instr.box,xR]
 ·obtain⟨l,h,hcl⟩:=rV h
  refine⟨_,_,h,λρ w S hp β hr hor hb=> ?_⟩
  have hn:hp[nf]? =some .res:=by simpa using hb 0 nf rfl
  have hv:=(show OR w S hp β ρ [x] _ by simpa[ho,F9] using hor).one
  obtain⟨a,b⟩:=hcl.rel hv
  obtain⟨β',r1,r2,r3⟩:=CA hr hn t (ρ x).cells (.var l) l a b (λ_ _ _ _ hh=>hh) (.inl ⟨_,rfl⟩)
  refine⟨_,_,S,β',_,?_,.inl rfl,by simpa[J5] using r1,by simpa[J5] using r3,by simpa[J5] using r2⟩
  simp[execOp,ho,Instr.box,xR]
theorem lV {o:Oper} {x:Operand} (hargs:F9 o.op=[x]) {xv v:V} {bs:List Blk} {ns:List Nat}
 (h:∀(ρ:Operand->Value) (w:World) (S:Stb) (hp:Hp) (β:Bet),VR w S hp β xv (ρ x)->∃cv,(execOp ρ o).run P w=.ok (.value cv) w/\VR w S hp β v cv):OpS P o [xv] ns bs bs v:=
 OpS.pure λρ w S hp β _ hor _=>by
  obtain⟨cv,a,b⟩:=h ρ w S hp β (OR.one (by rw[hargs] at hor;exact hor))
  exact⟨_,cv,a,.inl rfl,b⟩
theorem oF {o:Oper} {x y:Operand} (hargs:F9 o.op=[x,y]) {xv yv v:V} {bs:List Blk} {ns:List Nat}
 (h:∀(ρ:Operand->Value) (w:World) (S:Stb) (hp:Hp) (β:Bet),VR w S hp β xv (ρ x)->VR w S hp β yv (ρ y)->∃cv,(execOp ρ o).run P w=.ok (.value cv) w/\VR w S hp β v cv):OpS P o [xv,yv] ns bs bs v:=
 OpS.pure λρ w S hp β _ hor _=>by
  have h2:=OR.two (by rw[hargs] at hor;exact hor)
  obtain⟨cv,a,b⟩:=h ρ w S hp β h2.1 h2.2
  exact⟨_,cv,a,.inl rfl,b⟩
theorem DU {o:Oper} {x:Operand} (ho:o.op=.move x∨o.op=.assign x) {xv:V} {bs:List Blk} {ns:List Nat}:OpS P o [xv] ns bs bs xv:=by
 refine lV (x:=x) (by rcases ho with h|h<;>simp[h,F9]) λρ w S hp β hv=>⟨ρ x,?_,hv⟩
 rcases ho with h|h<;>simp[execOp,h]
theorem ET {o:Oper} {x:Operand} (ho:o.op=.nilCheck x) {xv:V} {bs:List Blk} {ns:List Nat} {K:V->Prop} (h:CF xv K):∃v,K v/\OpS P o [xv] ns bs bs v:=by
 have hargs:F9 o.op=[x]:=by simp[ho,F9]
 unfold CF at h
 split at h
 ·refine⟨_,h,lV hargs λρ w S hp β hv=>⟨ρ x,?_,hv⟩⟩
  cases hv':ρ x<;>rw[hv'] at hv
  case pointer a=>
   cases hv with
   |ptr h1 h2=>
    obtain⟨b,q,e⟩:=h2.ptr
    cases e
    simp[execOp,ho,hv']
  all_goals(cases hv with
   |ptr h1 h2=>obtain⟨b,q,e⟩:=h2.ptr;cases e)
 ·refine⟨_,h,lV hargs λρ w S hp β hv=>⟨ρ x,?_,hv⟩⟩
  generalize hv':ρ x=cv at hv
  cases hv with
  |rp cs o b off uf h1 h2=>simp[execOp,ho,hv']
 ·refine⟨_,h,lV hargs λρ w S hp β hv=>⟨ρ x,?_,hv⟩⟩
  generalize hv':ρ x=cv at hv
  cases hv with
  |fn f cap arr h1 h2=>simp[execOp,ho,hv']
 ·refine⟨_,h,lV hargs λρ w S hp β hv=>⟨ρ x,?_,hv⟩⟩
  generalize hv':ρ x=cv at hv
  cases hv with
  |d h=>cases h with
   |k v h=>simp[execOp,ho,hv']
 ·exact h.elim
theorem XL {o:Oper} {c a b:Operand} (ho:o.op=.pick c a b) {x:Bool} {av bv:V} {bs:List Blk} {ns:List Nat} {K:Kt} (h:br x (K av bs) (K bv bs)):
 ∃v,K v bs/\OpS P o [.d (.b x),av,bv] ns bs bs v:=by
 obtain⟨h1,h2⟩:=(SD _ _ _).1 h
 have key:∀(v:V) (y:Operand),(∀(ρ:Operand->Value) (w:World) (S:Stb) (hp:Hp) (β:Bet),VR w S hp β av (ρ a)->VR w S hp β bv (ρ b)->VR w S hp β v (ρ y))->(y=if x=true then a else b)->OpS P o [.d (.b x),av,bv] ns bs bs v:=by
  intro v y hv hy
  refine OpS.pure λρ w S hp β _ hor _=> ?_
  have h3:=(show OR w S hp β ρ [c,a,b] _ by simpa[ho,F9] using hor).three
  obtain⟨a1,a2,a3⟩:=h3
  generalize hc:ρ c=cw at a1
  cases a1 with
  |d hd=>cases hd with
   |b=>exact⟨_,ρ y,by cases x<;>simp[execOp,ho,asBool,hc,hy],.inl rfl,hv ρ w S hp β a2 a3⟩
 cases hx:x with
 |true=>exact⟨av,h1 hx,by subst hx;exact key av a (λ_ _ _ _ _ h _=>h) (by simp)⟩
 |false=>exact⟨bv,h2 hx,by subst hx;exact key bv b (λ_ _ _ _ _ _ h=>h) (by simp)⟩
theorem zX {t:TypeId} {f:Nat} {k:Nat->TypeId->Prop} (hT:W9 P T=true) (h:zY T t f k):∃fields fd,P.underlying t=some (.struct fields)/\fields[f]? =some fd/\P.cellsOf fd.type≠0/\k fd.offset fd.type:=by
 unfold zY at h
 cases hty:J8 T t with
 |none=>simp[hty] at h
 |some ti=>
  simp only[hty] at h
  split at h
  ·rename_i fs hk
   obtain⟨p,hp,h⟩:=O6.1 h
   obtain⟨fields,hu,hf,_⟩:=iX (H7 hT hty) hk
   obtain⟨fd,h1,h2,h3,h4,h5⟩:=(iZ hf).2 f p hp
   exact⟨fields,fd,hu,by simpa using h1,h5,by rw[<-h2,<-h3];exact h⟩
  ·exact h.elim
theorem GT {w:World} {a:Addr} {fd:Field} (h:P.cellsOf fd.type≠0):(fieldPlace a fd).run P w=.ok (a.add fd.offset) w:=by
 unfold Program.cellsOf at h
 cases hi:P.info? fd.type with
 |none=>simp[hi] at h
 |some i=>
  simp[hi] at h
  simp[fieldPlace,sizeOf,Z2 hi,h]
theorem CK (hT:W9 P T=true) {o:Oper} {t:TypeId} {x:Operand} {f:Nat} (ho:o.op=.fieldAddr t x f) {xv:V} {bs:List Blk} {ns:List Nat} {K:V->Prop} (h:yJ T t xv f K):
 ∃v,K v/\OpS P o [xv] ns bs bs v:=by
 unfold yJ at h
 replace h:=zX hT h
 obtain⟨fields,fd,hu,hf,hc,h⟩:=h
 have hexec:∀(ρ:Operand->Value) (w:World) (b off:Nat),ρ x=.pointer (some ⟨b,off,none⟩)->(execOp ρ o).run P w=.ok (.value (.pointer (some ⟨b,off+fd.offset,none⟩))) w:=by
  intro ρ w b off hρ
  simp[execOp,ho,Instr.fieldAt,run_underlying hu,hf,Instr.sureAddr,hρ,GT hc,bR]
 split at h
 ·rename_i n ver e off
  refine⟨_,h,lV (x:=x) (by simp[ho,F9]) λρ w S hp β hv=> ?_⟩
  generalize hρ:ρ x=cw at hv
  cases hv with
  |ptr h1 h2=>
   obtain⟨b,q,rfl⟩:=h2.ptr
   exact⟨_,hexec ρ w b q hρ,.ptr rfl (h2.add _)⟩
 ·rename_i cs off
  refine⟨_,h,lV (x:=x) (by simp[ho,F9]) λρ w S hp β hv=> ?_⟩
  generalize hρ:ρ x=cw at hv
  cases hv with
  |rp _ _ b base uf h1 h2=>exact⟨_,hexec ρ w b _ hρ,by rw[aP];exact .rp cs (off+fd.offset) b base uf h1 h2⟩
 ·exact h.elim
theorem iQ {t:TypeId} {ti:TI} (h:dO P t ti=true) (ha:G8 ti=true) (w:World) (cs:Array Value) (off:Nat):(part t cs off).run P w=.ok (.agg (cs.extract off (off+ti.size))) w:=by
 simp[part,vL h,ha,P7 h]
theorem cW {t:TypeId} {ti:TI} (h:dO P t ti=true) (ha:G8 ti=false) (w:World) {cs:Array Value} {off:Nat} {v:Value} (hv:cs[off]? =some v):(part t cs off).run P w=.ok v w:=by
 simp[part,vL h,ha,hv]
theorem oS (arr:Array Value) (o n j:Nat) (h:o+n<=arr.size):(arr.extract o (o+n)).toList[j]? =if j<n then arr[o+j]? else none:=by
 by_cases hj:j<n
 ·rw[if_pos hj]
  simp only[L1]
  rw[Array.getElem?_extract]
  simp only[mP h]
  rw[if_pos (by omega)]
 ·rw[if_neg hj]
  simp only[L1]
  rw[Array.getElem?_extract]
  simp only[mP h]
  rw[if_neg (by omega)]
theorem RdD.part {t:TypeId} {ti:TI} (h:dO P t ti=true) {cs:List D} {o:Nat} {x:D} (hk:RdD ti cs o x) {w:World} {S:Stb} {arr:Array Value} (hl:arr.size=cs.length)
 (hc:∀(j:Nat) (c:D) (y:Value),cs[j]? =some c->arr[j]? =some y->DR w S c y/\c.flat=true):∃cv,(part t arr o).run P w=.ok cv w/\DR w S x cv:=by
 have get:∀(j:Nat) (c:D),cs[j]? =some c->∃y,arr[j]? =some y:=λj c hj=>by
  have:j<arr.size:=by rw[hl];exact(A4.1 hj).1
  exact⟨_,B7 this⟩
 rcases hk with⟨ha,hle,rfl⟩|⟨ha,hx⟩
 ·have hsz:(arr.extract o (o+ti.size)).size=ti.size:=by simp;omega
  refine⟨_,iQ h ha w arr o,.agg _ _ (by rw[hsz];simp;omega) (λj c hj=> ?_) (λj c y hj hy=> ?_)⟩
  ·have hj':=bM hj
   obtain⟨y,hy⟩:=get _ c hj'
   exact(hc _ c y hj' hy).2
  ·have hj':=bM hj
   have hjn:j<ti.size:=by rw[gQ] at hj;split at hj<;>first|assumption|cases hj
   have:=oS arr o ti.size j (by omega)
   rw[if_pos hjn,L1,hy] at this
   exact(hc _ c y hj' this.symm).1
 ·obtain⟨y,hy⟩:=get o x hx
  exact⟨y,cW h ha w hy,(hc o x y hx hy).1⟩
theorem RdV.part {t:TypeId} {ti:TI} (h:dO P t ti=true) {cs:List V} {o:Nat} {x:V} (hk:RdV ti cs o x) {w:World} {S:Stb} {hp:Hp} {β:Bet} {arr:Array Value} (hl:arr.size=cs.length)
 (hc:∀(j:Nat) (c:V) (y:Value),cs[j]? =some c->arr[j]? =some y->VR w S hp β c y/\c.flat=true):∃cv,(part t arr o).run P w=.ok cv w/\VR w S hp β x cv:=by
 have get:∀(j:Nat) (c:V),cs[j]? =some c->∃y,arr[j]? =some y:=λj c hj=>by
  have:j<arr.size:=by rw[hl];exact(A4.1 hj).1
  exact⟨_,B7 this⟩
 rcases hk with⟨ha,hle,hm⟩|⟨ha,hx⟩
 ·have hsz:(arr.extract o (o+ti.size)).size=ti.size:=by simp;omega
  refine⟨_,iQ h ha w arr o,?_⟩
  have:=hm.rel (w:=w) (S:=S) (hp:=hp) (β:=β) (us:=(arr.extract o (o+ti.size)).toList) (by simp;omega) (λj c y hj hy=>by
   have hj':=bM hj
   have hjn:j<ti.size:=by rw[gQ] at hj;split at hj<;>first|assumption|cases hj
   have:=oS arr o ti.size j (by omega)
   rw[if_pos hjn,hy] at this
   exact hc _ c y hj' this.symm)
  rw[Y4] at this
  exact this
 ·obtain⟨y,hy⟩:=get o x hx
  exact⟨y,cW h ha w hy,(hc o x y hx hy).1⟩
theorem SO (hT:W9 P T=true) {o:Oper} {t:TypeId} {x:Operand} {f:Nat} (ho:o.op=.field t x f) {xv:V} {bs:List Blk} {ns:List Nat} {K:V->Prop} (h:A1g T t xv f K):
 ∃v,K v/\OpS P o [xv] ns bs bs v:=by
 unfold A1g at h
 replace h:=zX hT h
 obtain⟨fields,fd,hu,hf,hc,h⟩:=h
 cases hty:J8 T fd.type with
 |none=>simp[hty] at h
 |some ti=>
  have hti:=H7 hT hty
  simp only[hty] at h
  have hexec:∀(ρ:Operand->Value) (w:World) (arr:Array Value) (cv:Value),ρ x=.agg arr->(part fd.type arr fd.offset).run P w=.ok cv w->(execOp ρ o).run P w=.ok (.value cv) w:=by
   intro ρ w arr cv hρ hr
   simp[execOp,ho,Instr.field,run_underlying hu,hf,asAgg,hρ,hr]
  split at h
  ·rename_i cs
   replace h:=fC h
   obtain⟨y,hk,hy⟩:=h
   refine⟨_,hk,lV (x:=x) (by simp[ho,F9]) λρ w S hp β hv=> ?_⟩
   generalize hρ:ρ x=cw at hv
   cases hv with
   |d hd=>cases hd with
    |agg _ arr h1 h2 h3=>
     obtain⟨cv,e1,e2⟩:=hy.part hti (w:=w) (S:=S) h1 λj c y hj hy=>⟨h3 j c y hj hy,h2 j c hj⟩
     exact⟨cv,hexec ρ w arr cv hρ e1,.d e2⟩
  ·rename_i cs
   replace h:=BD h
   obtain⟨y,hk,hy⟩:=h
   refine⟨_,hk,lV (x:=x) (by simp[ho,F9]) λρ w S hp β hv=> ?_⟩
   generalize hρ:ρ x=cw at hv
   cases hv with
   |agg _ arr h1 h2 h3=>
    obtain⟨cv,e1,e2⟩:=hy.part hti (w:=w) (S:=S) h1 λj c y hj hy=>⟨h3 j c y hj hy,h2 j c hj⟩
    exact⟨cv,hexec ρ w arr cv hρ e1,e2⟩
  ·exact h.elim
theorem kT (k:IntKind) (n:Int) (w:World):(asIntOf (.int k n)).run P w=.ok (k,n) w:=by simp[asIntOf]
theorem run_indexAt_slice {t e:TypeId} {te:TI} (ht:P.underlying t=some (.slice e)) (he:dO P e te=true) {w:World} {k:IntKind} {n:Int} {b off len cap:Nat} (h0:0<=n) (h1:n<len):
 (Instr.indexAt t (.slice (some ⟨b,off,none⟩) len cap) (.int k n)).run P w=.ok (.pointer (some ⟨b,off+n.toNat*te.size,none⟩)) w:=by
 simp[Instr.indexAt,kT,run_underlying ht,P7 he,h0,h1,bR]
theorem sJ {t e:TypeId} {te:TI} {len:Nat} (ht:P.underlying t=some (.array len e)) (he:dO P e te=true) {w:World} {k:IntKind} {n:Int} {b off:Nat} (h0:0<=n) (h1:n<len):
 (Instr.indexAt t (.pointer (some ⟨b,off,none⟩)) (.int k n)).run P w=.ok (.pointer (some ⟨b,off+n.toNat*te.size,none⟩)) w:=by
 simp[Instr.indexAt,kT,run_underlying ht,P7 he,h0,h1,bR,Instr.sureAddr]
theorem CJ (hT:W9 P T=true) {o:Oper} {t:TypeId} {x ix:Operand} (ho:o.op=.indexAddr t x ix) {xv iv:V} {bs:List Blk} {K:Kt} (h:yI T t xv iv bs K):
 ∃v,K v bs/\OpS P o [xv,iv] (zU xv) bs bs v:=by
 unfold yI at h
 split at h
 ·rename_i ti k n hty
  have hti:=H7 hT hty
  have hargs:F9 o.op=[x,ix]:=by simp[ho,F9]
  have hexec:∀(ρ:Operand->Value) (w:World) cv,ρ ix=.int k n->(Instr.indexAt t (ρ x) (.int k n)).run P w=.ok cv w->(execOp ρ o).run P w=.ok (.value cv) w:=by
   intro ρ w cv h1 h2
   simp[execOp,ho,h1,h2]
  have hint:∀{w:World} {S:Stb} {hp:Hp} {β:Bet} {cv:Value},VR w S hp β (.d (.i k n)) cv->cv=.int k n:=by
   intro w S hp β cv hv
   cases hv with
   |d hd=>cases hd;rfl
  split at h
  ·
   rename_i e sz full xs hk
   cases hte:J8 T e with
   |none=>simp[hte] at h
   |some te=>
    have hteo:=H7 hT hte
    simp only[hte] at h
    replace h:=(J1 _ _).1 h
    obtain⟨hsz,h⟩:=h
    replace h:=h.elim
    obtain⟨h0,h⟩:=h
    replace h:=O6.1 h
    obtain⟨y,hy,h⟩:=h
    have hsz:=B2 hsz
    refine⟨_,h,oF hargs λρ w S hp β hv hi=> ?_⟩
    have hi:=hint hi
    generalize hρ:ρ x=cw at hv
    cases hv with
    |d hd=>cases hd with
     |sl _ _ _ a cap b off uf g1 g2 g3 g4 g5 g6 g7=>
      have hlt:n.toNat<xs.length:=(A4.1 hy).1
      have ha:=g4 (λe=>by rw[e] at hlt;simp at hlt)
      subst ha
      refine⟨_,hexec ρ w _ hi (by rw[hρ];exact run_indexAt_slice (P8 hti hk) hteo h0 (by omega)),?_⟩
      have:=VR.rp (w:=w) (S:=S) (h:=hp) (β:=β) y.cells 0 b (off+n.toNat*te.size) (uf n.toNat) (λj c hj=>by
       have:=g6 n.toNat y j c hy hj
       rw[hsz] at this
       exact this) (λj c hj=>g7 n.toNat y j c hy hj)
      simpa using this
  ·
   rename_i e m ver lo len full ver' sz ro xs hk
   cases hte:J8 T e with
   |none=>simp[hte] at h
   |some te=>
    have hteo:=H7 hT hte
    simp only[hte] at h
    replace h:=(J1 _ _).1 h
    obtain⟨hsz,h⟩:=h
    replace h:=h.elim
    obtain⟨⟨hver,h0,h1⟩,h⟩:=h
    have hsz:=B2 hsz
    subst hver
    refine⟨_,h,OpS.pure λρ w S hp β hr hor hb=> ?_⟩
    have hn:hp[m]? =some (.row ver sz ro xs):=by simpa[zU] using hb 0 m rfl
    obtain⟨hv,hi⟩:=OR.two (by rw[hargs] at hor;exact hor)
    have hi:=hint hi
    generalize hρ:ρ x=cw at hv
    cases hv with
    |sref g0 g=>
     obtain⟨a,cap,rfl,hc,hf,g⟩:=g
     rw[hn] at g
     obtain⟨_,g⟩:=g
     rcases g rfl with⟨_,hz⟩|⟨b,base,cells,el,fz,k1,k2,k3,k4⟩
     ·omega
     ·have ha:=k2 (by omega)
      subst ha
      refine⟨_,_,hexec ρ w _ hi (by rw[hρ];exact run_indexAt_slice (P8 hti hk) hteo h0 h1),.inl rfl,.ptr rfl ?_⟩
      unfold PR;rw[hn]
      refine⟨B1 _,⟨_,_,rfl⟩,λ_=>⟨b,base,k1,?_⟩⟩
      rw[<-hsz,H5]
      simp[aP]
  ·
   rename_i e m ver lo len full cs hk
   cases hte:J8 T e with
   |none=>simp[hte] at h
   |some te=>
    have hteo:=H7 hT hte
    simp only[hte] at h
    replace h:=(J1 _ _).1 h
    obtain⟨hsz,h⟩:=h
    replace h:=h.elim
    obtain⟨⟨h0,h1⟩,h⟩:=h
    have hsz:=B2 hsz
    refine⟨_,h,OpS.pure λρ w S hp β hr hor hb=> ?_⟩
    have hn:hp[m]? =some (.var cs):=by simpa[zU] using hb 0 m rfl
    obtain⟨hv,hi⟩:=OR.two (by rw[hargs] at hor;exact hor)
    have hi:=hint hi
    generalize hρ:ρ x=cw at hv
    cases hv with
    |sref g0 g=>
     obtain⟨a,cap,rfl,hc,hf,g⟩:=g
     rw[hn] at g
     obtain⟨_,b,cells,el,fz,k1,k2,k3,k4⟩:=g
     have ha:=k2 (by omega)
     subst ha
     refine⟨_,_,hexec ρ w _ hi (by rw[hρ];exact run_indexAt_slice (P8 hti hk) hteo h0 h1),.inl rfl,.ptr rfl ?_⟩
     unfold PR;rw[hn]
     refine⟨b,k1,rfl,rfl,?_⟩
     rw[hsz,L2]
  ·
   rename_i e m ver lo len full cs hk
   cases hte:J8 T e with
   |none=>simp[hte] at h
   |some te=>
    have hteo:=H7 hT hte
    simp only[hte] at h
    replace h:=(J1 _ _).1 h
    obtain⟨hsz,h⟩:=h
    replace h:=h.elim
    obtain⟨⟨h0,h1⟩,h⟩:=h
    have hsz:=B2 hsz
    refine⟨_,h,OpS.pure λρ w S hp β hr hor hb=> ?_⟩
    have hn:hp[m]? =some (.vard cs):=by simpa[zU] using hb 0 m rfl
    obtain⟨hv,hi⟩:=OR.two (by rw[hargs] at hor;exact hor)
    have hi:=hint hi
    generalize hρ:ρ x=cw at hv
    cases hv with
    |sref g0 g=>
     obtain⟨a,cap,rfl,hc,hf,g⟩:=g
     rw[hn] at g
     obtain⟨_,b,cells,el,fz,k1,k2,k3,k4⟩:=g
     have ha:=k2 (by omega)
     subst ha
     refine⟨_,_,hexec ρ w _ hi (by rw[hρ];exact run_indexAt_slice (P8 hti hk) hteo h0 h1),.inl rfl,.ptr rfl ?_⟩
     unfold PR;rw[hn]
     refine⟨b,k1,rfl,rfl,?_⟩
     rw[hsz,L2]
  ·
   rename_i len e m ver el off hk
   cases hte:J8 T e with
   |none=>simp[hte] at h
   |some te=>
    have hteo:=H7 hT hte
    simp only[hte] at h
    replace h:=h.elim
    obtain⟨⟨h0,h1⟩,h⟩:=h
    refine⟨_,h,oF hargs λρ w S hp β hv hi=> ?_⟩
    have hi:=hint hi
    generalize hρ:ρ x=cw at hv
    cases hv with
    |ptr g1 g2=>
     obtain⟨b,q,rfl⟩:=g2.ptr
     exact⟨_,hexec ρ w _ hi (by rw[hρ];exact sJ (iY hti hk) hteo h0 h1),.ptr rfl (g2.add _)⟩
  ·
   rename_i len e cs off hk
   cases hte:J8 T e with
   |none=>simp[hte] at h
   |some te=>
    have hteo:=H7 hT hte
    simp only[hte] at h
    replace h:=h.elim
    obtain⟨⟨h0,h1⟩,h⟩:=h
    refine⟨_,h,oF hargs λρ w S hp β hv hi=> ?_⟩
    have hi:=hint hi
    generalize hρ:ρ x=cw at hv
    cases hv with
    |rp _ _ b base uf g1 g2=>
     exact⟨_,hexec ρ w _ hi (by rw[hρ];exact sJ (iY hti hk) hteo h0 h1),by rw[aP];exact .rp cs (off+n.toNat*te.size) b base uf g1 g2⟩
  ·exact h.elim
 ·exact h.elim
theorem W5 {w:World} {S:Stb} {hp:Hp} {β:Bet} {k:IntKind} {n:Int} {cv:Value} (h:VR w S hp β (.d (.i k n)) cv):cv=.int k n:=by
 cases h with
 |d hd=>cases hd;rfl
theorem qK {w:World} {S:Stb} {hp:Hp} {β:Bet} {x:Bool} {cv:Value} (h:VR w S hp β (.d (.b x)) cv):cv=.bool x:=by
 cases h with
 |d hd=>cases hd;rfl
theorem vF {w:World} {S:Stb} {hp:Hp} {β:Bet} {x:ByteArray} {cv:Value} (h:VR w S hp β (.d (.s x)) cv):cv=.string x:=by
 cases h with
 |d hd=>cases hd;rfl
def dv:D->Value
 | .b x=>.bool x
 | .i k n=>.int k n
 | .s x=>.string x
 |_=>undef
theorem A4v {op:BinOp} {kd:IntKind} {x y:Int} {K:D->Prop} (h:A9x op kd x y K):∃r,K r/\∀(t:TypeId) (ox oy:Operand) (w:World),
 (do eqGuard op t ox oy (.int kd x) (.int kd y);binOp op t (.int kd x) (.int kd y):Sem Value).run P w=.ok (dv r) w/\∀S,DR w S r (dv r):=by
 unfold A9x at h
 split at h
 ·exact⟨_,h.elim,λt ox oy w=>⟨by simp[eqGuard_at_int,binOp,Op.intArith,dv],λS=>.i _ _⟩⟩
 ·exact⟨_,h.elim,λt ox oy w=>⟨by simp[eqGuard_at_int,binOp,Op.intArith,dv],λS=>.i _ _⟩⟩
 ·exact⟨_,h.elim,λt ox oy w=>⟨by simp[eqGuard_at_int,binOp,Op.intArith,dv],λS=>.i _ _⟩⟩
 ·exact⟨_,h.elim,λt ox oy w=>⟨by rw[show decide (x=y)=(x==y) by rw[bT];simp];simp[eqGuard_at_int,binOp,Op.intArith,Op.intCmp,dv],λS=>.b _⟩⟩
 ·exact⟨_,h.elim,λt ox oy w=>⟨by rw[show(!(decide (x=y)))=(x !=y) by rw[bT];simp];simp[eqGuard_at_int,binOp,Op.intArith,Op.intCmp,dv],λS=>.b _⟩⟩
 ·exact⟨_,h.elim,λt ox oy w=>⟨by simp[eqGuard_at_int,binOp,Op.intArith,Op.intCmp,dv],λS=>.b _⟩⟩
 ·exact⟨_,h.elim,λt ox oy w=>⟨by simp[eqGuard_at_int,binOp,Op.intArith,Op.intCmp,dv],λS=>.b _⟩⟩
 ·exact⟨_,h.elim,λt ox oy w=>⟨by simp[eqGuard_at_int,binOp,Op.intArith,Op.intCmp,dv],λS=>.b _⟩⟩
 ·exact⟨_,h.elim,λt ox oy w=>⟨by simp[eqGuard_at_int,binOp,Op.intArith,Op.intCmp,dv],λS=>.b _⟩⟩
 ·obtain⟨hy,h⟩:=h.elim
  exact⟨_,h.elim,λt ox oy w=>⟨by simp[eqGuard_at_int,binOp,Op.intDiv,hy,dv],λS=>.i _ _⟩⟩
 ·obtain⟨hy,h⟩:=h.elim
  exact⟨_,h,λt ox oy w=>⟨by simp[eqGuard_at_int,binOp,Op.intDiv,hy,dv],λS=>.i _ _⟩⟩
 ·exact⟨_,h,λt ox oy w=>⟨by simp[eqGuard_at_int,binOp,Op.intBits,eX,dv],λS=>.i _ _⟩⟩
 ·exact⟨_,h,λt ox oy w=>⟨by simp[eqGuard_at_int,binOp,Op.intBits,eX,dv],λS=>.i _ _⟩⟩
 ·exact⟨_,h,λt ox oy w=>⟨by simp[eqGuard_at_int,binOp,Op.intBits,eX,dv],λS=>.i _ _⟩⟩
 ·exact⟨_,h,λt ox oy w=>⟨by simp[eqGuard_at_int,binOp,Op.intBits,eX,dv],λS=>.i _ _⟩⟩
 ·exact h.elim
theorem A7y {op:BinOp} {kd k2:IntKind} {x y:Int} {K:D->Prop} (h:shOp op kd x y K):∃r,K r/\∀(t:TypeId) (ox oy:Operand) (w:World),
 (do eqGuard op t ox oy (.int kd x) (.int k2 y);binOp op t (.int kd x) (.int k2 y):Sem Value).run P w=.ok (dv r) w/\∀S,DR w S r (dv r):=by
 unfold shOp at h
 split at h
 ·obtain⟨hy,h⟩:=h.elim
  exact⟨_,h.elim,λt ox oy w=>⟨by simp[eqGuard,binOp,Op.shift,show ¬y<0 by omega,dv],λS=>.i _ _⟩⟩
 ·obtain⟨hy,h⟩:=h.elim
  exact⟨_,h,λt ox oy w=>⟨by simp[eqGuard,binOp,Op.shift,show ¬y<0 by omega,dv],λS=>.i _ _⟩⟩
 ·exact h.elim
theorem A3t {op:BinOp} {x y:ByteArray} {K:D->Prop} (h:A7k op x y K):∃r,K r/\∀(t:TypeId) (ox oy:Operand) (w:World),
 (do eqGuard op t ox oy (.string x) (.string y);binOp op t (.string x) (.string y):Sem Value).run P w=.ok (dv r) w/\∀S,DR w S r (dv r):=by
 have hg:eqGuard op 0 (.tmp 0) (.tmp 0) (.string x) (.string y)=pure ():=by cases op<;>rfl
 have hg:∀t ox oy,eqGuard op t ox oy (.string x) (.string y)=pure ():=λt ox oy=>by cases op<;>rfl
 unfold A7k at h
 split at h
 ·exact⟨_,h.elim,λt ox oy w=>⟨by rw[show decide (x.toList=y.toList)=(x.toList==y.toList) by rw[bT];simp];simp[hg,binOp,Op.stringOp,dv],λS=>.b _⟩⟩
 ·exact⟨_,h.elim,λt ox oy w=>⟨by rw[show(!(decide (x.toList=y.toList)))= !(x.toList==y.toList) by rw[bT];simp];simp[hg,binOp,Op.stringOp,dv],λS=>.b _⟩⟩
 ·exact⟨_,h,λt ox oy w=>⟨by simp[hg,binOp,Op.stringOp,dv],λS=>.b _⟩⟩
 ·exact⟨_,h,λt ox oy w=>⟨by simp[hg,binOp,Op.stringOp,dv],λS=>.b _⟩⟩
 ·exact⟨_,h,λt ox oy w=>⟨by simp[hg,binOp,Op.stringOp,dv],λS=>.b _⟩⟩
 ·exact⟨_,h,λt ox oy w=>⟨by simp[hg,binOp,Op.stringOp,dv],λS=>.b _⟩⟩
 ·obtain⟨hs,h⟩:=h.elim
  have hm:¬((x.size+y.size:Nat):Int)>IntKind.i64.max:=by have:IntKind.i64.max=9223372036854775807:=rfl;omega
  refine⟨_,h.elim,λt ox oy w=>⟨?_,λS=>.s _⟩⟩
  simp only[hg,binOp,Op.stringOp,dv]
  rw[if_neg hm];simp
 ·exact h.elim
theorem eN {xs:List D} (h:X7 .bool xs=true):∃x,xs=[.b x]:=by
 match xs with
 |[.b x]=>exact⟨x,rfl⟩
 |[]|[.i _ _]|[.s _]|[.k _]|[.agg _]|[.sl _ _ _]|_::_::_=>simp[X7] at h
theorem gT {k:IntKind} {xs:List D} (h:X7 (.int k) xs=true):∃x,xs=[.i k x]:=by
 match xs with
 |[.i k' x]=>simp[X7] at h;subst h;exact⟨x,rfl⟩
 |[]|[.b _]|[.s _]|[.k _]|[.agg _]|[.sl _ _ _]|_::_::_=>simp[X7] at h
theorem cB {xs:List D} (h:X7 .string xs=true):∃x,xs=[.s x]:=by
 match xs with
 |[.s x]=>exact⟨x,rfl⟩
 |[]|[.b _]|[.i _ _]|[.k _]|[.agg _]|[.sl _ _ _]|_::_::_=>simp[X7] at h
theorem tP {n d:Nat} (ih:∀(t:TypeId) (xs ys:List D),V1 T n t xs=true->V1 T n t ys=true->∀(w:World) (S:Stb) (ti:TI),J8 T t=some ti->
 (G8 ti=true->∀(a b:Array Value),(∀(j:Nat) (c:D) (y:Value),xs[j]? =some c->a[j]? =some y->DR w S c y)->(∀(j:Nat) (c:D) (y:Value),ys[j]? =some c->b[j]? =some y->DR w S c y)->a.size=xs.length->b.size=ys.length->
   (Op.equalIn d t (.agg a) (.agg b)).run P w=.ok (eqD T n t xs ys) w)/\
 (G8 ti=false->∀(u v:Value),(∀c,xs=[c]->DR w S c u)->(∀c,ys=[c]->DR w S c v)->(Op.equalIn d t u v).run P w=.ok (eqD T n t xs ys) w))
 (hT:W9 P T=true) {xs ys:List D} {w:World} {S:Stb} {a b:Array Value} (hxa:∀(j:Nat) (c:D) (y:Value),xs[j]? =some c->a[j]? =some y->DR w S c y) (hyb:∀(j:Nat) (c:D) (y:Value),ys[j]? =some c->b[j]? =some y->DR w S c y)
 (ha:a.size=xs.length) (hb:b.size=ys.length):
 ∀(fs:List (Nat×TypeId)) (fields:List Field) (off:Nat),T3 P fs fields=true->kG T (V1 T n) xs off fs=true->kG T (V1 T n) ys off fs=true->
  (Op.eqFields d a b fields).run P w=.ok (A0f T (eqD T n) xs ys fs) w
 |[],[],_,_,_,_=>by simp[Op.eqFields,A0f]
 |[],_::_,_,h,_,_=>by simp[T3] at h
 |_::_,[],_,h,_,_=>by simp[T3] at h
 |p::fs,f::fields,off,h,hx,hy=>by
  simp only[T3,C8,F3] at h
  obtain⟨⟨⟨⟨h1,h2⟩,h3⟩,h4⟩,h5⟩:=h
  simp only[kG] at hx hy
  cases hty:J8 T p.2 with
  |none=>simp[hty] at hx
  |some ti=>
   have hti:=H7 hT hty
   simp only[hty,C8] at hx hy
   obtain⟨⟨⟨hx0,hx1⟩,hx2⟩,hx3⟩:=hx
   obtain⟨⟨⟨_,hy1⟩,hy2⟩,hy3⟩:=hy
   have hx0:=B2 hx0
   subst hx0
   have hx1:=B5 hx1
   have hy1:=B5 hy1
   have rest:=tP ih hT hxa hyb ha hb fs fields _ h5 hx3 hy3
   obtain⟨i1,i2⟩:=ih p.2 _ _ hx2 hy2 w S ti hty
   have sub:∀{zs:List D} {c:Array Value} (hl:c.size=zs.length) (hz1:p.1+ti.size<=zs.length) (hzc:∀(j:Nat) (x:D) (y:Value),zs[j]? =some x->c[j]? =some y->DR w S x y),
    (c.extract p.1 (p.1+ti.size)).size=((zs.drop p.1).take ti.size).length/\∀(j:Nat) (x:D) (y:Value),((zs.drop p.1).take ti.size)[j]? =some x->(c.extract p.1 (p.1+ti.size))[j]? =some y->DR w S x y:=by
    intro zs c hl hz1 hzc
    refine⟨by simp;omega,λj x y hj hjy=> ?_⟩
    have hj':=bM hj
    have hjn:j<ti.size:=by rw[gQ] at hj;split at hj<;>first|assumption|cases hj
    have:=oS c p.1 ti.size j (by omega)
    rw[if_pos hjn,L1,hjy] at this
    exact hzc _ x y hj' this.symm
   have step:∃(pa pb:Value),(part f.type a f.offset).run P w=.ok pa w/\(part f.type b f.offset).run P w=.ok pb w/\(Op.equalIn d f.type pa pb).run P w=.ok (eqD T n p.2 ((xs.drop p.1).take ti.size) ((ys.drop p.1).take ti.size)) w:=by
    rw[<-h1,<-h2]
    cases hag:G8 ti with
    |true=>
     obtain⟨s1,s2⟩:=sub ha hx1 hxa
     obtain⟨s3,s4⟩:=sub hb hy1 hyb
     exact⟨_,_,iQ hti hag w a _,iQ hti hag w b _,i1 hag _ _ s2 s4 s1 s3⟩
    |false=>
     have hs:ti.size≠0:=by
      obtain⟨i,z,hi⟩:=S5 hti
      unfold Program.cellsOf at h4
      rw[<-h2,hi.info] at h4
      simp[hi.size] at h4
      exact h4
     have g1:p.1<a.size:=by omega
     have g2:p.1<b.size:=by omega
     have e1:=cW (P:=P) hti hag w (B7 g1)
     have e2:=cW (P:=P) hti hag w (B7 g2)
     refine⟨_,_,e1,e2,i2 hag _ _ (λc hc=> ?_) (λc hc=> ?_)⟩
     ·have:xs[p.1+0]? =some c:=bM (by rw[hc];rfl)
      exact hxa _ c _ this (B7 g1)
     ·have:ys[p.1+0]? =some c:=bM (by rw[hc];rfl)
      exact hyb _ c _ this (B7 g2)
   obtain⟨pa,pb,e1,e2,e3⟩:=step
   simp only[Op.eqFields,if_pos h3,Sem.run_bind,e1,e2,e3,Result.andThen_ok,A0f,hty]
   cases eqD T n p.2 ((xs.drop p.1).take ti.size) ((ys.drop p.1).take ti.size)
   ·simp
   ·simp[rest]
theorem lJ (hT:W9 P T=true):∀(n d:Nat),n<=d->∀(t:TypeId) (xs ys:List D),V1 T n t xs=true->V1 T n t ys=true->∀(w:World) (S:Stb) (ti:TI),J8 T t=some ti->
 (G8 ti=true->∀(a b:Array Value),(∀(j:Nat) (c:D) (y:Value),xs[j]? =some c->a[j]? =some y->DR w S c y)->(∀(j:Nat) (c:D) (y:Value),ys[j]? =some c->b[j]? =some y->DR w S c y)->a.size=xs.length->b.size=ys.length->
   (Op.equalIn d t (.agg a) (.agg b)).run P w=.ok (eqD T n t xs ys) w)/\
 (G8 ti=false->∀(u v:Value),(∀c,xs=[c]->DR w S c u)->(∀c,ys=[c]->DR w S c v)->(Op.equalIn d t u v).run P w=.ok (eqD T n t xs ys) w)
 |0,d,_,t,xs,ys,h,_,_,_,_,_=>by simp[V1] at h
 |n+1,0,h,_,_,_,_,_,_,_,_,_=>by omega
 |n+1,d+1,hnd,t,xs,ys,hx,hy,w,S,ti,hty=>by
  have hti:=H7 hT hty
  simp only[V1,hty] at hx hy
  simp only[eqD,hty]
  refine⟨λha a b hxa hyb hla hlb=> ?_,λha u v hu hv=> ?_⟩
  ·cases hk:ti.kind with
   |str fs=>
    simp only[hk] at hx hy ⊢
    obtain⟨fields,f1,f2,f3,_⟩:=iX hti hk
    rw[run_equalIn_struct w d t a b (by simp[Program.fieldsOf,f1]) f3]
    have:P.fieldsOf t=fields:=by simp[Program.fieldsOf,f1]
    rw[this]
    exact tP (lJ hT n d (by omega)) hT hxa hyb hla hlb fs fields.toList 0 f2 hx hy
   |arr m e=>simp[hk,X7] at hx
   |_=>simp[G8,hk] at ha
  ·cases hk:ti.kind with
   |str fs=>simp[G8,hk] at ha
   |bool=>
    simp only[hk] at hx hy ⊢
    obtain⟨x,rfl⟩:=eN hx
    obtain⟨y,rfl⟩:=eN hy
    have:=hu _ rfl;cases this
    have:=hv _ rfl;cases this
    simp[Op.equalIn,run_underlying (jU hti hk),eq1]
   |int k=>
    simp only[hk] at hx hy ⊢
    obtain⟨x,rfl⟩:=gT hx
    obtain⟨y,rfl⟩:=gT hy
    have:=hu _ rfl;cases this
    have:=hv _ rfl;cases this
    simp[Op.equalIn,run_underlying (fZ hti hk),eq1]
   |string=>
    simp only[hk] at hx hy ⊢
    obtain⟨x,rfl⟩:=cB hx
    obtain⟨y,rfl⟩:=cB hy
    have:=hu _ rfl;cases this
    have:=hv _ rfl;cases this
    simp[Op.equalIn,run_underlying (X0 hti hk),eq1,beq_toListBytes]
   |arr m e=>simp[hk,X7] at hx
   |slice e=>simp[hk,X7] at hx
   |map k e=>simp[hk,X7] at hx
   |other=>simp[hk,X7] at hx
theorem A6m (hT:W9 P T=true) {t:TypeId} {k:IntKind} (h:arr2 T t=some k):∃e te,P.underlying t=some (.array 2 e)/\dO P e te=true/\te.size=1/\te.kind=.int k/\P.underlying e=some (.int k)/\P.eqGuardType P.depth t=false:=by
 unfold arr2 at h
 split at h
 ·rename_i ti hty
  split at h
  ·rename_i n e hk
   split at h
   ·rename_i te hn hte
    split at h
    ·rename_i k' hs hk2
     cases h
     have hn:=B2 hn
     subst hn
     exact⟨e,te,iY (H7 hT hty) hk,H7 hT hte,B2 hs,hk2,fZ (H7 hT hte) hk2,IW (H7 hT hty) hk⟩
    ·cases h
   ·cases h
  ·cases h
 ·cases h
theorem AY {t e:TypeId} {te:TI} {k:IntKind} (ht:P.underlying t=some (.array 2 e)) (he:dO P e te=true) (hs:te.size=1) (hk:te.kind=.int k) (hu:P.underlying e=some (.int k)) (d:Nat) (w:World) (a b:Array Value) (x y z v:Int)
 (ha:a= #[.int k x,.int k y]) (hb:b= #[.int k z,.int k v]):(Op.equalIn (d+1+1) t (.agg a) (.agg b)).run P w=.ok (x==z&&y==v) w:=by
 subst ha hb
 have hag:G8 te=false:=by simp[G8,hk]
 have hsz:(sizeOf e).run P w=.ok 1 w:=by
  have:=P7 (P:=P) he (w:=w)
  rwa[hs] at this
 have hp:∀(c:Array Value) (off:Nat) (u:Value),c[off]? =some u->(part e c off).run P w=.ok u w:=λc off u h=>cW he hag w h
 have he1:∀(p q:Int),(Op.equalIn (d+1) e (.int k p) (.int k q)).run P w=.ok (p==q) w:=λp q=>by
  simp[Op.equalIn,run_underlying hu]
 have q0:=hp #[.int k x,.int k y] 0 _ rfl
 have q1:=hp #[.int k x,.int k y] 1 _ rfl
 have q2:=hp #[.int k z,.int k v] 0 _ rfl
 have q3:=hp #[.int k z,.int k v] 1 _ rfl
 generalize hd:d+1=d' at he1 ⊢
 simp only[Op.equalIn,Sem.run_bind,run_underlying ht,Result.andThen_ok,hsz]
 rw[Std.Legacy.Range.forIn_eq_forIn_range']
 simp only[Std.Legacy.Range.size,List.range',List.forIn_cons,List.forIn_nil,gL,L2,C1,Sem.run_bind,q0,q1,q2,q3,Result.andThen_ok,he1]
 by_cases h1:x=z
 ·subst h1
  by_cases h2:y=v
  ·subst h2
   simp[q0,q1,he1]
  ·simp[h2,q0,q1,q3,he1]
 ·simp[h1,q0,q1,q2,q3,he1]
theorem A1k (hT:W9 P T=true) {o:Oper} {op:BinOp} {t yt:TypeId} {x y:Operand} (ho:o.op=.binOp op t x y yt) {xv yv:V} {bs:List Blk} {ns:List Nat} {K:V->Prop} (h:aBin T op t xv yv K):
 ∃v,K v/\OpS P o [xv,yv] ns bs bs v:=by
 unfold aBin at h
 have hargs:F9 o.op=[x,y]:=by simp[ho,F9]
 have hexec:∀(ρ:Operand->Value) (w:World) (u v cv:Value),ρ x=u->ρ y=v->(do eqGuard op t x y u v;binOp op t u v:Sem Value).run P w=.ok cv w->(execOp ρ o).run P w=.ok (.value cv) w:=by
  intro ρ w u v cv h1 h2 h3
  simp only[execOp,ho,h1,h2]
  simp only[Sem.run_bind] at h3 ⊢
  rw[h3];rfl
 split at h
 ·rename_i j a k b
  split at h
  ·obtain⟨r,hk,hr⟩:=A7y (P:=P) (k2:=k) h
   refine⟨_,hk,oF hargs λρ w S hp β hu hv=> ?_⟩
   exact⟨_,hexec ρ w _ _ _ (W5 hu) (W5 hv) (hr t x y w).1,.d ((hr t x y w).2 S)⟩
  replace h:=(J1 _ _).1 h
  obtain⟨hjk,h⟩:=h
  have hjk:=G4 hjk
  subst hjk
  obtain⟨r,hk,hr⟩:=A4v (P:=P) h
  refine⟨_,hk,oF hargs λρ w S hp β hu hv=> ?_⟩
  exact⟨_,hexec ρ w _ _ _ (W5 hu) (W5 hv) (hr t x y w).1,.d ((hr t x y w).2 S)⟩
 ·rename_i a b
  obtain⟨r,hk,hr⟩:=A3t (P:=P) h
  refine⟨_,hk,oF hargs λρ w S hp β hu hv=> ?_⟩
  exact⟨_,hexec ρ w _ _ _ (vF hu) (vF hv) (hr t x y w).1,.d ((hr t x y w).2 S)⟩
 ·rename_i a b
  replace h:=(J1 _ _).1 h
  obtain⟨hl,h⟩:=h
  simp only[C8,jD] at hl
  obtain⟨hl,hag⟩:=hl
  have hti:∃ti,J8 T t=some ti:=by
   simp only[V1] at hl
   cases hty:J8 T t with
   |none=>simp[hty] at hl
   |some ti=>exact⟨ti,rfl⟩
  obtain⟨ti,hty⟩:=hti
  have htk:=H7 hT hty
  have hb:P.underlying t=some .bool:=by
   simp only[V1,hty] at hl
   simp only[KK,hty] at hag
   cases hk:ti.kind with
   |bool=>exact jU htk hk
   |str fs=>simp[G8,hk] at hag
   |_=>simp[hk,X7] at hl
  cases op<;>first|exact h.elim|skip
  ·have e:decide (a=b)=(a==b):=by rw[bT];simp
   refine⟨_,h.elim,oF hargs λρ w S hp β hu hv=>⟨.bool (decide (a=b)),hexec ρ w _ _ _ (qK hu) (qK hv) ?_,.d (.b _)⟩⟩
   rw[e];simp only[eqGuard_at_bool,binOp,Op.equal,Sem.run_bind,Sem.run_pure,Result.andThen_ok,show Op.maxDepth=9999+1 from rfl,run_equalIn_bool' w 9999 t a b hb]
  ·have e:decide (a=b)=(a==b):=by rw[bT];simp
   refine⟨_,h.elim,oF hargs λρ w S hp β hu hv=>⟨.bool (!(decide (a=b))),hexec ρ w _ _ _ (qK hu) (qK hv) ?_,.d (.b _)⟩⟩
   rw[e];simp only[eqGuard_at_bool,binOp,Op.equal,Sem.run_bind,Sem.run_pure,Result.andThen_ok,show Op.maxDepth=9999+1 from rfl,run_equalIn_bool' w 9999 t a b hb]
 ·rename_i xs ys
  split at h
  ·rename_i k harr
   obtain⟨e,te,a1,a2,a3,a4,a5,a6⟩:=A6m hT harr
   split at h
   ·rename_i i1 x0 i2 x1 i3 y0 i4 y1
    replace h:=(J1 _ _).1 h
    obtain⟨hl,h⟩:=h
    simp only[C8,F3] at hl
    obtain⟨⟨rfl,rfl⟩,rfl,rfl⟩:=hl
    have key:∀(ρ:Operand->Value) (w:World) (S:Stb) (hp:Hp) (β:Bet),VR w S hp β (.d (.agg [.i i4 x0,.i i4 x1])) (ρ x)->VR w S hp β (.d (.agg [.i i4 y0,.i i4 y1])) (ρ y)->∃a b,ρ x=.agg a/\ρ y=.agg b/\(Op.equalIn 10000 t (.agg a) (.agg b)).run P w=.ok (x0==y0&&x1==y1) w:=by
     intro ρ w S hp β hu hv
     generalize ρ x=cu at hu ⊢
     generalize ρ y=cv at hv ⊢
     have inv:∀(p q:Int) (c:Value),DR w S (.agg [.i i4 p,.i i4 q]) c->c=.agg #[.int i4 p,.int i4 q]:=by
      intro p q c hc
      cases hc with
      |agg _ a b1 b2 b3=>
       have hs:a.size=2:=b1
       have h0:=b3 0 _ a[0] rfl (B7 (by omega))
       have h1:=b3 1 _ a[1] rfl (B7 (by omega))
       generalize e0:a[0]=v0 at h0
       generalize e1:a[1]=v1 at h1
       cases h0;cases h1
       congr 1
       apply Array.ext
       ·simp[hs]
       ·intro i hi hi2
        have:i=0∨i=1:=by omega
        rcases this with rfl|rfl
        ·simpa using e0
        ·simpa using e1
     cases hu with
     |d hd=>cases hv with
      |d hd'=>
       have e1:=inv _ _ _ hd
       have e2:=inv _ _ _ hd'
       exact⟨_,_,e1,e2,AY a1 a2 a3 a4 a5 9998 w _ _ x0 x1 y0 y1 rfl rfl⟩
    cases op<;>first|exact h.elim|skip
    ·refine⟨_,h.elim,oF hargs λρ w S hp β hu hv=> ?_⟩
     obtain⟨a,b,e1,e2,e3⟩:=key ρ w S hp β hu hv
     refine⟨.bool (x0==y0&&x1==y1),hexec ρ w _ _ _ e1 e2 ?_,.d (.b _)⟩
     simp[run_eqGuard_agg w .eql t x y a b a6,run_eql_struct,e3]
    ·refine⟨_,h.elim,oF hargs λρ w S hp β hu hv=> ?_⟩
     obtain⟨a,b,e1,e2,e3⟩:=key ρ w S hp β hu hv
     refine⟨.bool (!(x0==y0&&x1==y1)),hexec ρ w _ _ _ e1 e2 ?_,.d (.b _)⟩
     simp[run_eqGuard_agg w .neq t x y a b a6,run_neq_struct,e3]
   ·exact h.elim
  replace h:=(J1 _ _).1 h
  obtain⟨hl,h⟩:=h
  simp only[C8] at hl
  obtain⟨hagg,hl1,hl2⟩:=hl
  have hti:∃ti,J8 T t=some ti:=by
   simp only[V1] at hl1
   cases hty:J8 T t with
   |none=>simp[hty] at hl1
   |some ti=>exact⟨ti,rfl⟩
  obtain⟨ti,hty⟩:=hti
  have htk:=H7 hT hty
  have key:∀(ρ:Operand->Value) (w:World) (S:Stb) (hp:Hp) (β:Bet),VR w S hp β (.d (.agg xs)) (ρ x)->VR w S hp β (.d (.agg ys)) (ρ y)->∃a b,ρ x=.agg a/\ρ y=.agg b/\(Op.equalIn 10000 t (.agg a) (.agg b)).run P w=.ok (eqD T 4 t xs ys) w/\P.eqGuardType P.depth t=false:=by
   intro ρ w S hp β hu hv
   generalize ρ x=cu at hu ⊢
   generalize ρ y=cv at hv ⊢
   cases hu with
   |d hd=>cases hd with
    |agg _ a a1 a2 a3=>cases hv with
     |d he=>cases he with
      |agg _ b b1 b2 b3=>
       cases hag:G8 ti with
       |true=>
        have:=(lJ hT 4 10000 (by omega) t xs ys hl1 hl2 w S ti hty).1 hag a b a3 b3 a1 b1
        refine⟨a,b,rfl,rfl,this,?_⟩
        cases hk:ti.kind with
        |str fs=>obtain⟨_,_,_,_,h4⟩:=iX htk hk;exact h4
        |arr m e=>simp[V1,hty,hk,X7] at hl1
        |_=>simp[G8,hk] at hag
       |false=>simp[KK,hty,hag] at hagg
  cases op<;>first|exact h.elim|skip
  ·refine⟨_,h.elim,oF hargs λρ w S hp β hu hv=> ?_⟩
   obtain⟨a,b,e1,e2,e3,e4⟩:=key ρ w S hp β hu hv
   refine⟨.bool (eqD T 4 t xs ys),hexec ρ w _ _ _ e1 e2 ?_,.d (.b _)⟩
   simp[run_eqGuard_agg w .eql t x y a b e4,run_eql_struct,e3]
  ·refine⟨_,h.elim,oF hargs λρ w S hp β hu hv=> ?_⟩
   obtain⟨a,b,e1,e2,e3,e4⟩:=key ρ w S hp β hu hv
   refine⟨.bool (!eqD T 4 t xs ys),hexec ρ w _ _ _ e1 e2 ?_,.d (.b _)⟩
   simp[run_eqGuard_agg w .neq t x y a b e4,run_neq_struct,e3]
 ·exact h.elim
theorem A6n {o:Oper} {op:UnOp} {t:TypeId} {x:Operand} (ho:o.op=.unOp op t x) {xv:V} {bs:List Blk} {ns:List Nat} {K:V->Prop} (h:aUn op xv K):
 ∃v,K v/\OpS P o [xv] ns bs bs v:=by
 unfold aUn at h
 have hargs:F9 o.op=[x]:=by simp[ho,F9]
 split at h
 ·exact⟨_,h,lV hargs λρ w S hp β hv=>⟨.bool (!_),by simp[execOp,ho,qK hv,Op.unary],.d (.b _)⟩⟩
 ·exact⟨_,h,lV hargs λρ w S hp β hv=>⟨_,by simp only[execOp,ho,W5 hv,Op.unary,Op.intArith];rfl,.d (.i _ _)⟩⟩
 ·exact h.elim
theorem KC (hT:W9 P T=true) {t:TypeId} (h:BZ T t=true):∃e,P.underlying t=some (.slice e)/\P.underlying e=some (.int .u8):=by
 unfold BZ at h
 split at h
 ·rename_i ti hty
  split at h
  ·rename_i e hk
   split at h
   ·rename_i te hte
    split at h
    ·rename_i hk2
     exact⟨e,P8 (H7 hT hty) hk,fZ (H7 hT hte) hk2⟩
    ·cases h
   ·cases h
  ·cases h
 ·cases h
theorem AE:∀{xs:List D} {l:List UInt8},uT xs=some l->xs.length=l.length/\∀(i:Nat) (x:D),xs[i]? =some x->∃n,x=.i .u8 n/\l[i]? =some (UInt8.ofNat n.toNat)
 |[],l,h=>by
  cases h
  exact⟨rfl,λi x hx=>by simp at hx⟩
 |x::r,l,h=>by
  unfold uT at h
  split at h
  ·rename_i e;cases e
  ·rename_i n r' e
   cases e
   split at h
   ·rename_i l' hl
    cases h
    obtain⟨h1,h2⟩:=AE hl
    refine⟨by simp[h1],λi x hx=> ?_⟩
    cases i with
    |zero=>simp at hx;subst hx;exact⟨n,rfl,rfl⟩
    |succ i=>exact h2 i x (by simpa using hx)
   ·cases h
  ·cases h
theorem UE:∀(us:List Value) (l:List UInt8) (acc:ByteArray) (w:World),us.length=l.length->(∀(i:Nat) (u:Value),us[i]? =some u->∃n:Int,u=.int .u8 n/\l[i]? =some (UInt8.ofNat n.toNat))->
 (forIn us acc λ(c:Value) (s:ByteArray)=>(match c with
   | .int .u8 n=>do pure PUnit.unit;pure (ForInStep.yield (s.push (UInt8.ofNat n.toNat)))
   |_=>stuck "bytesToString: byte expected" :Sem (ForInStep ByteArray))).run P w=.ok ⟨acc.data++l.toArray⟩ w
 |[],[],acc,w,_,_=>by simp
 |[],_::_,_,_,h,_=>by simp at h
 |_::_,[],_,_,h,_=>by simp at h
 |u::us,b::l,acc,w,h,hu=>by
  obtain⟨n,rfl,hb⟩:=hu 0 u rfl
  simp at hb
  subst hb
  have ih:=UE us l (acc.push (UInt8.ofNat n.toNat)) w (by simpa using h) (λi u hi=>hu (i+1) u (by simpa using hi))
  simp only[List.forIn_cons,Sem.run_bind,Sem.run_pure,Result.andThen_ok]
  rw[ih]
  congr 2
  simp[ByteArray.push]
theorem A4c {xs:List D} {l:List UInt8} (hl:uT xs=some l) {w:World} {S:Stb} {sz:Nat} {full:Bool} {v:Value} (h:DR w S (.sl sz full xs) v):(Conv.bytesToString v).run P w=.ok (.string ⟨l.toArray⟩) w:=by
 obtain⟨e1,e2⟩:=AE hl
 cases h with
 |sl _ _ _ a cap b off uf h1 h2 h3 h4 h5 h6 h7=>
  have hcell:∀(i:Nat) (x:D),xs[i]? =some x->sz=1/\w.cell? ⟨b,off+i,none⟩=some (uf i 0)/\∃n:Int,uf i 0=.int .u8 n/\l[i]? =some (UInt8.ofNat n.toNat):=by
   intro i x hx
   obtain⟨n,rfl,hn⟩:=e2 i x hx
   have hs:sz=1:=(h5 i _ hx).symm
   subst hs
   have hc:=(h6 i _ 0 (.i .u8 n) hx rfl).2.1
   have hd:=h7 i _ 0 (.i .u8 n) hx rfl
   refine⟨rfl,by simpa using hc,n,?_,hn⟩
   generalize uf i 0=y at hd ⊢
   cases hd;rfl
  cases a with
  |none=>
   have hx:xs=[]:=by
    by_cases hx:xs=[]
    ·exact hx
    ·cases h4 hx
   subst hx
   cases l with
   |nil=>simp[Conv.bytesToString];rfl
   |cons=>simp at e1
  |some a=>
   have hload:(loadCells a xs.length).run P w=.ok ((List.range xs.length).map λi=>uf i 0).toArray w:=by
    by_cases hx:xs=[]
    ·subst hx;simp[loadCells,loadCellsFrom]
    ·have ha:=h4 hx
     cases ha
     have:=run_loadCells_list (P:=P) w ⟨b,off,none⟩ ((List.range xs.length).map λi=>uf i 0) (λj y hj=>by
      have hjl:j<xs.length:=by
       have:=(A4.1 hj).1
       simpa using this
      obtain⟨_,hc,_⟩:=hcell j _ (A3 hjl)
      simp[hjl] at hj
      subst hj
      simp only[Addr.add]
      split
      ·rename_i h0
       subst h0;simpa using hc
      ·exact hc)
     simpa using this
   have hp:=UE (P:=P) ((List.range xs.length).map λi=>uf i 0) l .empty w (by simp[e1]) (λi u hu=>by
    have hil:i<xs.length:=by
     have:=(A4.1 hu).1
     simpa using this
    obtain⟨_,_,n,h8,h9⟩:=hcell i _ (A3 hil)
    simp[hil] at hu
    subst hu
    exact⟨n,h8,h9⟩)
   simp only[Conv.bytesToString,Sem.run_bind,hload,Result.andThen_ok]
   rw[<-Array.forIn_toList]
   simp only[Sem.run_bind]
   erw [hp]
   simp only[Result.andThen_ok,Sem.run_pure]
   congr 3
   show(#[]:Array UInt8)++l.toArray=l.toArray
   simp
theorem KQ (hT:W9 P T=true) {o:Oper} {src dst:TypeId} {x:Operand} (ho:o.op=.convert src dst x) {xv:V} {bs:List Blk} {ns:List Nat} {K:V->Prop} (hs:∃ti,J8 T src=some ti) (h:KS T src dst xv K):
 ∃v,K v/\OpS P o [xv] ns bs bs v:=by
 unfold KS at h
 have hargs:F9 o.op=[x]:=by simp[ho,F9]
 obtain⟨tis,hsrc⟩:=hs
 have hsu:∃d,P.underlying src=some d:=by
  have:=cG (H7 hT hsrc)
  cases hu:P.underlying src with
  |some d=>exact⟨d,rfl⟩
  |none=>cases hk:tis.kind<;>simp[hk,kindOk,hu] at this
 obtain⟨ds,hsu⟩:=hsu
 split at h
 ·rename_i ti sz full xs hty
  split at h
  ·rename_i hk
   obtain⟨hb,h⟩:=(J1 _ _).1 h
   obtain⟨e,he1,he2⟩:=KC hT hb
   have h:=h.elim
   cases hl:uT xs with
   |none=>rw[hl] at h;exact h.elim
   |some l=>
    rw[hl] at h
    refine⟨_,h,lV hargs λρ w S hp β hv=>⟨.string ⟨l.toArray⟩,?_,.d (.s _)⟩⟩
    generalize ha:ρ x=v at hv
    cases hv with
    |d hd=>
     have hr:=A4c (P:=P) hl hd
     cases hd with
     |sl _ _ _ a cap b off uf=>
      cases a<;>simp[execOp,ho,ha,convert,run_underlying he1,run_underlying he2,run_underlying (X0 (H7 hT hty) hk),hr]
  ·exact h.elim
 ·rename_i ti k n hty
  split at h
  ·rename_i kd hk
   refine⟨_,h.elim,lV hargs λρ w S hp β hv=>⟨.int kd (kd.wrap n),?_,.d (.i _ _)⟩⟩
   simp[execOp,ho,W5 hv,convert,run_underlying hsu,run_underlying (fZ (H7 hT hty) hk),Conv.intToInt]
  ·exact h.elim
 ·rename_i ti b hty
  split at h
  ·rename_i hk
   refine⟨_,h,lV hargs λρ w S hp β hv=>⟨.string b,?_,.d (.s _)⟩⟩
   simp[execOp,ho,vF hv,convert,run_underlying hsu,run_underlying (X0 (H7 hT hty) hk)]
  ·exact h.elim
 ·exact h.elim
theorem KO {o:Oper} {x:Operand} {i:Nat} (ho:o.op=.extract x i) {xv:V} {bs:List Blk} {ns:List Nat} {K:V->Prop} (h:KP xv i K):
 ∃v,K v/\OpS P o [xv] ns bs bs v:=by
 unfold KP at h
 have hargs:F9 o.op=[x]:=by simp[ho,F9]
 split at h
 ·rename_i cs
  obtain⟨y,hy,h⟩:=O6.1 h
  refine⟨_,h,lV hargs λρ w S hp β hv=> ?_⟩
  generalize hρ:ρ x=cw at hv
  cases hv with
  |tup _ arr h1 h2=>
   have hl:i<arr.size:=by rw[h1];exact(A4.1 hy).1
   refine⟨arr[i],?_,h2 i y _ hy (B7 hl)⟩
   simp[execOp,ho,hρ,Instr.extract,B7 hl]
 ·exact h.elim
theorem SM {o:Oper} {t:TypeId} {x ix:Operand} (hT:W9 P T=true) (ho:o.op=.index t x ix) {xv iv:V} {bs:List Blk} {ns:List Nat} {K:V->Prop} (hs:∃ti,J8 T t=some ti/\ti.kind=.string) (h:A1e xv iv K):
 ∃v,K v/\OpS P o [xv,iv] ns bs bs v:=by
 unfold A1e at h
 have hargs:F9 o.op=[x,ix]:=by simp[ho,F9]
 obtain⟨ti,hty,hk⟩:=hs
 have hu:=X0 (H7 hT hty) hk
 split at h
 ·rename_i b k n
  replace h:=h.elim
  obtain⟨h0,h⟩:=h
  obtain⟨y,hy,h⟩:=O6.1 h
  refine⟨_,h,oF hargs λρ w S hp β hv hi=>⟨.int .u8 y.toNat,?_,.d (.i _ _)⟩⟩
  have hb:b[n.toNat]? =some y:=by
   have hl:n.toNat<b.data.size:=by simpa using(A4.1 hy).1
   have hl':n.toNat<b.size:=hl
   rw[getElem?_pos b n.toNat hl']
   have:=(A4.1 hy).2
   simp only[Array.getElem_toList] at this
   rw[<-this];rfl
  simp[execOp,ho,vF hv,W5 hi,Instr.index,kT,run_underlying hu,h0,hb]
 ·exact h.elim
theorem EV {o:Oper} {t:TypeId} {x ix:Operand} (hT:W9 P T=true) (ho:o.op=.index t x ix) {xv iv:V} {bs:List Blk} {ns:List Nat} {K:V->Prop} (h:CI T t xv iv K):
 ∃v,K v/\OpS P o [xv,iv] ns bs bs v:=by
 unfold CI at h
 have hargs:F9 o.op=[x,ix]:=by simp[ho,F9]
 split at h
 ·rename_i ti cs k n hty
  have hti:=H7 hT hty
  split at h
  ·rename_i len e hk
   cases hte:J8 T e with
   |none=>simp[hte] at h
   |some te=>
    have hteo:=H7 hT hte
    simp only[hte] at h
    replace h:=(J1 _ _).1 h
    obtain⟨hc,h⟩:=h
    simp only[C8,jD] at hc
    obtain⟨hag,hsz⟩:=hc
    have hsz:=B2 hsz
    replace h:=h.elim
    obtain⟨⟨h0,h1⟩,h⟩:=h
    obtain⟨y,hy,h⟩:=O6.1 h
    refine⟨_,h,oF hargs λρ w S hp β hv hi=> ?_⟩
    generalize ha:ρ x=u at hv
    cases hv with
    |d hd=>cases hd with
     |agg _ arr a1 a2 a3=>
      have hl:n.toNat<arr.size:=by rw[a1];exact(A4.1 hy).1
      have hg:=B7 hl
      have hsize:(sizeOf e).run P w=.ok 1 w:=by
       have:=P7 (P:=P) hteo (w:=w)
       rwa[hsz] at this
      have hp':=cW (P:=P) hteo hag w (cs:=arr) (off:=n.toNat*1) (v:=arr[n.toNat]) (by rw[L2];exact hg)
      refine⟨arr[n.toNat],?_,.d (a3 _ y _ hy hg)⟩
      simp only[execOp,ho,ha,W5 hi,Instr.index,Sem.run_bind,kT,Result.andThen_ok,run_underlying (iY hti hk),h0,h1,and_self,if_true,hsize,hp',Sem.run_pure]
  ·exact h.elim
 ·exact h.elim
theorem SJ {mx:Bool} {k:IntKind} {K:V->Prop}:∀(l:List V) (x:Int),aMM mx k x l K->∃r,K (.d (.i k r))/\∀(w:World) (S:Stb) (hp:Hp) (β:Bet) (us:List Value),us.length=l.length->
 (∀(i:Nat) (v:V) (u:Value),l[i]? =some v->us[i]? =some u->VR w S hp β v u)->(us.foldlM (if mx then Builtin.max2 else Builtin.min2) (.int k x)).run P w=.ok (.int k r) w
 |[],x,h=>⟨x,by simpa[aMM] using h,λw S hp β us hl _=>by
    have:us=[]:=E7 (by simpa using hl)
    subst this;simp⟩
 |v::l,x,h=>by
  cases v with
  |d y=>cases y with
   |i k' y=>
    simp only[aMM] at h
    cases mx with
    |true=>
     simp only[] at h
     obtain⟨r,hr,h2⟩:=SJ l _ h
     refine⟨r,hr,λw S hp β us hl hv=> ?_⟩
     match us,hl with
     |u::us,hl=>
      have:=W5 (hv 0 _ u rfl rfl)
      subst this
      simp only[List.foldlM_cons,Sem.run_bind,if_true,Builtin.max2,Sem.run_pure,Result.andThen_ok]
      have:=h2 w S hp β us (by simpa using hl) (λi v u hi hu=>hv (i+1) v u (by simpa using hi) (by simpa using hu))
      simpa using this
    |false=>
     simp only[] at h
     obtain⟨r,hr,h2⟩:=SJ l _ h
     refine⟨r,hr,λw S hp β us hl hv=> ?_⟩
     match us,hl with
     |u::us,hl=>
      have:=W5 (hv 0 _ u rfl rfl)
      subst this
      simp only[List.foldlM_cons,Sem.run_bind,T0,if_false,Builtin.min2,Sem.run_pure,Result.andThen_ok]
      have:=h2 w S hp β us (by simpa using hl) (λi v u hi hu=>hv (i+1) v u (by simpa using hi) (by simpa using hu))
      simpa using this
   |_=>simp[aMM] at h
  |_=>simp[aMM] at h
theorem OR.vals {w:World} {S:Stb} {h:Hp} {β:Bet} {ρ:Operand->Value} {xs:List Operand} {vs:List V} (ho:OR w S h β ρ xs vs):(xs.map ρ).length=vs.length/\
 ∀(i:Nat) (v:V) (u:Value),vs[i]? =some v->(xs.map ρ)[i]? =some u->VR w S h β v u:=by
 refine⟨by simpa using ho.1,λi v u hv hu=> ?_⟩
 simp only[A8,F0] at hu
 obtain⟨x,hx,rfl⟩:=hu
 exact ho.2 i x v hx hv
theorem xG {o:Oper} {c:Call} {mx:Bool} (ho:o.op=.call c) (hc:c.callee=.builtin (if mx then .max else .min)) {vs:List V} {bs:List Blk} {ns:List Nat} {K:V->Prop} (h:FM mx vs K):
 ∃v,K v/\OpS P o vs ns bs bs v:=by
 unfold FM at h
 split at h
 ·rename_i k x l
  obtain⟨r,hk,hr⟩:=SJ (P:=P) l x h
  refine⟨_,hk,OpS.pure λρ w S hp β _ hor _=>⟨.value (.int k r),.int k r,?_,.inl rfl,.d (.i _ _)⟩⟩
  have hor':OR w S hp β ρ c.args.toList (.d (.i k x)::l):=by simpa[ho,F9] using hor
  obtain⟨g1,g2⟩:=hor'.vals
  match hm:c.args.toList.map ρ,g1 with
  |u::us,g1=>
   rw[hm] at g2
   have:=W5 (g2 0 _ u rfl rfl)
   subst this
   have hf:=hr w S hp β us (by simpa using g1) (λi v u hi hu=>g2 (i+1) v u (by simpa using hi) (by simpa using hu))
   have ha:(c.args.map ρ).toList=.int k x::us:=by simpa using hm
   cases mx with
   |true=>
    simp only[if_true] at hf hc
    simp[execOp,ho,resolve,hc,invoke,builtin,Builtin.max_,hm,hf]
   |false=>
    simp only[T0,if_false] at hf hc
    simp[execOp,ho,resolve,hc,invoke,builtin,Builtin.min_,hm,hf]
 ·exact h.elim
theorem EU {o:Oper} {f:FuncId} {first captured:Array Operand} (ho:o.op=.makeFunc (.func f) first captured) (h1:first.toList=[]) {vs:List V} {bs:List Blk} {ns:List Nat}:OpS P o vs ns bs bs (.fn f vs):=by
 refine OpS.pure λρ w S hp β _ hor _=> ?_
 have hor':OR w S hp β ρ captured.toList vs:=by simpa[ho,F9,h1] using hor
 obtain⟨g1,g2⟩:=hor'.vals
 have h1':first= #[]:=by cases first;simp_all
 subst h1'
 refine⟨_,.func (.func f) #[] (captured.map ρ),by simp[execOp,ho,Instr.makeFunc],.inl rfl,.fn f vs _ (by simpa using g1) λj c u hc hu=>g2 j c u hc (by simpa using hu)⟩
theorem CH {o:Oper} {f:FuncId} {first captured:Array Operand} (ho:o.op=.makeFunc (.func f) first captured) (h1:captured.toList=[]) {ds:List D} {bs:List Blk} {ns:List Nat}:OpS P o (ds.map .d) ns bs bs (.d (.cl f ds [])):=by
 refine OpS.pure λρ w S hp β _ hor _=> ?_
 have hor':OR w S hp β ρ first.toList (ds.map .d):=by simpa[ho,F9,h1] using hor
 obtain⟨g1,g2⟩:=hor'.vals
 have h1':captured= #[]:=by cases captured;simp_all
 subst h1'
 refine⟨_,.func (.func f) (first.map ρ) #[],by simp[execOp,ho,Instr.makeFunc],.inl rfl,.d (.cl f ds [] _ _ (by simpa using g1) rfl (λj c u hc hu=> ?_) (by simp))⟩
 have:=g2 j (.d c) u (by rw[A8,hc];rfl) (by simpa using hu)
 cases this with
 |d h=>exact h
theorem A1d {o:Oper} {c:Call} (hT:W9 P T=true) (ho:o.op=.call c) (hc:c.callee=.builtin .len) {av:V} {t:TypeId} {ti:TI} (ht:c.argTypes.toList[0]? =some t) (hty:J8 T t=some ti)
 (hk:match av with| .d (.sl ..)=>∃e,ti.kind=.slice e| .d (.s _)=>ti.kind=.string| .sref .. =>∃e,ti.kind=.slice e| .map _=>∃k e,ti.kind=.map k e|_=>False)
 {bs:List Blk} {K:Kt} (h:aLen av bs K):
 ∃v,K v bs/\OpS P o [av] (oB av) bs bs v:=by
 have hti:=H7 hT hty
 have hexec:∀(ρ:Operand->Value) (w:World) (x:Operand) (cv:Value),c.args.toList=[x]->(∀ty,(Builtin.len_ c.argTypes ty #[ρ x]).run P w=.ok cv w)->(execOp ρ o).run P w=.ok (.value cv) w:=by
  intro ρ w x cv ha hr
  have ha':c.args= #[x]:=by cases hh:c.args;simp_all
  simp[execOp,ho,resolve,hc,invoke,builtin,ha',hr]
 have ht':c.argTypes[0]? =some t:=by simpa using ht
 have harg:∀{w:World} {S:Stb} {hp:Hp} {β:Bet} {ρ:Operand->Value},OR w S hp β ρ (F9 o.op) [av]->∃x,c.args.toList=[x]/\VR w S hp β av (ρ x):=by
  intro w S hp β ρ hor
  have hor':OR w S hp β ρ c.args.toList [av]:=by simpa[ho,F9] using hor
  match hm:c.args.toList,hor'.1 with
  |[x],_=>exact⟨x,rfl,by rw[hm] at hor';exact hor'.one⟩
 unfold aLen at h
 split at h
 ·obtain⟨e,hk⟩:=hk
  refine⟨_,h.elim,OpS.pure λρ w S hp β _ hor _=> ?_⟩
  obtain⟨x,hx,hv⟩:=harg hor
  generalize hρ:ρ x=cw at hv
  cases hv with
  |d hd=>cases hd with
   |sl _ _ _ a cap=>exact⟨_,_,hexec ρ w x _ hx (λty=>by simp[Builtin.len_,ht',run_underlying (P8 hti hk),hρ,goInt]),.inl rfl,.d (.i _ _)⟩
 ·refine⟨_,h,OpS.pure λρ w S hp β _ hor _=> ?_⟩
  obtain⟨x,hx,hv⟩:=harg hor
  exact⟨_,_,hexec ρ w x _ hx (λty=>by simp[Builtin.len_,ht',run_underlying (X0 hti hk),vF hv,goInt]),.inl rfl,.d (.i _ _)⟩
 ·obtain⟨e,hk⟩:=hk
  refine⟨_,h,OpS.pure λρ w S hp β _ hor _=> ?_⟩
  obtain⟨x,hx,hv⟩:=harg hor
  generalize hρ:ρ x=cw at hv
  cases hv with
  |sref g0 g=>
   obtain⟨a,cap,rfl,_⟩:=g
   exact⟨_,_,hexec ρ w x _ hx (λty=>by simp[Builtin.len_,ht',run_underlying (P8 hti hk),hρ,goInt]),.inl rfl,.d (.i _ _)⟩
 ·rename_i n T' kt es
  obtain⟨k,e,hk⟩:=hk
  refine⟨_,h.elim,OpS.pure λρ w S hp β hr hor hb=> ?_⟩
  obtain⟨x,hx,hv⟩:=harg hor
  have hn:hp[n]? =some (.map T' kt es):=by simpa[oB] using hb 0 n rfl
  obtain⟨b,mes,clock,h1,h2,h3,_⟩:=hr.blk n _ hn
  generalize hρ:ρ x=cw at hv
  cases hv with
  |map g1 g2=>
   have:=g2 (by rw[hn];simp)
   rw[h1] at this;simp at this;subst this
   exact⟨_,.int .i64 es.length,hexec ρ w x _ hx (λty=>by simp[Builtin.len_,ht',run_underlying (zS hti hk),hρ,goInt,getObj,Sem.run,h2,h3]),.inl rfl,.d (.i _ _)⟩
 ·exact h.elim
theorem xA {α β:Type} (g:α->Sem β) (r:α->β) (w:World):∀l:List α,(∀a∈l,(g a).run P w=.ok (r a) w)->(l.mapM g).run P w=.ok (l.map r) w
 |[],_=>by simp
 |a::l,h=>by
  simp only[OY,Sem.run_bind,h a (by simp),Result.andThen_ok,xA g r w l (λb hb=>h b (by simp[hb])),Sem.run_pure,E8]
theorem QF {α β:Type} (g:α->Sem β) (r:α->β) (w:World) (l:Array α) (h:∀a∈l.toList,(g a).run P w=.ok (r a) w):(l.mapM g).run P w=.ok (l.map r) w:=by
 rw[Array.mapM_eq_mapM_toList]
 simp only[Sem.run_map,xA g r w l.toList h,Result.andThen_ok]
 congr 1
 apply Array.ext'
 simp
theorem B3p {α:Type} {xs ys:List α} {o:Nat} {y:α} (h:o+1+ys.length<=xs.length):ov (xs.set o y) (o+1) ys=ov xs o (y::ys):=by
 apply L9
 intro j
 rw[eK (by simp;omega),eK (by simp;omega),K5]
 by_cases hj:o=j
 ·subst hj;simp;omega
 ·simp only[if_neg hj,M2]
  by_cases a:j<o
  ·rw[if_pos a,if_pos (by omega)]
  ·rw[if_neg a,if_neg (by omega:¬j<o+1)]
   by_cases b:j<o+1+ys.length
   ·rw[if_pos b,if_pos (by omega),show j-o=(j-(o+1))+1 from by omega,R6]
   ·rw[if_neg b,if_neg (by omega)]
theorem ZA {α:Type} (xs:List α) (o:Nat):ov xs o []=xs:=by simp[ov]
theorem NT (off:Nat):∀(l:List Value) (k:Nat) (cells:Array Value),off+k+l.length<=cells.size->
 ((l.zipIdx k).foldl (λ(cs:Array Value) (p:Value×Nat)=>cs.setIfInBounds (off+p.2) p.1) cells).toList=ov cells.toList (off+k) l
 |[],k,cells,_=>by simp[ZA]
 |v::l,k,cells,h=>by
  simp only[List.zipIdx_cons,dX]
  have hl:off+k+1+l.length<=cells.size:=by simp at h;omega
  rw[NT off l (k+1) _ (by simp;omega)]
  rw[Array.toList_setIfInBounds,show off+(k+1)=off+k+1 by omega]
  exact B3p (by simpa using hl)
theorem OA {place:Nat->Option (Nat×Nat)} {cells:Array Value} {i off size:Nat} {v:Value} {rest:List (Nat×Value)} (hp:place i=some (off,size)) (hs:v.cells.toList.length=size) (hl:off+size<=cells.size):
 Instr.fill place cells ((i,v)::rest)=Instr.fill place (ov cells.toList off v.cells.toList).toArray rest:=by
 have hs':v.cells.size=size:=by simpa using hs
 have hf:(v.cells.zipIdx.foldl (λcs (c,j)=>cs.setIfInBounds (off+j) c) cells)=(ov cells.toList off v.cells.toList).toArray:=by
  rw[<-Array.foldl_toList,Array.toList_zipIdx]
  apply Array.ext'
  have:=NT off v.cells.toList 0 cells (by rw[hs];simpa using hl)
  simpa using this
 rw[Instr.fill,hp]
 simp only[hs',ne_eq,not_true_eq_false,decide_false,Bool.false_or]
 rw[if_neg (by simp;omega)]
 rw[hf]
theorem xU (hT:W9 P T=true) {fs:List (Nat×TypeId)} {fields:Array Field} (hfs:T3 P fs fields.toList=true) {k:List V->Prop}:
 ∀(is:List Nat) (vs:List V) (cs:List V),xV T fs is vs cs k->∃cs',k cs'/\cs'.length=cs.length/\∀(w:World) (S:Stb) (hp:Hp) (β:Bet) (us:List Value) (cells:Array Value),is.length=us.length->
  (∀(i:Nat) (v:V) (u:Value),vs[i]? =some v->us[i]? =some u->VR w S hp β v u)->(is.length<=vs.length)->cells.size=cs.length->
  (∀(j:Nat) (c:V) (y:Value),cs[j]? =some c->cells[j]? =some y->VR w S hp β c y/\c.flat=true)->
  ∃cells',Instr.fill ((fields.map λf=>(f.offset,P.cellsOf f.type))[·]?) cells (is.zip us)=some cells'/\cells'.size=cs.length/\
   ∀(j:Nat) (c:V) (y:Value),cs'[j]? =some c->cells'[j]? =some y->VR w S hp β c y/\c.flat=true
 |[],vs,cs,h=>⟨cs,by simpa[xV] using h,rfl,λw S hp β us cells _ _ _ h1 h2=>⟨cells,by simp[Instr.fill],h1,h2⟩⟩
 |f::r,[],cs,h=>by simp[xV] at h
 |f::r,v::vs,cs,h=>by
  simp only[xV] at h
  obtain⟨p,hp,h⟩:=O6.1 h
  cases hty:J8 T p.2 with
  |none=>simp[hty] at h
  |some ti=>
   simp only[hty] at h
   obtain⟨l,h,hcl⟩:=rV h
   obtain⟨hsz,h⟩:=(J1 _ _).1 h
   have hsz:=B2 hsz
   obtain⟨i,z,hi⟩:=S5 (H7 hT hty)
   obtain⟨fd,hf1,hf2,hf3,_,hf5⟩:=(iZ hfs).2 f p hp
   have hco:P.cellsOf fd.type=ti.size:=by rw[<-hf3];simp[Program.cellsOf,hi.info,hi.size]
   rcases jT _ _ _ _ h with⟨rfl,_⟩|⟨hne,hlen,hk⟩
   ·rw[hco] at hf5;simp at hsz;omega
   ·obtain⟨cs',hk',hl',hrest⟩:=xU hT hfs r vs _ hk
    have hovl:=bK hlen
    refine⟨cs',hk',by rw[hl',hovl],λw S hp β us cells hus hv hle hcs hc=> ?_⟩
    match us,hus with
    |u::us,hus=>
     obtain⟨q1,q2⟩:=hcl.rel (hv 0 v u rfl rfl)
     have hlc:p.1+u.cells.toList.length<=cells.toList.length:=by rw[q1];simp only[F6,hcs];exact hlen
     have hovc:=bK hlc
     obtain⟨cells',e1,e2,e3⟩:=hrest w S hp β us (ov cells.toList p.1 u.cells.toList).toArray (by simpa using hus) (λi v u hi hu=>hv (i+1) v u (by simpa using hi) (by simpa using hu)) (by simpa using hle)
      (by simp only[M5,hovc,F6,hcs,hovl]) (λj c y hj hy=>by
        have:=YZ (R:=λ(c:V) (y:Value)=>VR w S hp β c y/\c.flat=true) (xs:=cs) (ys:=l) (us:=cells.toList) (vs:=u.cells.toList) (o:=p.1) (o':=p.1) hlen hlc q1.symm
         (λj c y hj hy=>hc j c y hj (by simpa using hy)) (B1 _) q2 j c y hj (by simpa using hy)
        exact this)
     refine⟨cells',?_,by rw[e2,hovl],e3⟩
     rw[H8,OA (off:=p.1) (size:=ti.size) ?_ (by rw[q1];exact hsz) (by rw[hcs];omega)]
     ·exact e1
     ·have:fields[f]? =some fd:=by simpa using hf1
      simp[this,hf2,hco]
theorem NZ {p1 p2:Nat->Option (Nat×Nat)} (h:∀i q,p1 i=some q->p2 i=some q):∀(l:List (Nat×Value)) (cells cells':Array Value),Instr.fill p1 cells l=some cells'->Instr.fill p2 cells l=some cells'
 |[],cells,cells',e=>by simpa[Instr.fill] using e
 |(i,v)::r,cells,cells',e=>by
  unfold Instr.fill at e ⊢
  cases hp:p1 i with
  |none=>rw[hp] at e;simp at e
  |some q=>
   rw[hp] at e
   rw[h i q hp]
   simp only at e ⊢
   split at e
   ·cases e
   ·rename_i hc
    rw[if_neg hc]
    exact NZ h r _ _ e
def uW (e:TypeId) (i:Nat):Field:={(default:Field) with name:= "x",type:=e,offset:=i}
theorem KI {e:TypeId} (he:P.cellsOf e≠0):∀(l:List Nat),T3 P (l.map λi=>(i,e)) (l.map (uW e))=true
 |[]=>rfl
 |i::r=>by
  simp only[E8,T3,C8,F3]
  exact⟨⟨⟨⟨rfl,rfl⟩,(show "x" ≠ "_" by decide)⟩,he⟩,KI he r⟩
theorem SP (hT:W9 P T=true) {o:Oper} {t:TypeId} {parts:Array (Nat×Operand)} (ho:o.op=.build t parts) {vs:List V} {bs:List Blk} {ns:List Nat} {K:V->Prop} (h:A1i T t (ixs parts.toList) vs K):
 ∃v,K v/\OpS P o vs ns bs bs v:=by
 unfold A1i at h
 cases hty:J8 T t with
 |none=>simp[hty] at h
 |some ti=>
  have hti:=H7 hT hty
  simp only[hty] at h
  split at h
  ·rename_i fs hk
   obtain⟨fields,hu,hfs,_,_⟩:=iX hti hk
   obtain⟨i,z,hi⟩:=S5 hti
   have hplaces:∀w,(fields.mapM λf=>do pure (f.offset,<-sizeOf f.type):Sem (Array (Nat×Nat))).run P w=.ok (fields.map λf=>(f.offset,P.cellsOf f.type)) w:=by
    intro w
    refine QF _ (λf=>(f.offset,P.cellsOf f.type)) w fields λf hf=> ?_
    obtain⟨j,hj⟩:=D9.1 hf
    have hjl:j<fs.length:=by rw[(iZ hfs).1];exact(A4.1 hj).1
    obtain⟨fd,h1,h2,h3,h4,h5⟩:=(iZ hfs).2 j _ (A3 hjl)
    rw[hj] at h1;cases h1
    unfold Program.cellsOf at h5 ⊢
    cases hii:P.info? f.type with
    |none=>simp[hii] at h5
    |some ii=>simp[sizeOf,Z2 hii]
   have hexec:∀(ρ:Operand->Value) (w:World) (cells:Array Value),Instr.fill ((fields.map λf=>(f.offset,P.cellsOf f.type))[·]?) z.cells (parts.toList.map λp=>(p.1,ρ p.2))=some cells->(execOp ρ o).run P w=.ok (.value (.agg cells)) w:=by
    intro ρ w cells hf
    have e1:(parts.map λ(i,x)=>(i,ρ x)).toList=parts.toList.map λp=>(p.1,ρ p.2):=by simp
    simp only[execOp,ho,Instr.build,Sem.run_bind,cH hi,Result.andThen_ok,run_underlying hu,hplaces,e1,hf,Sem.run_pure]
   have hzip:∀(ρ:Operand->Value),(parts.toList.map λp=>(p.1,ρ p.2))=(ixs parts.toList).zip ((parts.toList.map (·.2)).map ρ):=by
    intro ρ
    simp only[ixs,eG,List.zip_map']
    rfl
   have hzs:=λ(w:World) (S:Stb) (hp:Hp) (β:Bet)=>FT hi.zs w S hp β
   split at h
   ·rename_i hixs
    refine⟨_,h,OpS.pure λρ w S hp β _ hor _=>⟨.value (.agg z.cells),.agg z.cells,hexec ρ w z.cells ?_,.inl rfl,?_⟩⟩
    ·rw[hzip,hixs];simp[Instr.fill]
    ·obtain⟨a,b⟩:=hzs w S hp β
     refine .d (.agg ti.zero z.cells (by simpa using a) (λj c hj=> ?_) λj c y hj hy=> ?_)
     ·have hl:j<z.cells.toList.length:=by rw[a];simpa using(A4.1 hj).1
      exact(b j (.d c) _ (by simp[hj]) (A3 hl)).2
     ·have:=(b j (.d c) y (by simp[hj]) (by simpa using hy)).1
      cases this;assumption
   ·obtain⟨cs',h,hlen,hrel⟩:=xU hT hfs _ _ _ h
    obtain⟨v,hk,hm⟩:=BI h
    refine⟨v,hk,OpS.pure λρ w S hp β _ hor _=> ?_⟩
    have hor':OR w S hp β ρ (parts.toList.map (·.2)) vs:=by simpa[ho,F9] using hor
    obtain⟨g1,g2⟩:=hor'.vals
    obtain⟨a,b⟩:=hzs w S hp β
    obtain⟨cells',e1,e2,e3⟩:=hrel w S hp β ((parts.toList.map (·.2)).map ρ) z.cells (by simp[ixs]) g2 (by rw[<-g1];simp[ixs]) (by simpa using a) (λj c y hj hy=>b j c y hj (by simpa using hy))
    refine⟨.value (.agg cells'),.agg cells',hexec ρ w cells' (by rw[hzip];exact e1),.inl rfl,?_⟩
    have:=hm.rel (w:=w) (S:=S) (hp:=hp) (β:=β) (us:=cells'.toList) (by simp only[F6,e2,hlen]) (λj c y hj hy=>e3 j c y hj (by simpa using hy))
    rwa[Y4] at this
  ·rename_i n e hk
   have hu:=iY hti hk
   obtain⟨i,z,hi⟩:=S5 hti
   cases hte:J8 T e with
   |none=>simp[hte] at h
   |some te=>
    simp only[hte] at h
    have hteo:=H7 hT hte
    obtain⟨i',z',hi'⟩:=S5 hteo
    cases hsz:Nat.beq te.size 1 with
    |false=>simp[hsz] at h
    |true=>
     simp only[hsz] at h
     have hs1:=B2 hsz
     have hce:P.cellsOf e=1:=by rw[<-hs1];simp[Program.cellsOf,hi'.info,hi'.size]
     have hsize:∀w,(sizeOf e).run P w=.ok 1 w:=λw=>by
      have:=P7 (P:=P) hteo (w:=w)
      rwa[hs1] at this
     have hexec:∀(ρ:Operand->Value) (w:World) (cells:Array Value),Instr.fill (λi=>some (i*1,1)) z.cells (parts.toList.map λp=>(p.1,ρ p.2))=some cells->(execOp ρ o).run P w=.ok (.value (.agg cells)) w:=by
      intro ρ w cells hf
      have e1:(parts.map λ(i,x)=>(i,ρ x)).toList=parts.toList.map λp=>(p.1,ρ p.2):=by simp
      simp only[execOp,ho,Instr.build,Sem.run_bind,cH hi,Result.andThen_ok,run_underlying hu,hsize,e1,hf,Sem.run_pure]
     have hzip:∀(ρ:Operand->Value),(parts.toList.map λp=>(p.1,ρ p.2))=(ixs parts.toList).zip ((parts.toList.map (·.2)).map ρ):=by
      intro ρ
      simp only[ixs,eG,List.zip_map']
      rfl
     have hzs:=λ(w:World) (S:Stb) (hp:Hp) (β:Bet)=>FT hi.zs w S hp β
     split at h
     ·rename_i hixs
      refine⟨_,h,OpS.pure λρ w S hp β _ hor _=>⟨.value (.agg z.cells),.agg z.cells,hexec ρ w z.cells ?_,.inl rfl,?_⟩⟩
      ·rw[hzip,hixs];simp[Instr.fill]
      ·obtain⟨a,b⟩:=hzs w S hp β
       refine .d (.agg ti.zero z.cells (by simpa using a) (λj c hj=> ?_) λj c y hj hy=> ?_)
       ·have hl:j<z.cells.toList.length:=by rw[a];simpa using(A4.1 hj).1
        exact(b j (.d c) _ (by simp[hj]) (A3 hl)).2
       ·have:=(b j (.d c) y (by simp[hj]) (by simpa using hy)).1
        cases this;assumption
     ·have hfs:T3 P ((List.range n).map λi=>(i,e)) ((List.range n).map (uW e)).toArray.toList=true:=by
       simpa using KI (P:=P) (by rw[hce];decide) (List.range n)
      obtain⟨cs',h,hlen,hrel⟩:=xU hT hfs _ _ _ h
      obtain⟨v,hk,hm⟩:=BI h
      refine⟨v,hk,OpS.pure λρ w S hp β _ hor _=> ?_⟩
      have hor':OR w S hp β ρ (parts.toList.map (·.2)) vs:=by simpa[ho,F9] using hor
      obtain⟨g1,g2⟩:=hor'.vals
      obtain⟨a,b⟩:=hzs w S hp β
      obtain⟨cells',e1,e2,e3⟩:=hrel w S hp β ((parts.toList.map (·.2)).map ρ) z.cells (by simp[ixs]) g2 (by rw[<-g1];simp[ixs]) (by simpa using a) (λj c y hj hy=>b j c y hj (by simpa using hy))
      have e1':=NZ (p2:=λi=>some (i*1,1)) (λi q hq=>by
       simp only[List.map_toArray,Z6,eG,A8] at hq
       cases hr:(List.range n)[i]? with
       |none=>rw[hr] at hq;cases hq
       |some j=>
        rw[hr] at hq
        have hj:j=i:=by
         obtain⟨hl,hv⟩:=A4.1 hr
         simpa using hv.symm
        subst hj
        cases hq
        show some (j*1,1)=some ((uW e j).offset,P.cellsOf (uW e j).type)
        rw[show(uW e j).type=e from rfl,hce,L2];rfl) _ _ _ e1
      refine⟨.value (.agg cells'),.agg cells',hexec ρ w cells' (by rw[hzip];exact e1'),.inl rfl,?_⟩
      have:=hm.rel (w:=w) (S:=S) (hp:=hp) (β:=β) (us:=cells'.toList) (by simp only[F6,e2,hlen]) (λj c y hj hy=>e3 j c y hj (by simpa using hy))
      rwa[Y4] at this
  ·exact h.elim
theorem CB {w:World} {S:Stb} {h:Hp} {β:Bet} (hr:HR w S h β) {n:Nat} (hn:h[n]? =some .res) (e:TypeId) (cells:Array Value) (sz len cap:Nat) (xs:List D) (hsz:0<sz)
 (hxs:∀(i:Nat) (x:D),xs[i]? =some x->x.cells.length=sz/\∀(j:Nat) (c:D),x.cells[j]? =some c->c.flat=true)
 (hl:xs.length*sz<=cells.size) (hcap:cap*sz<=cells.size) (hlen:len<=cap)
 (hc:∀(i:Nat) (x:D) (j:Nat) (c:D),xs[i]? =some x->x.cells[j]? =some c->∃y,cells[i*sz+j]? =some y/\DR w S c y):
 ∃β',HR (w.alloc (.cells cells e)) S (h.set n (.row 0 sz false xs)) β'/\F7 w S h β (w.alloc (.cells cells e)) S (h.set n (.row 0 sz false xs)) β'/\
  VR (w.alloc (.cells cells e)) S (h.set n (.row 0 sz false xs)) β' (.sref n 0 0 len false) (.slice (some ⟨w.heap.size,0,none⟩) len cap):=by
 have hnl:n<h.length:=(A4.1 hn).1
 obtain⟨r1,r2⟩:=wG hr hn (.cells cells e) (.row 0 sz false xs) 0 (X8 w cells e) (λE hS hβ hh=>
  ⟨hsz,hxs,.inr ⟨w.heap.size,0,cells,e,hβ,hh,by omega,λi x j c hx hj=>by
    obtain⟨y,a,b⟩:=hc i x j c hx hj
    exact⟨y,by rw[C1];exact a,b.evol E.sub E.cell⟩,λo ho=>absurd ho (hS o)⟩⟩)
 refine⟨_,r1,r2,.sref rfl ⟨_,cap,rfl,hlen,by simp,?_⟩⟩
 have hget:(h.set n (Blk.row 0 sz false xs))[n]? =some (.row 0 sz false xs):=by simp[hnl]
 have hβ:(β.set n (some (w.heap.size,0)))[n]? =some (some (w.heap.size,0)):=by
  have:n<β.length:=D3 hnl hr.len
  simp[this]
 rw[hget]
 exact⟨B1 _,λ_=>.inr ⟨w.heap.size,0,cells,e,(0,0),hβ,λ_=>by simp,heap_alloc_new w _,by simpa using hcap⟩⟩
theorem uQ {te:TI}:∀(is:List Nat) (vs:List V) (j:Nat) (k:List D->Prop),oU te is vs j k->∃ys,k ys/\ys.length=is.length/\(∀(i:Nat) (y:D),ys[i]? =some y->y.cells.length=te.size)/\
 ∀(w:World) (S:Stb) (hp:Hp) (β:Bet) (us:List Value) (cells:Array Value),is.length=us.length->(∀(i:Nat) (v:V) (u:Value),vs[i]? =some v->us[i]? =some u->VR w S hp β v u)->
  (j+is.length)*te.size<=cells.size->
  ∃cells',Instr.fill (λi=>some (i*te.size,te.size)) cells (is.zip us)=some cells'/\cells'.size=cells.size/\(∀m,m<j*te.size->cells'[m]? =cells[m]?)/\
   ∀(i:Nat) (y:D) (q:Nat) (c:D),ys[i]? =some y->y.cells[q]? =some c->∃u,cells'[(j+i)*te.size+q]? =some u/\DR w S c u/\c.flat=true
 |[],vs,j,k,h=>⟨[],by simpa[oU] using h,rfl,by simp,λw S hp β us cells hus _ _=>⟨cells,by simp[Instr.fill],rfl,λ_ _=>rfl,by simp⟩⟩
 |i::r,[],j,k,h=>by simp[oU] at h
 |i::r,v::vs,j,k,h=>by
  simp only[oU] at h
  split at h
  ·rename_i hij
   have hij:=B2 hij
   subst hij
   unfold B0s at h
   split at h
   ·rename_i x
    obtain⟨hsz,h⟩:=(J1 _ _).1 h
    have hsz:=B2 hsz
    obtain⟨ys,hk,h1,h2,h3⟩:=uQ (te:=te) r vs (i+1) _ h
    refine⟨x::ys,hk,by simp[h1],λm y hm=> ?_,λw S hp β us cells hus hv hl=> ?_⟩
    ·cases m with
     |zero=>simp at hm;subst hm;exact hsz
     |succ m=>exact h2 m y (by simpa using hm)
    ·match us,hus with
     |u::us,hus=>
      have hv0:=hv 0 _ u rfl rfl
      cases hv0 with
      |d hd=>
       obtain⟨q1,q2⟩:=hd.cells
       have hl':(i+(r.length+1))*te.size<=cells.size:=by simpa using hl
       rw[H5,P3] at hl'
       have hlc:i*te.size+u.cells.toList.length<=cells.toList.length:=by rw[q1,hsz];simp only[F6];omega
       have hov:=bK hlc
       obtain⟨cells',e1,e2,e3,e4⟩:=h3 w S hp β us (ov cells.toList (i*te.size) u.cells.toList).toArray (by simpa using hus) (λm v u hm hu=>hv (m+1) v u (by simpa using hm) (by simpa using hu))
        (by simp only[M5,hov,F6];rw[H5,P3];omega)
       refine⟨cells',?_,by rw[e2];simp only[M5,hov,F6],λm hm=> ?_,λm y q c hy hc=> ?_⟩
       ·rw[H8,OA (off:=i*te.size) (size:=te.size) rfl (by rw[q1];exact hsz) (by omega)]
        exact e1
       ·rw[e3 m (by rw[P3];omega)]
        simp only[Z6]
        rw[eK hlc,if_pos hm]
        simp
       ·cases m with
        |zero=>
         simp at hy;subst hy
         have hq:q<te.size:=by rw[<-hsz];exact(A4.1 hc).1
         have hqu:q<u.cells.toList.length:=by rw[q1,hsz];exact hq
         refine⟨u.cells.toList[q],?_,(q2 q c _ hc (A3 hqu)).1,(q2 q c _ hc (A3 hqu)).2⟩
         rw[W2,e3 _ (by rw[P3];omega)]
         simp only[Z6]
         rw[eK hlc,if_neg (by omega),if_pos (by omega),show i*te.size+q-i*te.size=q by omega]
         exact A3 hqu
        |succ m=>
         obtain⟨u',a,b,c'⟩:=e4 m y q c (by simpa using hy) hc
         exact⟨u',by rw[show i+(m+1)=i+1+m by omega];exact a,b,c'⟩
   ·exact h.elim
  ·exact h.elim
theorem A0y {w:World} {S:Stb} {h:Hp} {β:Bet} (hr:HR w S h β) (e:TypeId) (cells:Array Value) (sz:Nat) (xs:List D) (hsz:0<sz)
 (hxs:∀(i:Nat) (x:D),xs[i]? =some x->x.cells.length=sz/\∀(j:Nat) (c:D),x.cells[j]? =some c->c.flat=true)
 (hc:∀(i:Nat) (x:D) (j:Nat) (c:D),xs[i]? =some x->x.cells[j]? =some c->∃y,cells[i*sz+j]? =some y/\DR w S c y):
 ∃S',HR (w.alloc (.cells cells e)) S' h β/\F7 w S h β (w.alloc (.cells cells e)) S' h β/\DR (w.alloc (.cells cells e)) S' (.sl sz true xs) (.slice (some ⟨w.heap.size,0,none⟩) xs.length xs.length):=by
 have hold:∀i,i<w.heap.size->(w.alloc (.cells cells e)).heap[i]? =w.heap[i]? :=λi hi=>heap_alloc_old w _ i hi
 have hnew:=heap_alloc_new w (.cells cells e)
 refine⟨λb o=>S b o∨b=w.heap.size,?_⟩
 have E:F7 w S h β (w.alloc (.cells cells e)) (λb o=>S b o∨b=w.heap.size) h β:=by
  refine⟨⟨⟨rfl,rfl⟩,rfl,B1 _⟩,by simp,λi hi _=>hold i hi,λi c e f hi=>⟨c,by rw[hold i (C4.1 hi).1];exact hi,rfl⟩,λi l hi=>⟨l,by rw[hold i (C4.1 hi).1];exact hi⟩,
   λa _=>X8 w cells e a,λ_ _ h=>.inl h,λb o hs=> ?_,λb o hs=>World.cell?_of_block (a:=⟨b,o,none⟩) (hold b (hr.old b o hs)),λ_ h=>.inl h,B1 _,λ_ b hb=>⟨b,hb,BEv.refl _ _⟩⟩
  rcases hs with h|rfl
  ·exact .inl h
  ·exact .inr (.inl (B1 _))
 have hsz':w.heap.size<(w.alloc (.cells cells e)).heap.size:=by show w.heap.size<(w.heap.push _).size;simp
 refine⟨⟨hr.len,λn b hn=>BR.keep E rfl (λ_ r b' p hb=>⟨hb,hold b' (hr.tlt r b' p hb),λo ho=> ?_⟩) (λb' p hb=>⟨hold b' (hr.lt hb),λo ho=> ?_⟩) (hr.blk n b hn),hr.inj,λb o hs=> ?_,hr.glob.evol E,λr b p hb=>D3 (hr.tlt r b p hb) E.size,hr.one⟩,E,?_⟩
 ·rcases ho with h|rfl
  ·exact h
  ·exact absurd (hr.tlt _ _ _ hb) (by omega)
 ·rcases ho with h|rfl
  ·exact h
  ·exact absurd (hr.lt hb) (by omega)
 ·rcases hs with h|rfl
  ·exact D3 (hr.old b o h) E.size
  ·exact hsz'
 ·refine .sl sz true xs _ xs.length w.heap.size 0 (λi j=>(cells[i*sz+j]?).getD undef) (B1 _) (λ_=>rfl) (λh=>by omega) (λ_=>rfl) (λi x hx=>(hxs i x hx).1) (λi x j c hx hj=>⟨(hxs i x hx).2 j c hj,?_,.inr rfl⟩) (λi x j c hx hj=> ?_)
  ·obtain⟨y,a,_⟩:=hc i x j c hx hj
   rw[cell_of_row _ w.heap.size (0+i*sz+j) cells e (0,0) hnew,C1,a];rfl
  ·obtain⟨y,a,b⟩:=hc i x j c hx hj
   rw[a]
   exact b.evol E.sub E.cell
theorem AI (hT:W9 P T=true) {o:Oper} {t:TypeId} {len:Nat} {parts:Array (Nat×Operand)} (ho:o.op=.buildSlice t len parts) {vs:List V} {K:V->Prop}
 (h:uY T t len (ixs parts.toList) vs K):∃v,K v/\∀(ns:List Nat) (bs:List Blk),OpS P o vs ns bs bs v:=by
 unfold uY at h
 cases hty:J8 T t with
 |none=>simp[hty] at h
 |some ti=>
  have hti:=H7 hT hty
  simp only[hty] at h
  split at h
  ·rename_i e hk
   cases hte:J8 T e with
   |none=>simp[hte] at h
   |some te=>
    have hteo:=H7 hT hte
    simp only[hte] at h
    obtain⟨i,z,hi⟩:=S5 hteo
    replace h:=(J1 _ _).1 h
    obtain⟨hchk,h⟩:=h
    simp only[C8] at hchk
    obtain⟨⟨hlen,hpos⟩,hsize⟩:=hchk
    have hlen:=B2 hlen
    have hpos:0<te.size:=B5 hpos
    have hsize:=B5 hsize
    obtain⟨ys,hkk,h1,h2,h3⟩:=uQ (te:=te) _ _ _ _ h
    refine⟨_,hkk,λns bs ρ w S hp β hr hor hb=> ?_⟩
    have hor':OR w S hp β ρ (parts.toList.map (·.2)) vs:=by simpa[ho,F9] using hor
    obtain⟨g1,g2⟩:=hor'.vals
    have hzip:(parts.toList.map λp=>(p.1,ρ p.2))=(ixs parts.toList).zip ((parts.toList.map (·.2)).map ρ):=by
     simp only[ixs,eG,List.zip_map']
     rfl
    obtain⟨cells',e1,e2,e3,e4⟩:=h3 w S hp β ((parts.toList.map (·.2)).map ρ) ((Array.range (len*te.size)).map (z.cells[· %z.cells.size]!)) (by simp[ixs]) g2 (by simp[hlen])
    have e2':cells'.size=len*te.size:=by rw[e2];simp
    have hyl:ys.length=len:=by rw[h1,hlen]
    obtain⟨S',r1,r2,r3⟩:=A0y hr e cells' te.size ys hpos (λi y hy=>⟨h2 i y hy,λj c hc=>by
     obtain⟨_,_,_,hf⟩:=e4 i y j c hy hc
     exact hf⟩) (λi y j c hy hc=>by
     obtain⟨u,a,b,_⟩:=e4 i y j c hy hc
     rw[C1] at a
     exact⟨u,a,b⟩)
    have hs:J5 hp ns bs=hp:=jN λi n b hi hbi=>by rw[hb i n hi,hbi]
    refine⟨_,_,S',β,_,?_,.inl rfl,by rw[hs];exact r1,by rw[hs];exact .d r3,by rw[hs];exact r2⟩
    rw[hyl]
    have hparts:(parts.map λ(i,x)=>(i,ρ x)).toList=(ixs parts.toList).zip ((parts.toList.map (·.2)).map ρ):=by rw[<-hzip];simp
    simp only[execOp,ho,Instr.buildSlice,Sem.run_bind,run_underlying (P8 hti hk),Result.andThen_ok,P7 hteo]
    rw[if_neg (by omega)]
    by_cases h0:len*te.size=0
    ·rw[if_pos h0]
     rw[h0] at e1
     have e1':Instr.fill (λi=>some (i*te.size,te.size)) #[] ((ixs parts.toList).zip ((parts.toList.map (·.2)).map ρ))=some cells':=by simpa[Array.range_zero'] using e1
     simp only[Sem.run_bind,Sem.run_pure,Result.andThen_ok,hparts,h0,Array.range_zero',Array.map_empty]
     rw[e1']
     simp only[Sem.run_bind,Sem.run_pure,Result.andThen_ok,newRow,newObj,Sem.run]
     rfl
    ·rw[if_neg h0]
     simp only[Sem.run_bind,cH hi,Sem.run_pure,Result.andThen_ok,hparts,e1,newRow,newObj,Sem.run]
     rfl
  ·exact h.elim
theorem xE (z:Array Value) (n k:Nat) (hk:k<n):(madeCells z n)[k]? =some z[k%z.size]! :=by
 simp[madeCells,hk]
theorem tK {te:TI} (h:te.zero.length=te.size) (ha:G8 te=false->te.size=1) (hf:∀(j:Nat) (c:D),te.zero[j]? =some c->c.flat=true):(Q9 te).cells=te.zero:=by
 unfold Q9
 cases hag:G8 te with
 |true=>rfl
 |false=>
  have h1:=ha hag
  rw[h1] at h
  match hz:te.zero,h with
  |[x],_=>
   have:=hf 0 x (by rw[hz];rfl)
   exact eV x this
theorem KM (hT:W9 P T=true) {o:Oper} {t:TypeId} {l c:Operand} (ho:o.op=.makeSlice t l c) {ti te:TI} {e:TypeId} (hti:dO P t ti=true) (hk:ti.kind=.slice e) (hteo:dO P e te=true) {n m:Int} {nf:Nat} {K:Kt}
 (hby:te.bytes<=65536) (hpos:0<te.size) (hzl:te.zero.length=te.size) (hone:(G8 te||Nat.beq te.size 1)=true)
 (h:uX te n m nf K):∃v bs',K v bs'/\OpS P o [.d (.i .i64 n),.d (.i .i64 m)] [nf] [.res] bs' v:=by
 unfold uX at h
 have hargs:F9 o.op=[l,c]:=by simp[ho,F9]
 obtain⟨i,z,hi⟩:=S5 hteo
 replace h:=h.elim
 obtain⟨⟨h0,hnm,hm⟩,h⟩:=h
 refine⟨_,_,h,λρ w S hp β hr hor hb=> ?_⟩
 have hn:hp[nf]? =some .res:=by simpa using hb 0 nf rfl
 obtain⟨hl,hc⟩:=OR.two (by rw[hargs] at hor;exact hor)
 have hl:=W5 hl
 have hc:=W5 hc
 unfold room at hm
 have hm0:0<=m:=by omega
 have hb2:(i.bytes:Int)*m<=281474976710656:=by
  rw[hi.bytes]
  have h1:(te.bytes:Int)<=65536:=by omega
  have h2:(te.bytes:Int)*m<=65536*m:=qT h1 hm0
  have h3:(65536:Int)*m<=65536*1073741824:=sU (by omega) (by omega)
  omega
 have hrun:=run_make (P:=P) w t e i z (P8 hti hk) hi.info hi.zero .i64 .i64 n m h0 hnm hb2 (by omega)
 obtain⟨zs1,zs2⟩:=gZ hi.zs
 have hzf:∀(j:Nat) (c:D),te.zero[j]? =some c->c.flat=true:=λj c hj=>by
  have hl:j<z.cells.toList.length:=by rw[<-zs1];exact(A4.1 hj).1
  exact(zs2 j c _ hj (A3 hl) w S).2
 have hzc:(Q9 te).cells=te.zero:=tK hzl (λha=>by
  cases hag:G8 te with
  |true=>rw[hag] at ha;cases ha
  |false=>simpa[hag] using hone) hzf
 have hzsz:z.cells.size=te.size:=by rw[<-hzl,zs1];simp
 have hnm':n.toNat<=m.toNat:=by omega
 obtain⟨β',r1,r2,r3⟩:=CB hr hn e (madeCells z.cells (m.toNat*i.size)) te.size n.toNat m.toNat (List.replicate n.toNat (Q9 te)) hpos (λj x hx=>by
  rw[J2] at hx
  split at hx<;>simp at hx
  subst hx
  rw[hzc]
  exact⟨hzl,hzf⟩) (by rw[size_madeCells,hi.size,K9];exact D6 _ hnm') (by rw[size_madeCells,hi.size];exact B1 _) hnm' (λj x q c hx hq=>by
  rw[J2] at hx
  split at hx<;>simp at hx
  rename_i hjn
  subst hx
  rw[hzc] at hq
  have hq':q<te.size:=by rw[<-hzl];exact(A4.1 hq).1
  have hlt:j*te.size+q<m.toNat*i.size:=by
   rw[hi.size]
   have:=D6 te.size (show j+1<=m.toNat by omega)
   rw[P3] at this
   omega
  refine⟨_,xE _ _ _ hlt,?_⟩
  rw[hzsz,C6 j te.size,mO,M0 hq']
  have hqz:q<z.cells.size:=by omega
  rw[getElem!_pos z.cells q hqz]
  exact(zs2 q c _ hq (by simp[hqz]) w S).1)
 refine⟨_,_,S,β',_,?_,.inl rfl,by simpa[J5] using r1,by simpa[J5] using r3,by simpa[J5] using r2⟩
 simp[execOp,ho,hl,hc,hrun]
theorem A0w {w:World} {S:Stb} {h:Hp} {β:Bet} (hr:HR w S h β) {n:Nat} (hn:h[n]? =some .res) (e:TypeId) (cells:Array Value) (xs:List D) (hl:cells.size=xs.length)
 (hc:∀(i:Nat) (x:D) (y:Value),xs[i]? =some x->cells[i]? =some y->x.flat=true/\DR w S x y):
 ∃β',HR (w.alloc (.cells cells e)) S (h.set n (.vard xs)) β'/\F7 w S h β (w.alloc (.cells cells e)) S (h.set n (.vard xs)) β'/\
  VR (w.alloc (.cells cells e)) S (h.set n (.vard xs)) β' (.sref n 1 0 xs.length true) (.slice (some ⟨w.heap.size,0,none⟩) xs.length xs.length):=by
 have hnl:n<h.length:=(A4.1 hn).1
 obtain⟨r1,r2⟩:=wG hr hn (.cells cells e) (.vard xs) 0 (X8 w cells e) (λE hS hβ hh=>
  ⟨w.heap.size,cells,e,hβ,hh,hl,λj c u hj hu=>by
    obtain⟨a,b⟩:=hc j c u hj hu
    exact⟨a,b.evol E.sub E.cell⟩,hS⟩)
 refine⟨_,r1,r2,.sref rfl ⟨_,_,rfl,B1 _,λ_=>rfl,?_⟩⟩
 have hget:(h.set n (Blk.vard xs))[n]? =some (.vard xs):=by simp[hnl]
 have hβ:(β.set n (some (w.heap.size,0)))[n]? =some (some (w.heap.size,0)):=by
  have:n<β.length:=D3 hnl hr.len
  simp[this]
 rw[hget]
 exact⟨rfl,w.heap.size,cells,e,(0,0),hβ,λ_=>rfl,heap_alloc_new w _,by omega⟩
theorem CG (hT:W9 P T=true) {o:Oper} {t:TypeId} {l c:Operand} (ho:o.op=.makeSlice t l c) {lv cv:V} {nf:Nat} {K:Kt}
 (h:yH T t lv cv nf K):∃v bs',K v bs'/\OpS P o [lv,cv] [nf] [.res] bs' v:=by
 unfold yH at h
 have hargs:F9 o.op=[l,c]:=by simp[ho,F9]
 split at h
 ·rename_i ti n m hty
  have hti:=H7 hT hty
  split at h
  ·rename_i e hk
   cases hte:J8 T e with
   |none=>simp[hte] at h
   |some te=>
    have hteo:=H7 hT hte
    simp only[hte] at h
    obtain⟨i,z,hi⟩:=S5 hteo
    replace h:=(J1 _ _).1 h
    obtain⟨hchk,h⟩:=h
    simp only[C8] at hchk
    obtain⟨⟨⟨hby,hpos⟩,hzl⟩,hone⟩:=hchk
    have hby:=B5 hby
    have hpos:0<te.size:=B5 hpos
    have hzl:=B2 hzl
    have row:uX te n m nf K->∃v bs',K v bs'/\OpS P o [.d (.i .i64 n),.d (.i .i64 m)] [nf] [.res] bs' v:=λh=>KM hT ho hti hk hteo hby hpos hzl hone h
    split at h
    ·rename_i e2 hk2
     rcases h.elim with h2|h2
     ·exact row h2
     ·obtain⟨⟨h0,hnm,hm⟩,h3⟩:=h2.elim
      subst hnm
      obtain⟨hsz,h⟩:=(J1 _ _).1 h3
      have hsz:=B2 hsz
      refine⟨_,_,h,λρ w S hp β hr hor hb=> ?_⟩
      have hn:hp[nf]? =some .res:=by simpa using hb 0 nf rfl
      obtain⟨hl,hc⟩:=OR.two (by rw[hargs] at hor;exact hor)
      have hl:=W5 hl
      have hc:=W5 hc
      unfold room at hm
      have hb2:(i.bytes:Int)*n<=281474976710656:=by
       rw[hi.bytes]
       have h1:(te.bytes:Int)<=65536:=by omega
       have h2:(te.bytes:Int)*n<=65536*n:=qT h1 h0
       have h3:(65536:Int)*n<=65536*1073741824:=sU (by omega) (by omega)
       omega
      have hrun:=run_make (P:=P) w t e i z (P8 hti hk) hi.info hi.zero .i64 .i64 n n h0 (M7 _) hb2 (by omega)
      obtain⟨zs1,zs2⟩:=gZ hi.zs
      have hzf:∀(j:Nat) (c:D),te.zero[j]? =some c->c.flat=true:=λj c hj=>by
       have hl:j<z.cells.toList.length:=by rw[<-zs1];exact(A4.1 hj).1
       exact(zs2 j c _ hj (A3 hl) w S).2
      have hzc:(Q9 te).cells=te.zero:=tK hzl (λha=>hsz) hzf
      have hzfl:(Q9 te).flat=true:=by
       unfold Q9
       have hag:G8 te=false:=by simp[G8,hk2]
       rw[hag]
       have:te.zero.length=1:=by omega
       match hz:te.zero,this with
       |[x],_=>exact hzf 0 x (by rw[hz];rfl)
      have hzsz:z.cells.size=1:=by rw[<-hsz,<-hzl,zs1];simp
      obtain⟨β',r1,r2,r3⟩:=A0w hr hn e (madeCells z.cells (n.toNat*i.size)) (List.replicate n.toNat (Q9 te)) (by rw[size_madeCells,hi.size,K9,hsz,L2]) (λj x y hx hy=>by
       rw[J2] at hx
       split at hx<;>simp at hx
       rename_i hjn
       subst hx
       rw[xE _ _ _ (by rw[hi.size,hsz,L2];exact hjn)] at hy
       cases hy
       rw[hzsz,gF]
       have hqz:0<z.cells.size:=by omega
       rw[getElem!_pos z.cells 0 hqz]
       have h0:te.zero[0]? =some (Q9 te):=by rw[<-hzc,eV _ hzfl];rfl
       exact⟨hzfl,(zs2 0 _ _ h0 (by simp[hqz]) w S).1⟩)
      rw[K9] at r3
      refine⟨_,_,S,β',_,?_,.inl rfl,by simpa[J5] using r1,by simpa[J5] using r3,by simpa[J5] using r2⟩
      simp[execOp,ho,hl,hc,hrun]
    ·exact row h
  ·exact h.elim
 ·exact h.elim
theorem KN {o:Oper} {t:TypeId} (ho:o.op=.makeMap t none) {vs:List V} {kt:TypeId} {nf:Nat}:OpS P o vs [nf] [.res] [.map T kt []] (.map nf):=by
 intro ρ w S hp β hr hor hb
 have hn:hp[nf]? =some .res:=by simpa using hb 0 nf rfl
 have hnl:nf<hp.length:=(A4.1 hn).1
 obtain⟨r1,r2⟩:=wG hr hn (.map #[] 0) (.map T kt []) 0 (jV w _ (λ_ _ _ h=>by cases h)) (λE hS hβ hh=>
  ⟨w.heap.size,#[],0,hβ,hh,rfl,by simp,AL.nil,hS⟩)
 have hβ:(β.set nf (some (w.heap.size,0)))[nf]? =some (some (w.heap.size,0)):=by
  have:nf<β.length:=D3 hnl hr.len
  simp[this]
 have hget:(hp.set nf (Blk.map T kt []))[nf]? =some (.map T kt []):=by simp[hnl]
 refine⟨_,_,S,_,_,?_,.inl rfl,by simpa[J5] using r1,.map (by simp only[J5];rw[hget];trivial) (λ_=>hβ),by simpa[J5] using r2⟩
 simp[execOp,ho,Instr.makeMap,newObj,Sem.run]
end Go.PM

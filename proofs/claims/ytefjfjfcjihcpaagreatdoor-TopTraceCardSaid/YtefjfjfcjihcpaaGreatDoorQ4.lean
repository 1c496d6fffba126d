/- TopTrace: part 4 of the proof: for every input the law returns true, and its arguments read behind the call as they read before; where the library's table is as its own text lays it. -/
import Derived.Test.YtefjfjfcjihcpaaGreatDoorQ3
import Derived.Laws.Cover3
import Derived.AtR
import Derived.OrdersIn
set_option maxRecDepth 10000
set_option maxHeartbeats 400000000
set_option linter.unusedSectionVars false
namespace Go.PM
variable [CN]
variable {P:Program}
def ZY (S:Stb) (β:Bet) (n k:Nat):Stb:=λb o=>S b o∨∃base,β[n]? =some (some (b,base))/\base<=o/\o<base+k
theorem freeze {w:World} {S:Stb} {h:Hp} {β:Bet} (hr:HR w S h β) {n ver sz:Nat} {ro:Bool} {xs:List D} (hn:h[n]? =some (.row ver sz ro xs)):
 HR w (ZY S β n (xs.length*sz)) (h.set n (.row ver sz true xs)) β/\F7 w S h β w (ZY S β n (xs.length*sz)) (h.set n (.row ver sz true xs)) β:=by
 have hnl:n<h.length:=(A4.1 hn).1
 have E:F7 w S h β w (ZY S β n (xs.length*sz)) (h.set n (.row ver sz true xs)) β:=by
  refine⟨Out.refl _,B1 _,λ_ _ _=>rfl,λ_ c _ _ hi=>⟨c,hi,rfl⟩,λ_ l hl=>⟨l,hl⟩,λ_ _=>rfl,λ_ _ h=>.inl h,λb o hs=> ?_,λ_ _ _=>rfl,λ_ h=>.inl h,by simp,λm b hm=> ?_⟩
  ·rcases hs with hs|⟨base,hb,_⟩
   ·exact .inl hs
   ·exact .inr (.inr ⟨n,base,hb⟩)
  ·by_cases hmn:n=m
   ·subst hmn
    rw[hn] at hm;cases hm
    exact⟨.row ver sz true xs,by simp[hnl],.inr ⟨ver,true,xs,rfl,B1 _,λ_=>rfl⟩⟩
   ·exact⟨b,by rw[C3 hmn];exact hm,BEv.refl _ _⟩
 refine⟨⟨by simpa using hr.len,λm b hm=> ?_,hr.inj,λb o hs=> ?_,hr.glob.evol E,λr b p hb=>by rw[A1p] at hb;exact hr.tlt r b p hb,vP hr.one hn (λh=>nomatch h)⟩,E⟩
 ·by_cases hmn:n=m
  ·subst hmn
   have:b=.row ver sz true xs:=by simpa[hnl] using hm.symm
   subst this
   obtain⟨h0,h1,h2⟩:=hr.blk n _ hn
   refine⟨h0,h1,?_⟩
   rcases h2 with⟨h2,h3⟩|⟨b,base,c,e,h2,h3,h4,h5,h6⟩
   ·exact .inl ⟨h2,h3⟩
   ·refine .inr ⟨b,base,c,e,h2,h3,h4,λi x j y hi hj=> ?_,λo ho=> ?_⟩
    ·obtain⟨u,hu,hd⟩:=h5 i x j y hi hj
     exact⟨u,hu,hd.evol E.sub E.cell⟩
    ·rcases ho with ho|⟨base',hb,_,hlt⟩
     ·exact⟨rfl,(h6 o ho).2⟩
     ·rw[h2] at hb;simp at hb;subst hb;exact⟨rfl,hlt⟩
  ·rw[C3 hmn] at hm
   refine BR.keep E rfl (λ_ r b p hb=>⟨by rw[A1p];exact hb,rfl,λo ho=> ?_⟩) (λb' p hb'=>⟨rfl,λo ho=> ?_⟩) (hr.blk m b hm)
   ·rcases ho with ho|⟨base,hb',_⟩
    ·exact ho
    ·exact absurd rfl (hr.tne hnl hb' hb)
   rcases ho with ho|⟨base,hb,_⟩
   ·exact ho
   ·exact absurd (hr.inj n m b' base p hb hb') hmn
 ·rcases hs with hs|⟨base,hb,_⟩
  ·exact hr.old b o hs
  ·exact hr.lt hb
theorem pL {w:World} {S:Stb} {h:Hp} {β:Bet} (hr:HR w S h β) {n ver sz lo len:Nat} {ro full:Bool} {xs:List D} {v:Value} (hn:h[n]? =some (.row ver sz ro xs)) (hl:lo+len<=xs.length)
 (hv:VR w S h β (.sref n ver lo len full) v):DR w (ZY S β n (xs.length*sz)) (.sl sz full ((xs.drop lo).take len)) v:=by
 cases hv with
 |sref h1 h2=>
  obtain⟨a,cap,rfl,hc,hf,hp⟩:=h2
  simp only[hn] at hp
  obtain⟨_,hp⟩:=hp
  obtain⟨g0,g1,g2⟩:=hr.blk n _ hn
  have hlen:((xs.drop lo).take len).length=len:=by simp;omega
  have helem:∀{i:Nat} {x:D},((xs.drop lo).take len)[i]? =some x->xs[lo+i]? =some x:=bM
  have key:∀(b base:Nat) (cells:Array Value),β[n]? =some (some (b,base))->(0<cap->a=some ⟨b,base+lo*sz,none⟩)->
   (∀(i:Nat) (x:D) (j:Nat) (c:D),xs[i]? =some x->x.cells[j]? =some c->∃u,w.cell? ⟨b,base+i*sz+j,none⟩=some u/\DR w S c u)->
   DR w (ZY S β n (xs.length*sz)) (.sl sz full ((xs.drop lo).take len)) (.slice a len cap):=by
   intro b base cells hb ha hcell
   have hD:∀(i:Nat) (x:D) (j:Nat) (c:D),((xs.drop lo).take len)[i]? =some x->x.cells[j]? =some c->w.cell? ⟨b,base+lo*sz+i*sz+j,none⟩=some ((w.cell? ⟨b,base+lo*sz+i*sz+j,none⟩).getD undef)/\DR w S c ((w.cell? ⟨b,base+lo*sz+i*sz+j,none⟩).getD undef):=by
    intro i x j c hx hj
    obtain⟨u,hu,hd⟩:=hcell (lo+i) x j c (helem hx) hj
    rw[H5,<-aP] at hu
    rw[hu]
    exact⟨rfl,hd⟩
   have:=DR.sl (w:=w) (S:=ZY S β n (xs.length*sz)) sz full ((xs.drop lo).take len) a cap b (base+lo*sz) (λi j=>(w.cell? ⟨b,base+lo*sz+i*sz+j,none⟩).getD undef) (by omega) (by rw[hlen];exact hf) (λe=>by omega)
    (λhne=>ha (by have:=lE.2 hne;omega)) (λi x hx=>(g1 _ x (helem hx)).1) (λi x j c hx hj=>⟨(g1 _ x (helem hx)).2 j c hj,(hD i x j c hx hj).1,.inr ⟨base,hb,by omega,?_⟩⟩)
    (λi x j c hx hj=>(hD i x j c hx hj).2.evol (λ_ _ h=>.inl h) (λ_ _ _=>rfl))
   ·rw[hlen] at this;exact this
   ·have hi:lo+i<xs.length:=(A4.1 (helem hx)).1
    have hjs:j<sz:=by rw[<-(g1 _ x (helem hx)).1];exact(A4.1 hj).1
    have:(lo+i+1)*sz<=xs.length*sz:=D6 _ hi
    rw[H5,H5] at this
    omega
  rcases g2 with⟨rfl,hnone⟩|⟨b,base,c,e,k1,k2,k3,k4,k5⟩
  ·have hlen0:len=0:=by simp at hl;omega
   subst hlen0
   simp only[List.drop_nil,List.take_nil]
   exact .sl sz full [] a cap 0 0 (λ_ _=>undef) (by simp) hf (λ_=>rfl) (by simp) (by simp) (by simp) (by simp)
  ·rcases hp trivial with⟨hnone,_⟩|⟨b',base',cells,elem,fz,q1,q2,q3,q4⟩
   ·rw[k1] at hnone;simp at hnone
   ·rw[k1] at q1;simp at q1;obtain⟨rfl,rfl⟩:=q1
    exact key b base c k1 q2 λi x j y hi hj=>by
     obtain⟨u,hu,hd⟩:=k4 i x j y hi hj
     exact⟨u,by rw[cell_of_row w b _ c e (0,0) k2];exact hu,hd⟩
theorem A6z {w:World} {S:Stb} {h:Hp} {β:Bet} (hr:HR w S h β) {n:Nat} {xs:List D} (hn:h[n]? =some (.vard xs)):
 HR w S (h.set n (.row 1 1 false xs)) β/\F7 w S h β w S (h.set n (.row 1 1 false xs)) β:=by
 obtain⟨b,cells,elem,g1,g2,g3,g4,g5⟩:=hr.blk n _ hn
 have hβ:β.set n (some (b,0))=β:=by
  obtain⟨hl,he⟩:=A4.1 g1
  conv=>rhs;rw[<-Z5 hl]
  rw[he]
 have:=upd (w':=w) hr hn (blk':=.row 1 1 false xs) (some (b,0)) (B1 _) (λ_ _ _=>rfl) (λ_ _ c e f _ h=>⟨c,h,rfl⟩) (λ_ _ l _ h=>⟨l,h⟩) (λ_=>rfl) (λ_ _ _ _ _=>rfl)
  (λb' p hb=>by cases hb;exact .inl ⟨0,g1⟩) (by rw[g1];exact .inr (.inr ⟨1,false,xs,rfl,B1 _,λ_=>rfl⟩)) (λE=> ?_)
 ·rw[hβ] at this;exact this
 ·rw[hβ] at E ⊢
  have hc:∀(i:Nat) (x:D),xs[i]? =some x->∃u,cells[i]? =some u/\x.flat=true/\DR w S x u:=λi x hx=>by
   have hlt:i<cells.size:=by rw[g3];exact(A4.1 hx).1
   obtain⟨a,b⟩:=g4 i x _ hx (B7 hlt)
   exact⟨_,B7 hlt,a,b⟩
  refine⟨by omega,λi x hx=> ?_,.inr ⟨b,0,cells,elem,g1,g2,by omega,λi x j c hx hj=> ?_,λo ho=>absurd ho (g5 o)⟩⟩
  ·obtain⟨u,_,hf,_⟩:=hc i x hx
   rw[eV _ hf]
   exact⟨rfl,λj c hj=>by cases j<;>simp at hj;subst hj;exact hf⟩
  ·obtain⟨u,hu,hf,hd⟩:=hc i x hx
   rw[eV _ hf] at hj
   cases j<;>simp at hj
   subst hj
   exact⟨u,by simpa using hu,hd⟩
def Lift (v:V) (h:Hp) (d:D) (h':Hp):Prop:=
 ∀(w:World) (S:Stb) (β:Bet) (cv:Value),HR w S h β->VR w S h β v cv->∃S',HR w S' h' β/\F7 w S h β w S' h' β/\DR w S' d cv
theorem DE {v:V} {h:Hp} {k:D->Hp->Prop} (hk:uI v h k):∃d h',k d h'/\Lift v h d h':=by
 unfold uI at hk
 split at hk
 ·rename_i x
  refine⟨x,h,hk,λw S β cv hr hv=>⟨S,hr,F7.refl _ _ _ _,?_⟩⟩
  cases hv;assumption
 ·rename_i n ver lo len full
  obtain⟨b,hn,hk⟩:=O6.1 hk
  split at hk
  ·rename_i ver' sz ro xs
   obtain⟨⟨rfl,hl⟩,hk⟩:=hk.elim
   obtain⟨_,hk⟩:=aG.1 hk.elim
   refine⟨_,_,hk,λw S β cv hr hv=> ?_⟩
   obtain⟨r1,r2⟩:=freeze hr hn
   exact⟨_,r1,r2,pL hr hn hl hv⟩
  ·rename_i xs
   obtain⟨⟨hv1,hl⟩,hk2⟩:=hk.elim
   subst hv1
   obtain⟨_,hk⟩:=aG.1 hk2.elim
   refine⟨_,_,hk,λw S β cv hr hv=> ?_⟩
   have hnl:n<h.length:=(A4.1 hn).1
   obtain⟨r0,e0⟩:=A6z hr hn
   have hn':(h.set n (.row 1 1 false xs))[n]? =some (.row 1 1 false xs):=by simp[hnl]
   obtain⟨r1,r2⟩:=freeze r0 hn'
   rw[List.set_set] at r1 r2
   exact⟨_,r1,e0.trans r2,pL r0 hn' hl (hv.evol e0)⟩
  ·exact hk.elim
 ·split at hk
  ·refine⟨_,h,hk,λw S β cv hr hv=>⟨S,hr,F7.refl _ _ _ _,?_⟩⟩
   cases hv with
   |fn _ _ arr h1 h2=>
    have:arr= #[]:=Array.eq_empty_of_size_eq_zero h1
    subst this
    exact .k _ rfl
  ·exact hk.elim
 ·exact hk.elim
theorem VM:∀(vs:List V) (h:Hp) (k:List D->Hp->Prop),ZO vs h k->∃ds h',k ds h'/\ds.length=vs.length/\
 ∀(w:World) (S:Stb) (β:Bet) (arr:List Value),HR w S h β->arr.length=vs.length->(∀(j:Nat) (c:V) (u:Value),vs[j]? =some c->arr[j]? =some u->VR w S h β c u)->
  ∃S',HR w S' h' β/\F7 w S h β w S' h' β/\∀(j:Nat) (d:D) (u:Value),ds[j]? =some d->arr[j]? =some u->d.flat=true/\DR w S' d u:=by
 intro vs
 induction vs with
 |nil=>exact λh k hk=>⟨[],h,hk,rfl,λw S β arr hr _ _=>⟨S,hr,F7.refl _ _ _ _,by simp⟩⟩
 |cons v r ih=>
  intro h k hk
  obtain⟨d,h1,hk,hd⟩:=DE hk
  obtain⟨hf,hk⟩:=(J1 _ _).1 hk
  obtain⟨ds,h2,hk,hl,hds⟩:=ih _ _ hk
  refine⟨d::ds,h2,hk,by simp[hl],λw S β arr hr ha hv=> ?_⟩
  cases arr with
  |nil=>simp at ha
  |cons y arr=>
   obtain⟨S1,r1,e1,d1⟩:=hd w S β y hr (hv 0 v y rfl rfl)
   obtain⟨S2,r2,e2,d2⟩:=hds w S1 β arr r1 (by simpa using ha) λj c u hj hu=>(hv (j+1) c u (by simpa using hj) (by simpa using hu)).evol e1
   refine⟨S2,r2,e1.trans e2,λj x u hj hu=> ?_⟩
   cases j with
   |zero=>simp at hj hu;subst hj;subst hu;exact⟨hf,d1.evol e2.sub e2.cell⟩
   |succ j=>exact d2 j x u (by simpa using hj) (by simpa using hu)
theorem rP {v:V} {h:Hp} {k:D->Hp->Prop} (hk:DD v h k):∃d h',k d h'/\Lift v h d h':=by
 unfold DD at hk
 split at hk
 ·rename_i cs
  obtain⟨ds,h',hk,hl,hds⟩:=VM _ _ _ hk
  refine⟨_,h',hk,λw S β cv hr hv=> ?_⟩
  cases hv with
  |agg _ arr g1 g2 g3=>
   obtain⟨S',r1,e1,d1⟩:=hds w S β arr.toList hr (by simpa using g1) λj c u hj hu=>g3 j c u hj (by simpa using hu)
   refine⟨S',r1,e1,.agg ds arr (by omega) (λj c hj=> ?_) λj c u hj hu=>(d1 j c u hj (by simpa using hu)).2⟩
   have hlt:j<arr.toList.length:=by
    have:=(A4.1 hj).1
    simp;omega
   exact(d1 j c _ hj (A3 hlt)).1
 ·exact DE hk
theorem xF:∀(vs:List V) (h:Hp) (k:List D->Hp->Prop),zP vs h k->∃ds h',k ds h'/\ds.length=vs.length/\
 ∀(w:World) (S:Stb) (β:Bet) (arr:List Value),HR w S h β->arr.length=vs.length->(∀(j:Nat) (c:V) (u:Value),vs[j]? =some c->arr[j]? =some u->VR w S h β c u)->
  ∃S',HR w S' h' β/\F7 w S h β w S' h' β/\∀(j:Nat) (d:D) (u:Value),ds[j]? =some d->arr[j]? =some u->DR w S' d u:=by
 intro vs
 induction vs with
 |nil=>exact λh k hk=>⟨[],h,hk,rfl,λw S β arr hr _ _=>⟨S,hr,F7.refl _ _ _ _,by simp⟩⟩
 |cons v r ih=>
  intro h k hk
  obtain⟨d,h1,hk,hd⟩:=rP hk
  obtain⟨ds,h2,hk,hl,hds⟩:=ih _ _ hk
  refine⟨d::ds,h2,hk,by simp[hl],λw S β arr hr ha hv=> ?_⟩
  cases arr with
  |nil=>simp at ha
  |cons y arr=>
   obtain⟨S1,r1,e1,d1⟩:=hd w S β y hr (hv 0 v y rfl rfl)
   obtain⟨S2,r2,e2,d2⟩:=hds w S1 β arr r1 (by simpa using ha) λj c u hj hu=>(hv (j+1) c u (by simpa using hj) (by simpa using hu)).evol e1
   refine⟨S2,r2,e1.trans e2,λj x u hj hu=> ?_⟩
   cases j with
   |zero=>simp at hj hu;subst hj;subst hu;exact d1.evol e2.sub e2.cell
   |succ j=>exact d2 j x u (by simpa using hj) (by simpa using hu)
theorem Y5:∀(vs:List V) (h:Hp) (k:List V->Hp->Prop),O3 vs h k->∃ds h',k ds h'/\ds.length=vs.length/\
 ∀(w:World) (S:Stb) (β:Bet),HR w S h β->
  ∀(arr:List Value),arr.length=vs.length->(∀(j:Nat) (c:V) (u:Value),vs[j]? =some c->arr[j]? =some u->VR w S h β c u)->
   ∃S',HR w S' h' β/\F7 w S h β w S' h' β/\(∀(j:Nat) (c:V) (u:Value),ds[j]? =some c->arr[j]? =some u->VR w S' h' β c u):=by
 intro vs
 induction vs with
 |nil=>exact λh k hk=>⟨[],h,hk,rfl,λw S β hr arr _ _=>⟨S,hr,F7.refl _ _ _ _,by simp⟩⟩
 |cons v r ih=>
  intro h k hk
  have lifted:(DD v h λd h=>O3 r h λds h=>k (.d d::ds) h)->∃ds h',k ds h'/\ds.length=(v::r).length/\
   ∀(w:World) (S:Stb) (β:Bet),HR w S h β->
    ∀(arr:List Value),arr.length=(v::r).length->(∀(j:Nat) (c:V) (u:Value),(v::r)[j]? =some c->arr[j]? =some u->VR w S h β c u)->
     ∃S',HR w S' h' β/\F7 w S h β w S' h' β/\(∀(j:Nat) (c:V) (u:Value),ds[j]? =some c->arr[j]? =some u->VR w S' h' β c u):=λhk=>by
   obtain⟨d,h1,hk,hd⟩:=rP hk
   obtain⟨ds,h2,hk,hl,hds⟩:=ih _ _ hk
   refine⟨_,h2,hk,by simp[hl],λw S β hr arr ha hv=> ?_⟩
   cases arr with
   |nil=>simp at ha
   |cons y arr=>
    obtain⟨S1,r1,e1,d1⟩:=hd w S β y hr (hv 0 v y rfl rfl)
    obtain⟨S2,r2,e2,d2⟩:=hds w S1 β r1 arr (by simpa using ha) λj c u hj hu=>(hv (j+1) c u (by simpa using hj) (by simpa using hu)).evol e1
    refine⟨S2,r2,e1.trans e2,λj x u hj hu=> ?_⟩
    cases j with
    |zero=>simp at hj hu;subst hj;subst hu;exact .d (d1.evol e2.sub e2.cell)
    |succ j=>exact d2 j x u (by simpa using hj) (by simpa using hu)
  have kept:(O3 r h λds h=>k (v::ds) h)->∃ds h',k ds h'/\ds.length=(v::r).length/\
   ∀(w:World) (S:Stb) (β:Bet),HR w S h β->
    ∀(arr:List Value),arr.length=(v::r).length->(∀(j:Nat) (c:V) (u:Value),(v::r)[j]? =some c->arr[j]? =some u->VR w S h β c u)->
     ∃S',HR w S' h' β/\F7 w S h β w S' h' β/\(∀(j:Nat) (c:V) (u:Value),ds[j]? =some c->arr[j]? =some u->VR w S' h' β c u):=λhk=>by
   obtain⟨ds,h2,hk,hl,hds⟩:=ih _ _ hk
   refine⟨_,h2,hk,by simp[hl],λw S β hr arr ha hv=> ?_⟩
   cases arr with
   |nil=>simp at ha
   |cons y arr=>
    obtain⟨S2,r2,e2,d2⟩:=hds w S β hr arr (by simpa using ha) λj c u hj hu=>hv (j+1) c u (by simpa using hj) (by simpa using hu)
    refine⟨S2,r2,e2,λj x u hj hu=> ?_⟩
    cases j with
    |zero=>simp at hj hu;subst hj;subst hu;exact(hv 0 _ _ rfl rfl).evol e2
    |succ j=>exact d2 j x u (by simpa using hj) (by simpa using hu)
  simp only[O3] at hk
  split at hk
  ·exact lifted hk
  ·exact lifted hk
  ·split at hk
   ·rename_i f
    obtain⟨ds,h2,hk,hl,hds⟩:=ih _ _ hk
    refine⟨_,h2,hk,by simp[hl],λw S β hr arr ha hv=> ?_⟩
    cases arr with
    |nil=>simp at ha
    |cons y arr=>
     obtain⟨S2,r2,e2,d2⟩:=hds w S β hr arr (by simpa using ha) λj c u hj hu=>hv (j+1) c u (by simpa using hj) (by simpa using hu)
     refine⟨S2,r2,e2,λj x u hj hu=> ?_⟩
     cases j with
     |zero=>
      simp at hj hu;subst hj;subst hu
      have:=hv 0 _ _ rfl rfl
      cases this with
      |fn _ _ arr h1 h2=>
       have:arr= #[]:=Array.eq_empty_of_size_eq_zero h1
       subst this
       exact .d (.k _ rfl)
     |succ j=>exact d2 j x u (by simpa using hj) (by simpa using hu)
   ·exact kept hk
  ·exact kept hk
theorem zO {op:Op} {vs:List V} {h:Hp} {k:List V->Hp->Prop} (hk:vT op vs h k):∃ds h',k ds h'/\ds.length=vs.length/\
 ∀(w:World) (S:Stb) (β:Bet),HR w S h β->
  ∀(arr:List Value),arr.length=vs.length->(∀(j:Nat) (c:V) (u:Value),vs[j]? =some c->arr[j]? =some u->VR w S h β c u)->
   ∃S',HR w S' h' β/\F7 w S h β w S' h' β/\(∀(j:Nat) (c:V) (u:Value),ds[j]? =some c->arr[j]? =some u->VR w S' h' β c u):=by
 have triv:k vs h->∃ds h',k ds h'/\ds.length=vs.length/\
  ∀(w:World) (S:Stb) (β:Bet),HR w S h β->
   ∀(arr:List Value),arr.length=vs.length->(∀(j:Nat) (c:V) (u:Value),vs[j]? =some c->arr[j]? =some u->VR w S h β c u)->
    ∃S',HR w S' h' β/\F7 w S h β w S' h' β/\(∀(j:Nat) (c:V) (u:Value),ds[j]? =some c->arr[j]? =some u->VR w S' h' β c u):=
  λhk=>⟨vs,h,hk,rfl,λw S β hr arr _ hv=>⟨S,hr,F7.refl _ _ _ _,hv⟩⟩
 unfold vT at hk
 split at hk
 ·exact Y5 _ _ _ hk
 ·exact Y5 _ _ _ hk
 ·exact Y5 _ _ _ hk
 ·exact Y5 _ _ _ hk
 ·exact Y5 _ _ _ hk
 ·split at hk
  ·obtain⟨b,_,hk⟩:=O6.1 hk
   split at hk
   ·exact Y5 _ _ _ hk
   ·exact triv hk
  ·exact triv hk
 ·split at hk
  ·obtain⟨n,i,a,xs,cs,rfl,h1,h2,hk⟩:=hk.holds
   refine⟨_,h,hk,rfl,λw S β hr arr hl hv=>⟨S,hr,F7.refl _ _ _ _,λj c u hj hu=> ?_⟩⟩
   cases j with
   |zero=>
    simp at hj
    subst hj
    have hv0:=hv 0 _ u rfl hu
    cases hv0 with
    |d hd=>cases hd with
     |k _ ho=>
      refine .ptr ho ?_
      unfold PR
      rw[h1]
      exact⟨a,by rw[h2];rfl,rfl⟩
   |succ j=>simp at hj
  ·exact triv hk
 ·exact triv hk
end Go.PM
namespace Go.PM
variable [CN]
variable {P:Program} {T:TT}
theorem VO:∀(h:Hp) (k:Nat->Prop),cT.lenOfK h k->k h.length
 |[],k,hk=>hk
 |_::h,k,hk=>VO h _ hk
theorem A3b:∀(h ys:Hp) (k:Hp->Prop),ER h ys k->k (h++ys)
 |[],ys,k,hk=>hk
 |_::h,ys,k,hk=>A3b h ys _ hk
theorem OD {te:TI} (hs:te.size=1):∀(is:List Nat) (us:List Value) (j:Nat) (k:List D->Prop),B2q is j=true->is.length=us.length->k (us.map D.k)->oU te is (us.map λu=>.d (.k u)) j k
 |[],[],j,k,_,_,hk=>hk
 |i::r,u::us,j,k,h,hl,hk=>by
  simp only[B2q,C8] at h
  simp only[E8,oU,h.1]
  unfold B0s
  refine(J1 _ _).2 ⟨by rw[hs];rfl,?_⟩
  exact OD hs r us (j+1) _ h.2 (by simpa using hl) hk
 |[],_::_,_,_,_,hl,_=>by simp at hl
 |_::_,[],_,_,_,hl,_=>by simp at hl
theorem KA (hT:W9 P T=true) {o:Oper} {t:TypeId} {len:Nat} {parts:Array (Nat×Operand)} (ho:o.op=.buildSlice t len parts) {vs:List V} {h:Hp} {k:V->Hp->Prop}
 (hx:wA T t len (ixs parts.toList) vs h k) {ρ:Operand->Value} {w:World} {S:Stb} {β:Bet} (hr:HR w S h β) (hor:OR w S h β ρ (parts.toList.map (·.2)) vs):
 ∃v h' w' S' β' cv,k v h'/\(execOp ρ o).run P w=.ok (.value cv) w'/\HR w' S' h' β'/\VR w' S' h' β' v cv/\F7 w S h β w' S' h' β':=by
 unfold wA at hx
 cases hty:J8 T t with
 |none=>simp[hty] at hx
 |some ti=>
  have hti:=H7 hT hty
  simp only[hty] at hx
  split at hx
  ·rename_i e hk
   cases hte:J8 T e with
   |none=>simp[hte] at hx
   |some te=>
    have hteo:=H7 hT hte
    simp only[hte] at hx
    obtain⟨i,z,hi⟩:=S5 hteo
    obtain⟨hchk,hx⟩:=(J1 _ _).1 hx
    simp only[C8] at hchk
    obtain⟨⟨⟨⟨⟨⟨c1,c2⟩,c3⟩,c4⟩,c5⟩,c6⟩,c7⟩:=hchk
    have c1:=B2 c1
    have c2:=B2 c2
    have c3:0<len:=B5 c3
    have c4:=B5 c4
    have c7:=B2 c7
    have hx:=A3b _ _ _ (VO _ _ hx)
    obtain⟨g1,g2⟩:=hor.vals
    obtain⟨us,hus⟩:∃us,us=(parts.toList.map (·.2)).map ρ:=⟨_,rfl⟩
    rw[<-hus] at g2
    have hul:(ixs parts.toList).length=us.length:=by rw[hus];simp[ixs]
    have hflat:∀(j:Nat) (c:V),vs[j]? =some c->c.flat=true:=λj c hj=>C5.1 c6 c (A7 hj)
    have hone:∀(j:Nat) (u:Value),us[j]? =some u->one u=true:=λj u hu=>by
     have hjl:j<vs.length:=by have:=(A4.1 hu).1;omega
     exact(g2 j vs[j] u (A3 hjl) hu).one (hflat j _ (A3 hjl))
    obtain⟨ys,hys,h1,h2,h3⟩:=uQ (te:=te) (ixs parts.toList) (us.map λu=>V.d (.k u)) 0 (λys=>ys=us.map D.k) (OD c2 _ _ _ _ c5 hul rfl)
    obtain⟨cells',e1,e2,e3,e4⟩:=h3 w S h β us ((Array.range (len*te.size)).map (z.cells[· %z.cells.size]!)) hul (λj v u hv hu=>by
     rw[A8,hu] at hv
     simp at hv;subst hv
     exact .d (.k u (hone j u hu))) (by simp[c1])
    have e2':cells'.size=len:=by rw[e2,c2];simp
    have hcell:∀(j:Nat) (u:Value),us[j]? =some u->cells'[j]? =some u:=λj u hu=>by
     obtain⟨u',a,b,_⟩:=e4 j (.k u) 0 (.k u) (by rw[hys,A8,hu];rfl) rfl
     rw[c2] at a
     cases b with
     |k _ _=>simpa using a
    obtain⟨β0,r1,r2⟩:=iT hr 1
    have hres:(h++List.replicate 1 Blk.res)[h.length]? =some .res:=by simp
    have J3:(h++List.replicate 1 Blk.res).set h.length (.var vs)=h++[.var vs]:=by simp
    have hlen0:h.length<β0.length:=by have:=r1.len;simp at this;omega
    have a2:=wG (hone:=rfl) r1 hres (.cells cells' e) (.var vs) 0 (X8 w cells' e) (λE hS hβ hh=>
     ⟨w.heap.size,cells',e,hβ,hh,by rw[e2',c7],λj c y hj hy=>⟨hflat j c hj,by
       have hjl:j<us.length:=by have:=(A4.1 hj).1;omega
       have hy':cells'[j]? =some us[j]:=hcell j _ (A3 hjl)
       rw[hy'] at hy;cases hy
       exact((g2 j c _ hj (A3 hjl)).evol r2).evol E⟩,hS⟩)
    rw[J3] at a2
    have hβn:(β0.set h.length (some (w.heap.size,0)))[h.length]? =some (some (w.heap.size,0)):=by simp[hlen0]
    obtain⟨b,cl,el,q1,q2,q3,_⟩:=a2.1.blk h.length (.var vs) (by rw[B3 (B1 _),G2];rfl)
    rw[hβn] at q1
    simp only[W8,iJ,and_true] at q1
    subst q1
    refine⟨_,_,w.alloc (.cells cells' e),S,_,.slice (some ⟨w.heap.size,0,none⟩) len len,hx,?_,a2.1,.sref rfl ⟨_,len,rfl,B1 _,λ_=>rfl,?_⟩,r2.trans a2.2⟩
    ·have hparts:(parts.map λ(i,x)=>(i,ρ x)).toList=(ixs parts.toList).zip us:=by
      have hzip:(parts.toList.map λp=>(p.1,ρ p.2))=(ixs parts.toList).zip ((parts.toList.map (·.2)).map ρ):=by
       simp only[ixs,eG,List.zip_map']
       rfl
      rw[hus,<-hzip];simp
     have h0:len*te.size≠0:=by rw[c2];omega
     simp only[execOp,ho,Instr.buildSlice,Sem.run_bind,run_underlying (P8 hti hk),Result.andThen_ok,P7 hteo]
     rw[if_neg (by rw[c2];omega),if_neg h0]
     simp only[Sem.run_bind,cH hi,Sem.run_pure,Result.andThen_ok,hparts,e1,newRow,newObj,Sem.run]
     rfl
    ·rw[B3 (B1 _),G2]
     exact⟨rfl,w.heap.size,cl,el,(0,0),hβn,λ_=>rfl,q2,by rw[q3];omega⟩
  ·exact hx.elim
def FF (ro:Option Nat):Fence:={Fence.wide with round:=ro}
theorem FF.all (ro:Option Nat) (f:FuncId):(FF ro).fn f:=trivial
theorem gW {ro:Option Nat} {n:Nat} {f:FuncId} {args:Array Value} {w:World} {R:Ending->World->Prop}:CallsIn (FF ro) n P f args w R↔Calls P f args w R:=
 callsIn_wide (n:=n)
structure Cx where
 ro:Option Nat
 B:Nat
 D:List Deferred
def pH (B:Nat) (w:World) (β:Bet) (ds:List Deferred):Prop:=
 ds.Pairwise (λd e=>d.target≠e.target)/\∀d∈ds,∃r,d.target=.collected r/\B<=r/\w.heap[r]? =some (.deferred (some []))/\¬img β r
def Marks (B:Nat) (D:List Deferred) (w:World) (β:Bet) (ds:List Deferred):Prop:=∃ms ms2,ds=ms++(D++ms2)/\pH B w β (ms++ms2)
theorem pH.evol {B:Nat} {w w':World} {S S':Stb} {h h':Hp} {β β':Bet} {ds:List Deferred} (hm:pH B w β ds) (E:F7 w S h β w' S' h' β'):pH B w' β' ds:=by
 refine⟨hm.1,λd hd=> ?_⟩
 obtain⟨r,h1,h2,h3,h4⟩:=hm.2 d hd
 have hlt:r<w.heap.size:=(C4.1 h3).1
 refine⟨r,h1,h2,by rw[E.frame r hlt h4];exact h3,λhi=> ?_⟩
 rcases E.imgs r hi with hi|hi
 ·exact h4 hi
 ·omega
theorem Marks.evol {B:Nat} {D:List Deferred} {w w':World} {S S':Stb} {h h':Hp} {β β':Bet} {ds:List Deferred} (hm:Marks B D w β ds) (E:F7 w S h β w' S' h' β'):Marks B D w' β' ds:=
 let ⟨ms,ms2,e,h0⟩:=hm;⟨ms,ms2,e,h0.evol E⟩
structure St (N:Nat) (C:Cx) (a:Act) (w:World) (S:Stb) (ts:Tm) (h:Hp) (β:Bet):Prop where
 hr:HR w S h β
 tr:TR w S h β ts a.tmps
 size:a.tmps.size=N
 marks:Marks C.B C.D w β a.defers
 round:∀l,C.ro=some l->∃r,w.heap[l]? =some (.loop r)
 base:C.B<=w.heap.size
theorem NG {v:Value} {x:D} (h:B3z v=some x) (w:World) (S:Stb):DR w S x v/\x.flat=true:=by
 unfold B3z at h
 split at h<;>simp at h<;>(try subst h)
 ·exact⟨.b _,rfl⟩
 ·exact⟨.i _ _,rfl⟩
 ·exact⟨.s _,rfl⟩
 ·exact⟨.sl 0 true [] none 0 0 0 (λ_ _=>undef) (by simp) (by simp) (by simp) (by simp) (by simp) (by simp) (by simp),rfl⟩
 ·refine⟨.k _ ?_,rfl⟩
  cases v<;>simp_all[one]
theorem IN:∀{vs:List Value} {xs:List D},IP vs=some xs->xs.length=vs.length/\∀(j:Nat) (x:D) (v:Value),xs[j]? =some x->vs[j]? =some v->∀w S,DR w S x v/\x.flat=true
 |[],xs,h=>by simp[IP] at h;subst h;simp
 |v::vs,xs,h=>by
  simp only[IP] at h
  split at h
  ·rename_i x ys h1 h2
   simp at h;subst h
   obtain⟨i1,i2⟩:=IN h2
   refine⟨by simp[i1],λj y u hy hu w S=> ?_⟩
   cases j with
   |zero=>simp at hy hu;subst hy;subst hu;exact NG h1 w S
   |succ j=>exact i2 j y u (by simpa using hy) (by simpa using hu) w S
  ·cases h
theorem QP (v:Value) (w:World) (S:Stb) (h:Hp) (β:Bet):VR w S h β (vR v) v:=by
 unfold vR
 split
 ·rename_i cs
  split
  ·rename_i xs hx
   obtain⟨h1,h2⟩:=IN hx
   refine .d (.agg xs cs (by simpa using h1.symm) (λj c hj=> ?_) λj c y hj hy=>(h2 j c y hj (by simpa using hy) w S).1)
   have hl:j<cs.toList.length:=by rw[<-h1];exact(A4.1 hj).1
   exact(h2 j c _ hj (A3 hl) w S).2
  ·exact .u _
 ·split
  ·rename_i x hx
   exact .d (NG hx w S).1
  ·exact .u _
theorem WR (v:Value) (k:V->Prop) (h:A0k v k):k (vR v):=by
 unfold A0k at h
 split at h
 ·exact h
 ·exact h
 ·exact h
 ·exact h
 ·rename_i cs
  simp only[vR]
  cases hh:IP cs.toList<;>simp only[hh] at h ⊢ <;>exact h
 ·exact h
theorem nK:∀(ts:Tm) (t:Nat) (k:V->Prop),IM ts t k->k (look ts t)
 |[],t,k,h=>h
 |(j,v)::r,t,k,h=>by
  simp only[IM,look] at h ⊢
  cases hj:Nat.beq j t<;>simp only[hj] at h ⊢
  ·exact nK r t k h
  ·exact h
theorem JC (k:V->Prop) (g:Nat):∀l,A2o l g k->k (NM l g)
 |[],h=>h
 |(j,cs)::r,h=>by
  unfold A2o at h
  unfold NM
  cases hb:Nat.beq j g with
  |true=>simpa[hb] using h
  |false=>simp only[hb] at h ⊢;exact JC k g r h
theorem gC (ts:Tm) (x:Operand) (k:V->Prop) (h:evK ts x k):k (ev ts x):=by
 cases x with
 |tmp t=>exact nK ts t k h
 |const v=>exact WR v k h
 |func f=>exact h
 |global g=>exact JC k g _ h
theorem qE (ts:Tm):∀(xs:List Operand) (k:List V->Prop),RM ts xs k->k (xs.map (ev ts))
 |[],k,h=>h
 |x::r,k,h=>by
  have h1:=gC ts x _ h
  exact qE ts r _ h1
theorem NL {w:World} {S:Stb} {h:Hp} {β:Bet} (g:Nat):∀(l:List (Nat×List D)),(∀p∈l,∀(j:Nat) (c:D),p.2[j]? =some c->c.flat=true/\∃u,w.cell? ⟨p.1,j,none⟩=some u/\DR w S c u/\S p.1 j)->VR w S h β (NM l g) (.pointer (some ⟨g,0,none⟩))
 |[],_=>.u _
 |(j,cs)::r,hg=>by
  unfold NM
  cases hb:Nat.beq j g with
  |true=>
   have:=B2 hb
   subst this
   have hj:=hg (j,cs) (.head _)
   exact .rp cs 0 j 0 (λi=>(w.cell? ⟨j,i,none⟩).getD undef) (λi c hi=>by
    obtain⟨h1,u,h2,h3,h4⟩:=hj i c hi
    rw[C1]
    exact⟨h1,by rw[h2];rfl,h4⟩) (λi c hi=>by
    obtain⟨h1,u,h2,h3,h4⟩:=hj i c hi
    rw[h2];exact h3)
  |false=>exact NL g r λp hp=>hg p (.tail _ hp)
theorem rS {w:World} {S:Stb} {h:Hp} {β:Bet} {ts:Tm} {a:Act} (hg:jY w S) (ht:TR w S h β ts a.tmps) (x:Operand):VR w S h β (ev ts x) (a.eval x):=by
 cases x with
 |tmp t=>exact ht t
 |const v=>exact QP v w S h β
 |func f=>exact .fn f [] #[] rfl (by simp)
 |global g=>exact NL g _ hg.cells
theorem gJ {w:World} {S:Stb} {h:Hp} {β:Bet} {ts:Tm} {a:Act} (hg:jY w S) (ht:TR w S h β ts a.tmps) (xs:List Operand):OR w S h β a.eval xs (xs.map (ev ts)):=by
 refine⟨by simp,λi x v hx hv=> ?_⟩
 rw[A8,hx] at hv
 simp at hv;subst hv
 exact rS hg ht x
theorem A2d {w:World} {S:Stb} {h:Hp} {β:Bet} {ts:Tm} {a:Act} {d:Nat} (ht:TR w S h β ts a.tmps) (hd:d<a.tmps.size) {v:V} {cv:Value} (hv:VR w S h β v cv):TR w S h β ((d,v)::ts) (a.tmps.setIfInBounds d cv):=by
 intro t
 simp only[look]
 by_cases hdt:d=t
 ·subst hdt
  have:Nat.beq d d=true:=kJ d
  simp only[this]
  rw[C0,N7,if_pos hd]
  exact hv
 ·have:Nat.beq d t=false:=by
   cases hb:Nat.beq d t
   ·rfl
   ·exact absurd (B2 hb) hdt
  simp only[this]
  rw[C0,G3 hdt,<-C0]
  exact ht t
def sX (ts:Tm) (d:Option Nat) (v:V):Tm:=match d with
 |none=>ts
 |some d=>(d,v)::ts
theorem fD {N:Nat} {ts:Tm} {d:Option Tmp} {v:V} {k:Tm->Prop} (h:fU N ts d v k):(∀x,d=some x->x<N)/\k (sX ts d v):=by
 unfold fU at h
 cases d with
 |none=>exact⟨by simp,h⟩
 |some d=>
  simp only[] at h
  split at h
  ·rename_i hb
   exact⟨λx hx=>by cases hx;exact B5 hb,h⟩
  ·exact h.elim
theorem St.put {N:Nat} {C:Cx} {a:Act} {w:World} {S:Stb} {ts:Tm} {h:Hp} {β:Bet} (hs:St N C a w S ts h β) {d:Option Nat} (hd:∀x,d=some x->x<N) {v:V} {cv:Value} (hv:VR w S h β v cv):St N C (a.put d cv) w S (sX ts d v) h β:=by
 cases d with
 |none=>exact hs
 |some d=>exact⟨hs.hr,A2d hs.tr (by rw[hs.size];exact hd d rfl) hv,by simp[Act.put,hs.size],hs.marks,hs.round,hs.base⟩
theorem St.evol {N:Nat} {C:Cx} {a:Act} {w w':World} {S S':Stb} {ts:Tm} {h h':Hp} {β β':Bet} (hs:St N C a w S ts h β) (E:F7 w S h β w' S' h' β') (hr:HR w' S' h' β'):St N C a w' S' ts h' β':=
 ⟨hr,λt=>(hs.tr t).evol E,hs.size,hs.marks.evol E,λl hl=>by
   obtain⟨r,h1⟩:=hs.round l hl
   exact E.loops l r h1,F5 hs.base E.size⟩
theorem FB:∀(l:List Oper) (j:Nat),UX l j=l[j]?
 |[],j=>by simp[UX]
 |o::l,0=>rfl
 |o::l,j+1=>by simpa[UX] using FB l j
def xH (all:List Oper) (ts:Tm) (o:Oper) (run:Bool):Prop:=match o.guard with
 |none=>run=true
 |some (j,want)=>∃g t,all[j]? =some g/\g.dst=some t/\((∃x,look ts t=.d (.b x)/\run=(x==want))∨(look ts t=.tup []/\run=false))
theorem DJ {all:List Oper} {ts:Tm} {o:Oper} {yes no:Prop} (h:BJ all ts o.guard yes no):(xH all ts o true/\yes)∨(xH all ts o false/\no):=by
 unfold BJ at h
 unfold xH
 cases hg:o.guard with
 |none=>simp only[hg] at h ⊢;exact .inl ⟨trivial,h⟩
 |some p=>
  obtain⟨j,want⟩:=p
  simp only[hg] at h ⊢
  rw[FB] at h
  cases ho:all[j]? with
  |none=>simp[ho] at h
  |some g=>
   simp only[ho] at h
   cases hd:g.dst with
   |none=>simp[hd] at h
   |some t=>
    simp only[hd] at h
    have h:=nK _ _ _ h
    split at h
    ·rename_i x hx
     cases want with
     |true=>
      simp only[] at h
      obtain⟨h1,h2⟩:=(SD _ _ _).1 h
      cases x with
      |true=>exact .inl ⟨⟨g,t,rfl,hd,.inl ⟨true,hx,rfl⟩⟩,h1 rfl⟩
      |false=>exact .inr ⟨⟨g,t,rfl,hd,.inl ⟨false,hx,rfl⟩⟩,h2 rfl⟩
     |false=>
      simp only[] at h
      obtain⟨h1,h2⟩:=(SD _ _ _).1 h
      cases x with
      |true=>exact .inr ⟨⟨g,t,rfl,hd,.inl ⟨true,hx,rfl⟩⟩,h1 rfl⟩
      |false=>exact .inl ⟨⟨g,t,rfl,hd,.inl ⟨false,hx,rfl⟩⟩,h2 rfl⟩
    ·rename_i l hx
     split at h
     ·exact .inr ⟨⟨g,t,rfl,hd,.inr ⟨hx,by trivial⟩⟩,h⟩
     ·exact h.elim
    ·exact h.elim
theorem xH.run {N:Nat} {C:Cx} {a:Act} {w:World} {S:Stb} {ts:Tm} {h:Hp} {β:Bet} (hs:St N C a w S ts h β) {ops:Array Oper} {o:Oper} {run:Bool} (hw:xH ops.toList ts o run):Region.wanted o (yielded ops a.tmps)=run:=by
 unfold xH at hw
 unfold Region.wanted
 cases hg:o.guard with
 |none=>simp only[hg] at hw;exact hw.symm
 |some p=>
  obtain⟨j,want⟩:=p
  simp only[hg] at hw ⊢
  obtain⟨g,t,h1,h2,hw⟩:=hw
  have ht:=hs.tr t
  have hop:ops[j]? =some g:=by simpa using h1
  rcases hw with⟨x,h3,rfl⟩|⟨h3,rfl⟩
  case inr=>
   rw[h3] at ht
   have hy:yielded ops a.tmps j=none:=by
    simp only[yielded,hop,Option.bind_some,h2]
    cases hc:a.tmps[t]? with
    |none=>rfl
    |some v=>
     rw[C0,hc] at ht
     simp only[O0] at ht
     cases ht with
     |tup _ arr _ _=>rfl
   simp[hy]
  rw[h3] at ht
  have hl:t<a.tmps.size:=by
   rcases gN t a.tmps.size with hl|hl
   ·exact hl
   ·rw[C0,Array.getElem?_eq_none hl] at ht
    cases ht with
    |d h=>cases h
  have hx:a.tmps[t]? =some (.bool x):=by
   rw[C0,B7 hl] at ht
   rw[B7 hl]
   simp only[O0] at ht
   generalize a.tmps[t]=vv at ht
   cases ht with
   |d h=>cases h;rfl
  simp only[yielded,hop,Option.bind_some,h2,hx]
  cases x<;>cases want<;>rfl
def OpW (P:Program) (ro:Option Nat) (n:Nat) (o:Oper) (xs:List Operand) (vs:List V) (ns:List Nat) (bs bs':List Blk) (v:V):Prop:=
 ∀(a:Act) (w:World) (S:Stb) (h:Hp) (β:Bet),HR w S h β->OR w S h β a.eval xs vs->(∀(i m:Nat),ns[i]? =some m->h[m]? =bs[i]?)->
  ∀(next:Act->World->Prop) (Q:Exit->Act->World->Prop),
   (∀w' S' β' cv,HR w' S' (J5 h ns bs') β'->VR w' S' (J5 h ns bs') β' v cv->F7 w S h β w' S' (J5 h ns bs') β'->next (a.put o.dst cv) w')->
   o.wpIn (FF ro) n P a w next Q
theorem OpS.opW {ro:Option Nat} {n:Nat} {o:Oper} {vs:List V} {ns:List Nat} {bs bs':List Blk} {v:V} (h:OpS P o vs ns bs bs' v) (hd:∀c,o.op≠.defer c):OpW P ro n o (F9 o.op) vs ns bs bs' v:=by
 intro a w S hp β hr hor hb next Q hk
 obtain⟨nx,w',S',β',cv,h1,h2,h3,h4,h5⟩:=h a.eval w S hp β hr hor hb
 refine⟨λf _=>FF.all ro f,?_⟩
 rw[Oper.semAt_eq _ _ _ hd,h1]
 rcases h2 with rfl|⟨rfl,rfl⟩
 ·exact hk w' S' β' cv h3 h4 h5
 ·exact hk w' S' β' undef h3 h4 h5
def bC (P:Program) (f:FuncId) (args:Array Value) (w:World) (R:Value->World->Prop):Prop:=
 ((callFunc f args).run P w=.ok (.enter f args) w/\Calls P f args w λe w'=>∃v,e=.returned v/\R v w')∨∃v w',(callFunc f args).run P w=.ok (.value v) w'/\R v w'
def VRs (w:World) (S:Stb) (h:Hp) (β:Bet) (vs:List V) (args:Array Value):Prop:=
 args.size=vs.length/\∀(j:Nat) (c:V) (u:Value),vs[j]? =some c->args[j]? =some u->VR w S h β c u
def M4 (P:Program) (f:FuncId) (args:List V) (h:Hp) (k:V->Hp->Prop):Prop:=
 ∀(w:World) (S:Stb) (β:Bet) (argv:Array Value),HR w S h β->VRs w S h β args argv->
  bC P f argv w λcv w'=>∃v h' S' β',k v h'/\HR w' S' h' β'/\VR w' S' h' β' v cv/\F7 w S h β w' S' h' β'
theorem bC.mono {P:Program} {f:FuncId} {argv:Array Value} {w:World} {R R':Value->World->Prop} (hc:bC P f argv w R) (key:∀v w',R v w'->R' v w'):bC P f argv w R':=by
 rcases hc with⟨h1,h2⟩|⟨v,w',h1,h2⟩
 ·exact .inl ⟨h1,λcs=>by
   obtain⟨e,w',fr,⟨v,he,hk⟩,r⟩:=h2 cs
   exact⟨e,w',fr,⟨v,he,key v w' hk⟩,r⟩⟩
 ·exact .inr ⟨v,w',h1,key v w' h2⟩
def C9 (P:Program) (f:FuncId) (args:List V) (v:V):Prop:=
 ∀(w:World) (S:Stb) (h:Hp) (β:Bet) (argv:Array Value),HR w S h β->VRs w S h β args argv->
  bC P f argv w λcv w'=>∃S' β',HR w' S' h β'/\VR w' S' h β' v cv/\F7 w S h β w' S' h β'
def T8 (P:Program) (f:FuncId) (args:List V) (sz:Nat) (ys:List D):Prop:=
 ∀(w:World) (S:Stb) (h:Hp) (β:Bet) (argv:Array Value) (n:Nat),h[n]? =some .res->HR w S h β->VRs w S h β args argv->
  bC P f argv w λcv w'=>∃S' β',HR w' S' (h.set n (.row 0 sz false ys)) β'/\VR w' S' (h.set n (.row 0 sz false ys)) β' (.sref n 0 0 ys.length false) cv/\F7 w S h β w' S' (h.set n (.row 0 sz false ys)) β'
def pB (P:Program) (f:FuncId) (args:List V) (T:TT) (kt:TypeId) (es:List (D×D)):Prop:=
 ∀(w:World) (S:Stb) (h:Hp) (β:Bet) (argv:Array Value) (n:Nat),h[n]? =some .res->HR w S h β->VRs w S h β args argv->
  bC P f argv w λcv w'=>∃S' β',HR w' S' (h.set n (.map T kt es)) β'/\VR w' S' (h.set n (.map T kt es)) β' (.map n) cv/\F7 w S h β w' S' (h.set n (.map T kt es)) β'
def FSq (P:Program) (f:FuncId) (args:List V) (n ver sz:Nat) (ro:Bool) (xs:List D) (v:V):Prop:=
 ∀(w:World) (S:Stb) (h:Hp) (β:Bet) (argv:Array Value),h[n]? =some (.row ver sz ro xs)->HR w S h β->VRs w S h β args argv->
  bC P f argv w λcv w'=>∃S' β',HR w' S' (h.set n (.row ver sz true xs)) β'/\VR w' S' (h.set n (.row ver sz true xs)) β' v cv/\F7 w S h β w' S' (h.set n (.row ver sz true xs)) β'
def mC (P:Program) (f:FuncId) (args:List V) (ns:List Nat) (bs:List Blk) (v:V):Prop:=
 ∀(w:World) (S:Stb) (h:Hp) (β:Bet) (argv:Array Value),(∀(i m:Nat),ns[i]? =some m->h[m]? =bs[i]?)->HR w S h β->VRs w S h β args argv->
  bC P f argv w λcv w'=>∃S' β',HR w' S' h β'/\VR w' S' h β' v cv/\F7 w S h β w' S' h β'
def XX (P:Program) (f:FuncId) (args:List V) (ns:List Nat) (bs bs':List Blk) (v:V):Prop:=
 ∀(w:World) (S:Stb) (h:Hp) (β:Bet) (argv:Array Value),(∀(i m:Nat),ns[i]? =some m->h[m]? =bs[i]?)->HR w S h β->VRs w S h β args argv->
  bC P f argv w λcv w'=>∃S' β',HR w' S' (J5 h ns bs') β'/\VR w' S' (J5 h ns bs') β' v cv/\F7 w S h β w' S' (J5 h ns bs') β'
def B5j (P:Program) (f:FuncId) (args:List V) (h:Hp):Res->Prop
 | .d v=>C9 P f args v
 | .row sz ys=>T8 P f args sz ys
 | .map T kt es=>pB P f args T kt es
 | .fix n v=>∀ver sz ro xs,h[n]? =some (.row ver sz ro xs)->FSq P f args n ver sz ro xs v
 | .keep ns v=>∀bs,bs.length=ns.length->(∀(i m:Nat),ns[i]? =some m->h[m]? =bs[i]?)->mC P f args ns bs v
 | .upd ns bs' v=>∀bs,bs.length=ns.length->(∀(i m:Nat),ns[i]? =some m->h[m]? =bs[i]?)->XX P f args ns bs bs' v
theorem kY {ro:Option Nat} {n:Nat} {o:Oper} {c:Call} {f:Operand} (ho:o.op=.call c) (hc:c.callee=.value f) {a:Act} {w:World} {g:FuncId} {cap:Array Value} (hf:a.eval f=.func (.func g) #[] cap)
 {R:Value->World->Prop} (h:bC P g (c.args.map a.eval++cap) w R) {next:Act->World->Prop} {Q:Exit->Act->World->Prop} (hk:∀v w',R v w'->next (a.put o.dst v) w'):o.wpIn (FF ro) n P a w next Q:=by
 refine⟨λf _=>FF.all ro f,?_⟩
 rw[Oper.semAt_eq _ _ _ (λc' h=>by rw[ho] at h;cases h)]
 have hr:(execOp a.eval o).run P w=(callFunc g (c.args.map a.eval++cap)).run P w:=by
  simp[execOp,ho,resolve,hc,Deferred.ofValue,hf,invoke]
 rw[hr]
 rcases h with⟨h1,h2⟩|⟨v,w',h1,h2⟩
 ·rw[h1,Oper.uponIn_enter]
  refine⟨λh=>by simp[FF,Fence.wide] at h,CallsIn.mono (gW.2 h2) λe w' he=> ?_⟩
  obtain⟨v,rfl,hR⟩:=he
  exact hk v w' hR
 ·rw[h1,Oper.uponIn_value]
  exact hk v w' h2
theorem VRs.of_or {w:World} {S:Stb} {h:Hp} {β:Bet} {ρ:Operand->Value} {xs:Array Operand} {vs:List V} (ho:OR w S h β ρ xs.toList vs) {cap:List V} {arr:Array Value} (hc:VRs w S h β cap arr):VRs w S h β (vs++cap) (xs.map ρ++arr):=by
 obtain⟨h1,h2⟩:=ho
 have h1:xs.size=vs.length:=by simpa using h1
 refine⟨by simp[h1,hc.1],λj c u hj hu=> ?_⟩
 by_cases hl:j<vs.length
 ·rw[B8 hl] at hj
  rw[V6 (by simp;omega),Array.getElem?_map,B7 (by omega)] at hu
  simp at hu;subst hu
  exact h2 j _ c (by simp) hj
 ·rw[B3 (by omega)] at hj
  rw[wJ (by simp;omega)] at hu
  simp only[Array.size_map,h1] at hu
  exact hc.2 _ c u hj hu
theorem VRs.append {w:World} {S:Stb} {h:Hp} {β:Bet} {xs ys:List V} {a b:Array Value} (h1:VRs w S h β xs a) (h2:VRs w S h β ys b):VRs w S h β (xs++ys) (a++b):=by
 refine⟨by simp[h1.1,h2.1],λj c u hj hu=> ?_⟩
 by_cases hl:j<xs.length
 ·rw[B8 hl] at hj
  rw[V6 (by rw[h1.1];exact hl)] at hu
  exact h1.2 j c u hj hu
 ·rw[B3 (by omega)] at hj
  rw[wJ (by rw[h1.1];omega),h1.1] at hu
  exact h2.2 _ c u hj hu
theorem A5x {ro:Option Nat} {n:Nat} {o:Oper} {c:Call} {f:Operand} (ho:o.op=.call c) (hc:c.callee=.value f) {a:Act} {w:World} {g:FuncId} {first cap:Array Value} (hf:a.eval f=.func (.func g) first cap)
 {R:Value->World->Prop} (h:bC P g (first++(c.args.map a.eval++cap)) w R) {next:Act->World->Prop} {Q:Exit->Act->World->Prop} (hk:∀v w',R v w'->next (a.put o.dst v) w'):o.wpIn (FF ro) n P a w next Q:=by
 refine⟨λf _=>FF.all ro f,?_⟩
 rw[Oper.semAt_eq _ _ _ (λc' h=>by rw[ho] at h;cases h)]
 have hr:(execOp a.eval o).run P w=(callFunc g (first++(c.args.map a.eval++cap))).run P w:=by
  simp[execOp,ho,resolve,hc,Deferred.ofValue,hf,invoke,Array.append_assoc]
 rw[hr]
 rcases h with⟨h1,h2⟩|⟨v,w',h1,h2⟩
 ·rw[h1,Oper.uponIn_enter]
  refine⟨λh=>by simp[FF,Fence.wide] at h,CallsIn.mono (gW.2 h2) λe w' he=> ?_⟩
  obtain⟨v,rfl,hR⟩:=he
  exact hk v w' hR
 ·rw[h1,Oper.uponIn_value]
  exact hk v w' h2
theorem VRs.caps {w:World} {S:Stb} {h:Hp} {β:Bet} {cs:List D} {a:Array Value} (h1:a.size=cs.length) (h2:∀(j:Nat) (c:D) (u:Value),cs[j]? =some c->a[j]? =some u->DR w S c u):VRs w S h β (cs.map wB.capV) a:=by
 refine⟨by simpa using h1,λj c u hj hu=> ?_⟩
 rw[A8,F0] at hj
 obtain⟨d,hj,rfl⟩:=hj
 have hd:=h2 j d u hj hu
 cases d with
 |pt ds=>
  cases hd with
  |pt _ b off uf g1 g2=>exact .rp ds 0 b off uf g1 g2
 |_=>exact .d hd
def FnV (v:V) (g:FuncId) (cap:List V):Prop:=v=.fn g cap∨(cap=[]/\v=.d (.k (.func (.func g) #[] #[])))
theorem FnV.rel {hv:V} {g:FuncId} {cap:List V} (h:FnV hv g cap) {w:World} {S:Stb} {hp:Hp} {β:Bet} {u:Value} (hr:VR w S hp β hv u):∃arr,u=.func (.func g) #[] arr/\VRs w S hp β cap arr:=by
 rcases h with rfl|⟨rfl,rfl⟩
 ·cases hr with
  |fn _ _ arr h1 h2=>exact⟨arr,rfl,h1,h2⟩
 ·cases hr with
  |d hd=>cases hd with
   |k _ _=>exact⟨#[],rfl,rfl,by simp⟩
theorem C9.opW {ro:Option Nat} {n:Nat} {o:Oper} {c:Call} {f:Operand} (ho:o.op=.call c) (hc:c.callee=.value f) {g:FuncId} {cap vs:List V} {hv:V} (hfv:FnV hv g cap) {v:V} (h:C9 P g (vs++cap) v):
 OpW P ro n o (f::c.args.toList) (hv::vs) [] [] [] v:=by
 intro a w S hp β hr hor hb next Q hk
 have hf:=hor.2 0 f _ rfl rfl
 have hor':OR w S hp β a.eval c.args.toList vs:=⟨by simpa using hor.1,λi x y hi hu=>hor.2 (i+1) x y (by simpa using hi) (by simpa using hu)⟩
 generalize hfe:a.eval f=fe at hf
 obtain⟨arr,rfl,h12⟩:=hfv.rel hf
 ·refine kY ho hc hfe (h w S hp β _ hr (VRs.of_or hor' h12)) λcv w' hR=> ?_
  obtain⟨S',β',g1,g2,g3⟩:=hR
  exact hk w' S' β' cv (by simpa[J5] using g1) (by simpa[J5] using g2) (by simpa[J5] using g3)
theorem mC.opW {ro:Option Nat} {n:Nat} {o:Oper} {c:Call} {f:Operand} (ho:o.op=.call c) (hc:c.callee=.value f) {g:FuncId} {cap vs:List V} {hv:V} (hfv:FnV hv g cap) {ns:List Nat} {bs:List Blk} {v:V} (h:mC P g (vs++cap) ns bs v):
 OpW P ro n o (f::c.args.toList) (hv::vs) ns bs bs v:=by
 intro a w S hp β hr hor hb next Q hk
 have hf:=hor.2 0 f _ rfl rfl
 have hor':OR w S hp β a.eval c.args.toList vs:=⟨by simpa using hor.1,λi x y hi hu=>hor.2 (i+1) x y (by simpa using hi) (by simpa using hu)⟩
 generalize hfe:a.eval f=fe at hf
 obtain⟨arr,rfl,h12⟩:=hfv.rel hf
 rw[jN λi m b hi hbi=>by rw[hb i m hi];exact hbi] at hk
 refine kY ho hc hfe (h w S hp β _ hb hr (VRs.of_or hor' h12)) λcv w' hR=> ?_
 obtain⟨S',β',g1,g2,g3⟩:=hR
 exact hk w' S' β' cv g1 g2 g3
theorem XX.opW {ro:Option Nat} {n:Nat} {o:Oper} {c:Call} {f:Operand} (ho:o.op=.call c) (hc:c.callee=.value f) {g:FuncId} {cap vs:List V} {hv:V} (hfv:FnV hv g cap) {ns:List Nat} {bs bs':List Blk} {v:V} (h:XX P g (vs++cap) ns bs bs' v):
 OpW P ro n o (f::c.args.toList) (hv::vs) ns bs bs' v:=by
 intro a w S hp β hr hor hb next Q hk
 have hf:=hor.2 0 f _ rfl rfl
 have hor':OR w S hp β a.eval c.args.toList vs:=⟨by simpa using hor.1,λi x y hi hu=>hor.2 (i+1) x y (by simpa using hi) (by simpa using hu)⟩
 generalize hfe:a.eval f=fe at hf
 obtain⟨arr,rfl,h12⟩:=hfv.rel hf
 refine kY ho hc hfe (h w S hp β _ hb hr (VRs.of_or hor' h12)) λcv w' hR=> ?_
 obtain⟨S',β',g1,g2,g3⟩:=hR
 exact hk w' S' β' cv g1 g2 g3
theorem T8.opW {ro:Option Nat} {n:Nat} {o:Oper} {c:Call} {f:Operand} (ho:o.op=.call c) (hc:c.callee=.value f) {g:FuncId} {cap vs:List V} {hv:V} (hfv:FnV hv g cap) {sz:Nat} {ys:List D} (h:T8 P g (vs++cap) sz ys) (nf:Nat):
 OpW P ro n o (f::c.args.toList) (hv::vs) [nf] [.res] [.row 0 sz false ys] (.sref nf 0 0 ys.length false):=by
 intro a w S hp β hr hor hb next Q hk
 have hf:=hor.2 0 f _ rfl rfl
 have hor':OR w S hp β a.eval c.args.toList vs:=⟨by simpa using hor.1,λi x y hi hu=>hor.2 (i+1) x y (by simpa using hi) (by simpa using hu)⟩
 generalize hfe:a.eval f=fe at hf
 obtain⟨arr,rfl,h12⟩:=hfv.rel hf
 ·refine kY ho hc hfe (h w S hp β _ nf (by simpa using hb 0 nf rfl) hr (VRs.of_or hor' h12)) λcv w' hR=> ?_
  obtain⟨S',β',g1,g2,g3⟩:=hR
  exact hk w' S' β' cv (by simpa[J5] using g1) (by simpa[J5] using g2) (by simpa[J5] using g3)
theorem pB.opW {ro:Option Nat} {n:Nat} {o:Oper} {c:Call} {f:Operand} (ho:o.op=.call c) (hc:c.callee=.value f) {g:FuncId} {cap vs:List V} {hv:V} (hfv:FnV hv g cap) {T:TT} {kt:TypeId} {es:List (D×D)} (h:pB P g (vs++cap) T kt es) (nf:Nat):
 OpW P ro n o (f::c.args.toList) (hv::vs) [nf] [.res] [.map T kt es] (.map nf):=by
 intro a w S hp β hr hor hb next Q hk
 have hf:=hor.2 0 f _ rfl rfl
 have hor':OR w S hp β a.eval c.args.toList vs:=⟨by simpa using hor.1,λi x y hi hu=>hor.2 (i+1) x y (by simpa using hi) (by simpa using hu)⟩
 generalize hfe:a.eval f=fe at hf
 obtain⟨arr,rfl,h12⟩:=hfv.rel hf
 ·refine kY ho hc hfe (h w S hp β _ nf (by simpa using hb 0 nf rfl) hr (VRs.of_or hor' h12)) λcv w' hR=> ?_
  obtain⟨S',β',g1,g2,g3⟩:=hR
  exact hk w' S' β' cv (by simpa[J5] using g1) (by simpa[J5] using g2) (by simpa[J5] using g3)
theorem FSq.opW {ro:Option Nat} {n:Nat} {o:Oper} {c:Call} {f:Operand} (ho:o.op=.call c) (hc:c.callee=.value f) {g:FuncId} {cap vs:List V} {hv:V} (hfv:FnV hv g cap) {m ver sz:Nat} {r:Bool} {xs:List D} {v:V} (h:FSq P g (vs++cap) m ver sz r xs v):
 OpW P ro n o (f::c.args.toList) (hv::vs) [m] [.row ver sz r xs] [.row ver sz true xs] v:=by
 intro a w S hp β hr hor hb next Q hk
 have hf:=hor.2 0 f _ rfl rfl
 have hor':OR w S hp β a.eval c.args.toList vs:=⟨by simpa using hor.1,λi x y hi hu=>hor.2 (i+1) x y (by simpa using hi) (by simpa using hu)⟩
 generalize hfe:a.eval f=fe at hf
 obtain⟨arr,rfl,h12⟩:=hfv.rel hf
 ·refine kY ho hc hfe (h w S hp β _ (by simpa using hb 0 m rfl) hr (VRs.of_or hor' h12)) λcv w' hR=> ?_
  obtain⟨S',β',g1,g2,g3⟩:=hR
  exact hk w' S' β' cv (by simpa[J5] using g1) (by simpa[J5] using g2) (by simpa[J5] using g3)
def CM (N:Nat) (C:Cx) (w:World) (S:Stb) (h:Hp) (β:Bet) (k:Tm->Hp->Prop) (a':Act) (w':World):Prop:=
 ∃ts' h' S' β',k ts' h'/\St N C a' w' S' ts' h' β'/\F7 w S h β w' S' h' β'
def nU:Ex->Exit
 | .normal=>.normal
 | .exit id=>.exit id
 | .ret=>.ret
def lZ (N:Nat) (C:Cx) (w:World) (S:Stb) (h:Hp) (β:Bet) (k:Ex->Tm->Hp->Prop) (e:Exit) (a':Act) (w':World):Prop:=
 ∃x,e=nU x/\CM N C w S h β (k x) a' w'
def AWP (P:Program) (N:Nat) (c:Code) (ts:Tm) (h:Hp) (k:Ex->Tm->Hp->Prop):Prop:=
 ∀(n:Nat) (C:Cx) (a:Act) (w:World) (S:Stb) (β:Bet),St N C a w S ts h β->c.wpIn (FF C.ro) n P (lZ N C w S h β k) a w
def Wk (N:Nat) (ts:Tm) (h:Hp) (ts':Tm) (h':Hp):Prop:=
 ∀(C:Cx) (a:Act) (w:World) (S:Stb) (β:Bet),St N C a w S ts h β->∃S' β',St N C a w S' ts' h' β'/\F7 w S h β w S' h' β'
def WkS (N:Nat) (ts:Tm) (h:Hp) (F:Tm->Hp->Prop):Prop:=
 ∀(C:Cx) (a:Act) (w:World) (S:Stb) (β:Bet),St N C a w S ts h β->∃ts' h' S' β',F ts' h'/\St N C a w S' ts' h' β'/\F7 w S h β w S' h' β'
structure Env.Ok (P:Program) (E:Env):Prop where
 weak:∀ts h F,E.weak ts h F->WkS E.N ts h F
 types:W9 P E.T=true
 mixed:P.follows .mixedOrders=true
 call:∀f args h k,E.call f args h k->M4 P f args h k
 pcall:∀f args h k,E.pcall f args h k->∃r,k r/\B5j P f args h r
 yld:∀(o:Oper) (c:Call) (f:Operand) (nm:Nat) vs h k,o.op=.call c->c.callee=.value f->E.yld nm vs h k->
  ∀(n:Nat) (ro:Option Nat) (a:Act) (w:World) (S:Stb) (β:Bet),HR w S h β->VR w S h β (.yld nm) (a.eval f)->OR w S h β a.eval c.args.toList vs->
   ∀(next:Act->World->Prop) (Q:Exit->Act->World->Prop),
    (∀v h' w' S' β' cv,k v h'->HR w' S' h' β'->VR w' S' h' β' v cv->F7 w S h β w' S' h' β'->next (a.put o.dst cv) w')->o.wpIn (FF ro) n P a w next Q
 loop:∀c ts h k,E.loop c ts h k->AWP P E.N (.loop c) ts h k
 range:∀g ps qs body ts h k,E.range g ps.toList qs body ts h k->AWP P E.N (.rangeFunc g ps qs body) ts h k
theorem wD:∀(xs ys:List V) (k:List V->Prop),wB.appV xs ys k->k (xs++ys)
 |[],ys,k,h=>h
 |x::xs,ys,k,h=>wD xs ys _ h
theorem UY {dr:Bool} {op:Op} {nf:Nat} {k:Nat->Prop} (h:nfK dr op nf k):∃nf',k nf':=by
 unfold nfK at h
 split at h
 ·exact⟨_,h⟩
 ·exact⟨_,h⟩
theorem qZ {ro:Option Nat} {n:Nat} {E:Env} (hT:W9 P E.T=true) {o:Oper} {vs:List V} {nf:Nat} {h:Hp} {k:V->Hp->Prop} (hk:sE E o.op vs nf h k):
 ∃v bs bs',k v (J5 h (opN o.op vs nf) bs')/\(∀(i m:Nat),(opN o.op vs nf)[i]? =some m->h[m]? =bs[i]?)/\(EK o.op=true->bs'=bs)/\OpW P ro n o (F9 o.op) vs (opN o.op vs nf) bs bs' v:=by
 unfold sE at hk
 obtain⟨bs,hl,hb,hk⟩:=pX hk
 obtain⟨hres,hk⟩:=(J1 _ _).1 hk
 have hd:∀c,o.op≠.defer c:=λc hc=>by rw[hc] at hk;exact hk.elim
 obtain⟨v,bs',h1,h2,h3⟩:=A6o hT hk hl hres
 exact⟨v,bs,bs',vJ _ _ _ _ h1,hb,h2,h3.opW hd⟩
theorem mJ {n:Nat} {C:Cx} {E:Env} (hE:E.Ok P) (ops:Array Oper) {k:Tm->Hp->Prop} (rest:List Nat):∀(l:List Oper) (j:Nat) (nf:Nat) (ts:Tm) (h:Hp) (a:Act) (w:World) (S:Stb) (β:Bet) (Q:Exit->Act->World->Prop),
 (∀i,i<l.length->l[i]? =ops[j+i]?)->dY E ops.toList l nf ts h k->St E.N C a w S ts h β->(∀a' w',CM E.N C w S h β k a' w'->wpOpsIn (FF C.ro) n P ops Q rest a' w')->wpOpsIn (FF C.ro) n P ops Q (List.range' j l.length++rest) a w
 |[],j,nf,ts,h,a,w,S,β,Q,hl,hx,hs,hQ=>hQ a w ⟨ts,h,S,β,hx,hs,F7.refl _ _ _ _⟩
 |o::r,j,nf,ts,h,a,w,S,β,Q,hl,hx,hs,hQ=>by
  have h0:ops[j]? =some o:=by simpa using(hl 0 (by simp)).symm
  have hr':∀i,i<r.length->r[i]? =ops[j+1+i]? :=λi hi=>by
   have:=hl (i+1) (by simpa using hi)
   simpa[aP,kK 1 i] using this
  have next:∀{nf':Nat} {v:V} {cv:Value} {h':Hp} {w':World} {S':Stb} {β':Bet},fU E.N ts o.dst v (λts'=>dY E ops.toList r nf' ts' h' k)->HR w' S' h' β'->VR w' S' h' β' v cv->F7 w S h β w' S' h' β'->
   wpOpsIn (FF C.ro) n P ops Q (List.range' (j+1) r.length++rest) (a.put o.dst cv) w':=λhp h1 h2 h3=>by
   obtain⟨g1,g2⟩:=fD hp
   refine mJ hE ops rest r (j+1) _ _ _ _ _ _ _ Q hr' g2 ((hs.evol h3 h1).put g1 h2) λa' w' hp'=>hQ a' w' ?_
   obtain⟨t1,t2,t3,t4,t5,t6,t7⟩:=hp'
   exact⟨t1,t2,t3,t4,t5,t6,h3.trans t7⟩
  rw[A0a] at hx
  obtain⟨nf',hx⟩:=UY hx
  simp only[M2,List.range'_succ,I1,wpOpsIn,h0]
  rcases DJ hx with⟨hw,hx⟩|⟨hw,hx⟩
  ·rw[if_pos (hw.run hs)]
   split at hx
   ·rename_i t x e hn
    have hx:=gC _ _ _ hx
    have hv:=rS hs.hr.glob hs.tr x
    obtain⟨bop,yt,hop,hbe⟩:∃bop yt,o.op=.binOp bop t x (.const (.slice none 0 0)) yt/\((bop=.eql/\e=true)∨(bop=.neq/\e=false)):=by
     unfold ZG at hn
     split at hn
     ·rename_i ho;cases hn;exact⟨_,_,ho,.inl ⟨rfl,rfl⟩⟩
     ·rename_i ho;cases hn;exact⟨_,_,ho,.inr ⟨rfl,rfl⟩⟩
     ·cases hn
    unfold nilK at hx
    split at hx
    case h_2=>exact hx.elim
    rename_i ti hty
    split at hx
    case h_2=>exact hx.elim
    rename_i el hk
    have hu:=P8 (H7 hE.types hty) hk
    have fin:∀(p:Prop) (aa:Option Addr) (l c:Nat),a.eval x=.slice aa l c->(aa=none->p)->(MA p λq=>fU E.N ts o.dst (.d (.b (q==e))) λts'=>dY E ops.toList r nf' ts' h k)->
     o.wpIn (FF C.ro) n P a w (wpOpsIn (FF C.ro) n P ops Q (List.range' (j+1) r.length++rest)) Q:=λp aa l c hev hp hq=>by
     refine⟨λf _=>FF.all C.ro f,?_⟩
     rw[Oper.semAt_eq _ _ _ (λc' h=>by rw[hop] at h;cases h)]
     have hrun:(execOp a.eval o).run P w=.ok (.value (.bool (aa.isNone==e))) w:=by
      have hc:a.eval (.const (.slice none 0 0))=.slice none 0 0:=rfl
      rcases hbe with⟨rfl,rfl⟩|⟨rfl,rfl⟩
      ·simp[execOp,hop,hev,hc,eqGuard,binOp,run_equal_slice_nil w t el aa l c hu]
      ·simp[execOp,hop,hev,hc,eqGuard,binOp,run_equal_slice_nil w t el aa l c hu]
     rw[hrun,Oper.uponIn_value]
     cases aa with
     |none=>exact next (hq.holds.1 (hp rfl)) hs.hr (.d (.b _)) (F7.refl _ _ _ _)
     |some ad=>exact next hq.holds.2 hs.hr (.d (.b _)) (F7.refl _ _ _ _)
    split at hx
    ·rename_i sz full xs hvx
     rw[hvx] at hv
     generalize hev:a.eval x=cv at hv
     cases hv with
     |d hd=>cases hd with
      |sl _ _ _ aa cap b off uf h1 h2 h3 h4=>
       have hz:aa=none->xs=[]:=λha=>by
        rcases Classical.em (xs=[]) with h|h
        ·exact h
        ·rw[h4 h] at ha;cases ha
       exact fin (xs=[]) aa xs.length cap hev hz hx
    ·rename_i m ver lo len full hvx
     rw[hvx] at hv
     obtain⟨b,hb,hx⟩:=O6.1 hx
     split at hx
     ·rename_i cs
      generalize hev:a.eval x=cv at hv
      cases hv with
      |sref g0 g=>
       obtain⟨aa,cap,rfl,g1,g2,g3⟩:=g
       rw[hb] at g3
       obtain⟨_,b',cells,el',fz,c1,c2,c3,c4⟩:=g3
       refine fin (len=0) aa len cap hev (λha=> ?_) hx
       rcases H3 cap with h|h
       ·omega
       ·rw[c2 h] at ha;cases ha
     ·exact hx.elim
    ·exact hx.elim
   have hx:=qE _ _ _ hx
   split at hx
   ·rename_i f qs ats ho
    have hop:o.op=.call {callee:=.value f,args:=qs,argTypes:=ats}:=ho
    unfold wB at hx
    have hx:=gC _ _ _ hx
    have hfr:=rS hs.hr.glob hs.tr f
    split at hx
    ·rename_i g cap hg
     rw[hg] at hfr
     have hx:=hE.call _ _ _ _ (wD _ _ _ hx)
     generalize hfe:a.eval f=fe at hfr
     cases hfr with
     |fn _ _ arr e1 e2=>
      have hor:=gJ hs.hr.glob hs.tr qs.toList
      refine kY hop rfl hfe (hx w S β _ hs.hr (VRs.of_or (by simpa[hop,F9] using hor) ⟨e1,e2⟩)) λcv w' hR=> ?_
      obtain⟨v,h',S',β',g1,g2,g3,g4⟩:=hR
      exact next g1 g2 g3 g4
    ·rename_i nm hg
     rw[hg] at hfr
     refine hE.yld o _ f nm _ _ _ hop rfl hx n C.ro a w S β hs.hr hfr (by simpa[hop,F9] using gJ hs.hr.glob hs.tr qs.toList) _ _ λv h' w' S' β' cv g1 g2 g3 g4=>next g1 g2 g3 g4
    ·rename_i cv hg
     rw[hg] at hfr
     split at hx
     ·rename_i g a0 b0
      split at hx
      ·rename_i ha hb
       have ha:a0= #[]:=by simpa using ha
       have hb:b0= #[]:=by simpa using hb
       subst ha;subst hb
       have hx:=hE.call _ _ _ _ hx
       generalize hfe:a.eval f=fe at hfr
       cases hfr with
       |d hd=>
        cases hd with
        |k _ _=>
         have hor:=gJ hs.hr.glob hs.tr qs.toList
         refine kY hop rfl hfe (hx w S β _ hs.hr (by have:=VRs.of_or (cap:=[]) (arr:= #[]) hor ⟨rfl,by simp⟩;simpa[hop,F9] using this)) λcv w' hR=> ?_
         obtain⟨v,h',S',β',g1,g2,g3,g4⟩:=hR
         exact next g1 g2 g3 g4
      ·exact hx.elim
     ·exact hx.elim
    ·rename_i g fs cs hg
     rw[hg] at hfr
     have hx:=hE.call _ _ _ _ (wD _ _ _ hx)
     generalize hfe:a.eval f=fe at hfr
     cases hfr with
     |d hd=>
      cases hd with
      |cl _ _ _ a1 a2 e1 e2 e3 e4=>
       have hor:=gJ hs.hr.glob hs.tr qs.toList
       refine A5x hop rfl hfe (hx w S β _ hs.hr (VRs.append ⟨by simpa using e1,λj c u hj hu=> ?_⟩ (VRs.of_or (by simpa[hop,F9] using hor) (VRs.caps e2 e4)))) λcv w' hR=> ?_
       ·rw[A8,F0] at hj
        obtain⟨x,hj,rfl⟩:=hj
        exact .d (e3 j x u hj hu)
       ·obtain⟨v,h',S',β',g1,g2,g3,g4⟩:=hR
        exact next g1 g2 g3 g4
    ·exact hx.elim
   ·rename_i t n' parts hop
    split at hx
    ·have hor:=gJ hs.hr.glob hs.tr (F9 o.op)
     obtain⟨v,h',w',S',β',cv,g1,g2,g3,g4,g5⟩:=KA (P:=P) hE.types hop hx (ρ:=a.eval) hs.hr (by simpa[hop,F9] using hor)
     refine⟨λf _=>FF.all C.ro f,?_⟩
     rw[Oper.semAt_eq _ _ _ (λc' h=>by rw[hop] at h;cases h),g2,Oper.uponIn_value]
     exact next g1 g3 g4 g5
    ·rw[<-hop] at hx
     obtain⟨ds,h1,hx,hl1,hds⟩:=zO hx
     obtain⟨v,bs,bs',g1,g2,_,g3⟩:=qZ (ro:=C.ro) (n:=n) hE.types hx
     obtain⟨o1,o2⟩:=gJ hs.hr.glob hs.tr (F9 o.op)
     obtain⟨S1,r1,e1,d1⟩:=hds w S β hs.hr ((F9 o.op).map a.eval) (by simp) λj c u hj hu=>by
      simp only[A8,F0] at hu
      obtain⟨x,hx,rfl⟩:=hu
      exact o2 j x c hx hj
     refine g3 a w S1 h1 β r1 ⟨by rw[hl1];exact o1,λj x y hx hu=>d1 j y _ hu (by simp[hx])⟩ g2 _ _ λw' S' β' cv q1 q2 q3=>next g1 q1 q2 (e1.trans q3)
   ·obtain⟨ds,h1,hx,hl1,hds⟩:=zO hx
    obtain⟨v,bs,bs',g1,g2,_,g3⟩:=qZ (ro:=C.ro) (n:=n) hE.types hx
    obtain⟨o1,o2⟩:=gJ hs.hr.glob hs.tr (F9 o.op)
    obtain⟨S1,r1,e1,d1⟩:=hds w S β hs.hr ((F9 o.op).map a.eval) (by simp) λj c u hj hu=>by
     simp only[A8,F0] at hu
     obtain⟨x,hx,rfl⟩:=hu
     exact o2 j x c hx hj
    refine g3 a w S1 h1 β r1 ⟨by rw[hl1];exact o1,λj x y hx hu=>d1 j y _ hu (by simp[hx])⟩ g2 _ _ λw' S' β' cv q1 q2 q3=>next g1 q1 q2 (e1.trans q3)
  ·rw[if_neg (by rw[hw.run hs];simp)]
   refine⟨λf _=>FF.all C.ro f,?_⟩
   exact next hx hs.hr (.tup [] #[] rfl (by simp)) (F7.refl _ _ _ _)
theorem DM {n:Nat} {C:Cx} {E:Env} (hE:E.Ok P) (ops:Array Oper) {k:Tm->Hp->Prop} (l:List Oper) (j:Nat) (nf:Nat) (ts:Tm) (h:Hp) (a:Act) (w:World) (S:Stb) (β:Bet) (Q:Exit->Act->World->Prop)
 (hl:∀i,l[i]? =ops[j+i]?) (hx:dY E ops.toList l nf ts h k) (hs:St E.N C a w S ts h β) (hQ:∀a' w',CM E.N C w S h β k a' w'->Q .normal a' w'):wpOpsIn (FF C.ro) n P ops Q (List.range' j l.length) a w:=by
 have:=mJ (n:=n) hE ops [] l j nf ts h a w S β Q (λi _=>hl i) hx hs hQ
 rwa[I3] at this
end Go.PM
namespace Go.PM
variable [CN]
variable {P:Program}
structure cP where
 o:Oper
 idx:Nat
 run:Bool
 vs:List V
 ns:List Nat
 bs:List Blk
 bs':List Blk
 v:V
 still:Bool
def cP.Ok (P:Program) (ro:Option Nat) (n N:Nat) (x:cP):Prop:=
 (x.run=true->OpW P ro n x.o (aK x.o.op) x.vs x.ns x.bs x.bs' x.v)/\(x.run=false->x.ns=[]/\x.v=.tup [])/\(∀d,x.o.dst=some d->d<N)/\(x.still=true->x.bs'=x.bs∨x.ns=[])
def SY (all:List Oper) (ts:Tm) (h:Hp) (x:cP):Prop:=
 xH all ts x.o x.run/\(x.run=true->(aK x.o.op).map (ev ts)=x.vs)/\∀(i m:Nat),x.ns[i]? =some m->h[m]? =x.bs[i]?
def A1l (ts ts':Tm):Prop:=∀t,look ts t=look ts' t
def vD (all:List Oper) (tF:Tm) (hF:Hp):List cP->Tm->Hp->Prop
 |[],ts,h=>A1l ts tF/\h=hF
 |x::l,ts,h=>SY all ts h x/\vD all tF hF l (sX ts x.o.dst x.v) (J5 h x.ns x.bs')
def PD (all:List Oper) (x y:cP):Prop:=yQ all x.o y.o=true/\FH (x.ns,x.still) (y.ns,y.still)=true
theorem iD {xs ys:List Nat} (h:tY xs ys=true):∀x∈xs,x∉ys:=by
 intro x hx hy
 simp only[tY,C5,jD] at h
 have:=h x hx x hy
 rw[kJ x] at this;cases this
theorem GS:∀(ns:List Nat) (bs:List Blk) (h:Hp) (m:Nat),m∉ns->(J5 h ns bs)[m]? =h[m]?
 |[],bs,h,m,_=>by simp[J5]
 |n::ns,[],h,m,_=>by simp[J5]
 |n::ns,b::bs,h,m,hm=>by
  simp only[J0,not_or] at hm
  rw[J5,GS ns bs _ m hm.2,C3 (N9 hm.1)]
theorem UC:∀(ms:List Nat) (cs:List Blk) (h:Hp) (n:Nat) (b:Blk),n∉ms->J5 (h.set n b) ms cs=(J5 h ms cs).set n b
 |[],cs,h,n,b,_=>by simp[J5]
 |m::ms,[],h,n,b,_=>by simp[J5]
 |m::ms,c::cs,h,n,b,hn=>by
  simp only[J0,not_or] at hn
  rw[J5,J5,List.set_comm _ _ hn.1,UC ms cs _ n b hn.2]
theorem MP:∀(ns:List Nat) (bs:List Blk) (ms:List Nat) (cs:List Blk) (h:Hp),(∀x∈ns,x∉ms)->J5 (J5 h ns bs) ms cs=J5 (J5 h ms cs) ns bs
 |[],bs,ms,cs,h,_=>by simp[J5]
 |n::ns,[],ms,cs,h,_=>by simp[J5]
 |n::ns,b::bs,ms,cs,h,hn=>by
  rw[J5,J5,MP ns bs ms cs _ (λx hx=>hn x (.tail _ hx)),UC ms cs h n b (hn n (.head _))]
theorem VJ {ts:Tm} {d:Option Nat} {v:V} {t:Nat} (h:∀x,d=some x->x≠t):look (sX ts d v) t=look ts t:=by
 cases d with
 |none=>rfl
 |some d=>
  have:Nat.beq d t=false:=by
   cases hb:Nat.beq d t
   ·rfl
   ·exact absurd (B2 hb) (h d rfl)
  simp only[sX,look,this]
theorem A1l.put {ts ts':Tm} (h:A1l ts ts') (d:Option Nat) (v:V):A1l (sX ts d v) (sX ts' d v):=by
 cases d with
 |none=>exact h
 |some d=>
  intro t
  simp only[sX,look]
  cases Nat.beq d t
  ·exact h t
  ·rfl
theorem B4h {ts ts':Tm} {x:Operand} (h:∀t,x=.tmp t->look ts t=look ts' t):ev ts x=ev ts' x:=by
 cases x with
 |tmp t=>exact h t rfl
 |const v=>rfl
 |func f=>rfl
 |global g=>rfl
theorem IC {t:Nat}:∀{xs:List Operand},.tmp t∈xs->t∈tmpsOf xs
 |x::r,h=>by
  cases h with
  |head=>simp[tmpsOf]
  |tail _ h=>cases x<;>simp[tmpsOf,IC h]
theorem IJ {ts ts':Tm} {xs:List Operand} (h:∀t∈tmpsOf xs,look ts t=look ts' t):xs.map (ev ts)=xs.map (ev ts'):=by
 apply List.map_congr_left
 intro x hx
 exact B4h λt ht=>h t (IC (ht▸hx))
theorem xN {all:List Oper} {ts ts':Tm} {o:Oper} {run:Bool} (h:∀t∈pW all o,look ts t=look ts' t) (hw:xH all ts o run):xH all ts' o run:=by
 unfold xH at hw ⊢
 cases hg:o.guard with
 |none=>simpa only[hg] using hw
 |some p=>
  obtain⟨j,want⟩:=p
  simp only[hg] at hw ⊢
  obtain⟨g,t,h1,h2,hw⟩:=hw
  refine⟨g,t,h1,h2,?_⟩
  rw[<-h t (by simp[pW,hg,FB,h1,h2])]
  exact hw
theorem SY.like {all:List Oper} {ts ts':Tm} {h:Hp} {x:cP} (hl:A1l ts ts') (hx:SY all ts h x):SY all ts' h x:=
 ⟨xN (λt _=>hl t) hx.1,λhr=>by rw[<-hx.2.1 hr];exact(IJ λt _=>hl t).symm,hx.2.2⟩
theorem vD.like {all:List Oper} {tF:Tm} {hF:Hp}:∀{l:List cP} {ts ts':Tm} {h:Hp},A1l ts ts'->vD all tF hF l ts h->vD all tF hF l ts' h
 |[],ts,ts',h,hl,hc=>⟨λt=>(hl t).symm.trans (hc.1 t),hc.2⟩
 |x::l,ts,ts',h,hl,hc=>⟨hc.1.like hl,hc.2.like (hl.put _ _)⟩
theorem qF {o:Oper} {d:Nat} (h:o.dst=some d):d∈WN o:=by simp[WN,h]
theorem swap {all:List Oper} {ts:Tm} {h:Hp} {x y:cP} (ha:PD all y x) (hy0:y.still=true->y.bs'=y.bs∨y.ns=[]) (hx0:x.still=true->x.bs'=x.bs∨x.ns=[])
 (hy:SY all ts h y) (hx:SY all (sX ts y.o.dst y.v) (J5 h y.ns y.bs') x):
 SY all ts h x/\SY all (sX ts x.o.dst x.v) (J5 h x.ns x.bs') y/\
  A1l (sX (sX ts y.o.dst y.v) x.o.dst x.v) (sX (sX ts x.o.dst x.v) y.o.dst y.v)/\J5 (J5 h y.ns y.bs') x.ns x.bs'=J5 (J5 h x.ns x.bs') y.ns y.bs':=by
 obtain⟨h1,h2⟩:=ha
 simp only[yQ,C8] at h1
 obtain⟨⟨⟨⟨a1,a2⟩,a3⟩,a4⟩,a5⟩:=h1
 have same:∀{z:cP} {h:Hp},(z.still=true->z.bs'=z.bs∨z.ns=[])->z.still=true->(∀(i m:Nat),z.ns[i]? =some m->h[m]? =z.bs[i]?)->J5 h z.ns z.bs'=h:=λh0 hs hb=>by
  rcases h0 hs with e|e
  ·rw[e];exact jN λi m b hi hbi=>by rw[hb i m hi,hbi]
  ·rw[e];simp[J5]
 have key:(J5 h y.ns y.bs'=h/\J5 h x.ns x.bs'=h)∨(∀m∈y.ns,m∉x.ns):=by
  simp only[FH,Q6,C8] at h2
  rcases h2 with⟨s1,s2⟩|hn
  ·have e1:=same hy0 s1 hy.2.2
   exact .inl ⟨e1,same hx0 s2 (by have:=hx.2.2;rw[e1] at this;exact this)⟩
  ·exact .inr (iD hn)
 have bx:∀(i m:Nat),x.ns[i]? =some m->h[m]? =x.bs[i]? :=λi m hi=>by
  rw[<-hx.2.2 i m hi]
  rcases key with⟨e,_⟩|hn
  ·rw[e]
  ·exact(GS _ _ _ _ λhm=>hn m hm (A7 hi)).symm
 have byy:∀(i m:Nat),y.ns[i]? =some m->(J5 h x.ns x.bs')[m]? =y.bs[i]? :=λi m hi=>by
  rw[<-hy.2.2 i m hi]
  rcases key with⟨_,e⟩|hn
  ·rw[e]
  ·exact GS _ _ _ _ (hn m (A7 hi))
 have lx:∀t,t∈tmpsOf (aK x.o.op)∨t∈pW all x.o->look (sX ts y.o.dst y.v) t=look ts t:=λt ht=>VJ λd hd e=>by
  subst e
  rcases ht with ht|ht
  ·exact iD a1 d (qF hd) ht
  ·exact iD a2 d (qF hd) ht
 have ly:∀t,t∈tmpsOf (aK y.o.op)∨t∈pW all y.o->look ts t=look (sX ts x.o.dst x.v) t:=λt ht=>(VJ λd hd e=>by
  subst e
  rcases ht with ht|ht
  ·exact iD a3 d (qF hd) ht
  ·exact iD a4 d (qF hd) ht).symm
 refine⟨⟨xN (λt ht=>lx t (.inr ht)) hx.1,λhr=> ?_,bx⟩,⟨xN (λt ht=>ly t (.inr ht)) hy.1,λhr=> ?_,byy⟩,?_,?_⟩
 ·rw[<-hx.2.1 hr];exact IJ λt ht=>(lx t (.inl ht)).symm
 ·rw[<-hy.2.1 hr];exact IJ λt ht=>(ly t (.inl ht)).symm
 ·intro t
  cases hdx:x.o.dst with
  |none=>rfl
  |some dx=>
   cases hdy:y.o.dst with
   |none=>rfl
   |some dy=>
    have hne:dy≠dx:=λe=>iD a5 dy (qF hdy) (e▸qF hdx)
    simp only[sX,look]
    cases h1:Nat.beq dx t<;>cases h2:Nat.beq dy t<;>try rfl
    exact absurd ((B2 h2).trans (B2 h1).symm) hne
 ·rcases key with⟨e1,e2⟩|hn
  ·rw[e1,e2,e1]
  ·exact MP _ _ _ _ _ hn
theorem SA {all:List Oper} {tF:Tm} {hF:Hp} {x:cP} {l2:List cP} (hx0:x.still=true->x.bs'=x.bs∨x.ns=[]):∀(l1:List cP) (ts:Tm) (h:Hp),(∀y∈l1,PD all y x/\(y.still=true->y.bs'=y.bs∨y.ns=[]))->
 vD all tF hF (l1++x::l2) ts h->vD all tF hF (x::(l1++l2)) ts h
 |[],ts,h,_,hc=>hc
 |y::l1,ts,h,ha,hc=>by
  obtain⟨c1,c2⟩:=hc
  obtain⟨d1,d2⟩:=SA hx0 l1 _ _ (λz hz=>ha z (.tail _ hz)) c2
  obtain⟨s1,s2,s3,s4⟩:=swap (ha y (.head _)).1 (ha y (.head _)).2 hx0 c1 d1
  exact⟨s1,s2,by rw[<-s4];exact d2.like s3⟩
theorem FX {o:Oper} {i:Nat} (h:waits o i=true):∃e∈o.after,Region.binds .any e=true/\e.on=i:=by
 simp only[waits,aC,C8] at h
 obtain⟨e,h1,h2,h3⟩:=h
 exact⟨e,by simpa using h1,h2,B2 h3⟩
theorem nY {o:Oper} {i:Nat} (h:uV o i=true):∀e∈o.after,Region.binds .any e=true->e.on<i:=by
 intro e he hb
 simp only[uV,C5,Q6,jD] at h
 rcases h e (by simpa using he) with h|h
 ·rw[hb] at h;cases h
 ·have:Nat.ble (e.on+1) i=true:=h
  exact B5 this
def FO (all:List Oper) (l:List cP):Prop:=l.Pairwise λx y=>x.idx<y.idx/\(dN all 5 y.o x.idx=true∨PD all x y)
theorem MD {all:List Oper} {o:Oper} {i:Nat} (h:waits o i=true):∀n,dN all n o i=true
 |0=>h
 |n+1=>by simp[dN,h]
theorem oC {all:List Oper}:∀(n:Nat) (o:Oper) (i:Nat),dN all n o i=true->dN all (n+1) o i=true
 |0,o,i,h=>MD h 1
 |n+1,o,i,h=>by
  rw[dN,Q6,aC] at h ⊢
  rcases h with h|⟨e,he,h⟩
  ·exact .inl h
  ·refine .inr ⟨e,he,?_⟩
   rw[C8] at h ⊢
   refine⟨h.1,?_⟩
   have h2:=h.2
   cases hq:UX all e.on with
   |none=>rw[hq] at h2;cases h2
   |some q=>rw[hq] at h2;exact oC n q i h2
theorem Z1 {ops:Array Oper} {listed:Array Bool} (hcl:∀j oj,ops[j]? =some oj->listed.getD j false=true->∀e∈oj.after,Region.binds .any e=true->listed.getD e.on false=true):
 ∀(n:Nat) (o:Oper) (i:Nat),(∀e∈o.after,Region.binds .any e=true->listed.getD e.on false=true)->dN ops.toList n o i=true->listed.getD i false=true
 |0,o,i,ho,hw=>by
  obtain⟨e,he,hb,hon⟩:=FX hw
  rw[<-hon];exact ho e he hb
 |n+1,o,i,ho,hw=>by
  simp only[dN,Q6,aC,C8] at hw
  rcases hw with hw|⟨e,he,hb,hw⟩
  ·obtain⟨e,he,hb,hon⟩:=FX hw
   rw[<-hon];exact ho e he hb
  ·have he':e∈o.after:=by simpa using he
   rw[FB] at hw
   cases hq:ops.toList[e.on]? with
   |none=>simp[hq] at hw
   |some q=>
    simp only[hq] at hw
    exact Z1 hcl n q i (hcl e.on q (by simpa using hq) (ho e he' hb)) hw
theorem Y7 {l:Array Bool} {i:Nat} (h:i<l.size) (a b:Bool):l.getD i a=l.getD i b:=by
 simp[C0,B7 h]
theorem TC {C:Cx} {n N:Nat} {ops:Array Oper} {tF:Tm} {hF:Hp} {k:Tm->Hp->Prop} (hk:k tF hF):∀(fuel:Nat) (l:List cP) (listed:Array Bool) (ts:Tm) (h:Hp) (a:Act) (w:World) (S:Stb) (β:Bet) (Q:Exit->Act->World->Prop),
 l.length=fuel->vD ops.toList tF hF l ts h->St N C a w S ts h β->listed.size=ops.size->(∀j oj,ops[j]? =some oj->listed.getD j false=true->∀e∈oj.after,Region.binds .any e=true->listed.getD e.on false=true)->(∀i,i<ops.size->(listed.getD i true=false↔∃x∈l,x.idx=i))->
 (∀x∈l,ops[x.idx]? =some x.o/\x.Ok P C.ro n N/\uV x.o x.idx=true)->FO ops.toList l->(∀a' w',CM N C w S h β k a' w'->Q .normal a' w')->
 wpAnyIn (FF C.ro) n P .any ops Q fuel listed a w:=by
 intro fuel
 induction fuel with
 |zero=>
  intro l listed ts h a w S β Q hl hc hs hsz hcl hli hok hor hQ
  have:l=[]:=E7 hl
  subst this
  obtain⟨c1,rfl⟩:=hc
  refine⟨?_,hQ a w ⟨tF,h,S,β,hk,⟨hs.hr,λt=>by rw[<-c1 t];exact hs.tr t,hs.size,hs.marks,hs.round,hs.base⟩,F7.refl _ _ _ _⟩⟩
  rw[List.eq_nil_iff_forall_not_mem]
  intro i hi
  obtain⟨h1,o,h2,_⟩:=mem_ready.1 hi
  obtain⟨x,hx,_⟩:=(hli i (C4.1 h2).1).1 h1
  cases hx
 |succ fuel ih=>
  intro l listed ts h a w S β Q hl hc hs hsz hcl hli hok hor hQ
  refine⟨λhnil=> ?_,λi hi=> ?_⟩
  ·exfalso
   cases l with
   |nil=>simp at hl
   |cons x l=>
    obtain⟨g1,g2,g3⟩:=hok x (.head _)
    have hlt:=(C4.1 g1).1
    have:x.idx∈Region.ready .any ops listed:=by
     refine mem_ready.2 ⟨(hli _ hlt).2 ⟨x,.head _,rfl⟩,x.o,g1,λe he hb=> ?_⟩
     have hlt':=nY g3 e he hb
     have hel:e.on<ops.size:=by omega
     rw[Y7 (by rw[hsz];exact hel) false true]
     cases hg:listed.getD e.on true with
     |true=>rfl
     |false=>
      obtain⟨y,hy,hyi⟩:=(hli _ hel).1 hg
      cases hy with
      |head=>omega
      |tail _ hy=>
       have:=(Z0 hor hy).1
       omega
    rw[hnil] at this
    cases this
  ·obtain⟨h1,o,h2,h3⟩:=mem_ready.1 hi
   have hlt:=(C4.1 h2).1
   obtain⟨x,hx,rfl⟩:=(hli i hlt).1 h1
   obtain⟨l1,l2,rfl⟩:=List.append_of_mem hx
   obtain⟨g1,g2,g3⟩:=hok x hx
   obtain⟨p1,p2,p3⟩:=jL.1 hor
   have hfree:∀y∈l1,PD ops.toList y x/\(y.still=true->y.bs'=y.bs∨y.ns=[]):=λy hy=>by
    have hym:y∈l1++x::l2:=O8 _ hy
    obtain⟨k1,k2,_⟩:=hok y hym
    refine⟨?_,k2.2.2.2⟩
    rcases(p3 y hy x (.head _)).2 with hw|ha
    ·exfalso
     rw[g1] at h2;cases h2
     have e1:=Z1 hcl 5 x.o y.idx h3 hw
     have hyl:=(C4.1 k1).1
     have e2:=(hli y.idx hyl).2 ⟨y,hym,rfl⟩
     rw[Y7 (by rw[hsz];exact hyl) false true,e2] at e1
     cases e1
    ·exact ha
   obtain⟨c1,c2⟩:=SA g2.2.2.2 l1 ts h hfree hc
   have hsub:(l1++l2).Sublist (l1++x::l2):=(List.Sublist.refl l1).append (FP x l2)
   have hnx:∀y∈l1++l2,y.idx≠x.idx:=λy hy=>by
    rcases K0.1 hy with hy|hy
    ·have:=(p3 y hy x (.head _)).1;omega
    ·have:=(Z0 p2 hy).1;omega
   have step:∀{cv:Value} {w':World} {S':Stb} {β':Bet},HR w' S' (J5 h x.ns x.bs') β'->VR w' S' (J5 h x.ns x.bs') β' x.v cv->F7 w S h β w' S' (J5 h x.ns x.bs') β'->
    wpAnyIn (FF C.ro) n P .any ops Q fuel (listed.setIfInBounds x.idx true) (a.put x.o.dst cv) w':=λe1 e2 e3=>by
    refine ih (l1++l2) _ _ _ _ _ _ _ Q (by simp at hl ⊢;omega) c2 ((hs.evol e3 e1).put g2.2.2.1 e2) (by simpa using hsz) (λj oj hj hjl e he hb=> ?_) (λj hj=> ?_) (λy hy=>hok y (hsub.subset hy)) (hor.sublist hsub) (λa' w' hp=>hQ a' w' ?_)
    ·have mono:∀m,listed.getD m false=true->(listed.setIfInBounds x.idx true).getD m false=true:=λm hm=>by
      by_cases hmi:x.idx=m
      ·subst hmi
       rw[C0,N7,if_pos (by rw[hsz];exact hlt)];rfl
      ·rw[C0,G3 hmi,<-C0];exact hm
     refine mono _ ?_
     by_cases hji:x.idx=j
     ·subst hji
      rw[h2] at hj;cases hj
      exact h3 e he hb
     ·rw[C0,G3 hji,<-C0] at hjl
      exact hcl j oj hj hjl e he hb
    ·by_cases hji:j=x.idx
     ·subst hji
      rw[C0,N7,if_pos (by rw[hsz];exact hj)]
      rw[O0]
      exact Iff.intro (λh=>by cases h) λ⟨y,hy,hyi⟩=>absurd hyi (hnx y hy)
     ·rw[C0,G3 (N9 hji),<-C0,hli j hj]
      constructor
      ·rintro⟨y,hy,hyi⟩
       rcases K0.1 hy with hy|hy
       ·exact⟨y,O8 _ hy,hyi⟩
       ·cases hy with
        |head=>exact absurd hyi.symm hji
        |tail _ hy=>exact⟨y,dB _ hy,hyi⟩
      ·rintro⟨y,hy,hyi⟩
       exact⟨y,hsub.subset hy,hyi⟩
    ·obtain⟨t1,t2,t3,t4,t5,t6,t7⟩:=hp
     exact⟨t1,t2,t3,t4,t5,t6,e3.trans t7⟩
   simp only[wpOpIn,g1]
   cases hrun:x.run with
   |true=>
    rw[if_pos (by have:=c1.1.run hs;rw[hrun] at this;exact this)]
    have hor:=gJ hs.hr.glob hs.tr (aK x.o.op)
    rw[c1.2.1 hrun] at hor
    exact g2.1 hrun a w S h β hs.hr hor c1.2.2 _ _ λw' S' β' cv e1 e2 e3=>step e1 e2 e3
   |false=>
    rw[if_neg (by have:=c1.1.run hs;rw[hrun] at this;simp[this])]
    obtain⟨e1,e2⟩:=g2.2.1 hrun
    refine⟨λf _=>FF.all C.ro f,?_⟩
    have J3:J5 h x.ns x.bs'=h:=by rw[e1];simp[J5]
    refine step (S':=S) (β':=β) ?_ ?_ ?_
    ·rw[J3];exact hs.hr
    ·rw[e2];exact .tup [] #[] rfl (by simp)
    ·rw[J3];exact F7.refl _ _ _ _
def qQ:Nat->List cP->Prop
 |_,[]=>True
 |j,x::l=>x.idx=j/\qQ (j+1) l
def cP.fp (x:cP):List Nat×Bool:=(x.ns,x.still)
theorem UV {op:Op} (h:∀f args ats,op=.call {callee:=.value f,args:=args,argTypes:=ats}->False):aK op=F9 op:=by
 unfold aK
 split
 ·exact(h _ _ _ rfl).elim
 ·rfl
theorem B0n {v:V} {vs:List V} {k:FuncId->List V->Prop} (h:fnK v vs k):∃g cap,FnV v g cap/\k g (vs++cap):=by
 unfold fnK at h
 split at h
 ·exact⟨_,_,.inl rfl,wD _ _ _ h⟩
 ·split at h
  ·rename_i g a b
   split at h
   ·rename_i ha hb
    have ha:a= #[]:=by simpa using ha
    have hb:b= #[]:=by simpa using hb
    subst ha;subst hb
    exact⟨g,[],.inr ⟨rfl,rfl⟩,by simpa using h⟩
   ·exact h.elim
  ·exact h.elim
 ·exact h.elim
theorem IS {ro:Option Nat} {n:Nat} {E:Env} (hE:E.Ok P) {o:Oper} {x0:V} {pn m ver lo len:Nat} {full:Bool} {nf:Nat} {h:Hp} {k:List Nat->Bool->V->Hp->Prop} (hN:∀d,opN o.op [x0,.d d] nf=[pn])
 (hk:X4 (!(Nat.beq m pn)) (dV h m λb=>match b with
   | .row ver' sz _ xs=>Chk (ver=ver'/\lo+len<=xs.length) (Nam ((xs.drop lo).take len) λys=>iI h m (.row ver' sz true xs) λh1=>
      sE E o.op [x0,.d (.sl sz full ys)] nf h1 λv h'=>k [m,pn] false v h')
   |_=>False)):
 ∃ns st v bs bs',k ns st v (J5 h ns bs')/\(∀(i m:Nat),ns[i]? =some m->h[m]? =bs[i]?)/\(st=true->bs'=bs)/\OpW P ro n o (F9 o.op) [x0,.sref m ver lo len full] ns bs bs' v:=by
 obtain⟨hne,hk⟩:=(J1 _ _).1 hk
 have hne:m≠pn:=by
  intro e;subst e
  simp at hne
 obtain⟨b,hb,hk⟩:=O6.1 hk
 split at hk
 case h_2=>exact hk.elim
 rename_i ver' sz r0 xs
 obtain⟨⟨hver,hl⟩,hk⟩:=hk.elim
 subst hver
 have hk:=hk.elim
 obtain⟨_,hk⟩:=aG.1 hk
 obtain⟨v,bs,bs',g1,g2,g3,g4⟩:=qZ (ro:=ro) (n:=n) hE.types hk
 rw[hN] at g1 g2 g4
 have hn1:bs[0]? =h[pn]? :=by
  have:=g2 0 pn rfl
  rw[C3 hne] at this
  exact this.symm
 refine⟨[m,pn],false,v,.row ver sz r0 xs::bs,.row ver sz true xs::bs',?_,λi q hi=> ?_,λh=>(by cases h),?_⟩
 ·simpa[J5] using g1
 ·match i with
  |0=>simp at hi;subst hi;simpa using hb
  |1=>simp at hi;subst hi;simpa using hn1.symm
  |i+2=>simp at hi
 ·intro act w S hp β hr hor hbb next Q hnext
  have hm:hp[m]? =some (.row ver sz r0 xs):=by simpa using hbb 0 m rfl
  have hpn:hp[pn]? =bs[0]? :=by simpa using hbb 1 pn rfl
  obtain⟨r1,e1⟩:=freeze hr hm
  obtain⟨a,x,hxs⟩:∃a x,F9 o.op=[a,x]:=by
   have hl2:=hor.1
   match F9 o.op,hl2 with
   |[a,x],_=>exact⟨a,x,rfl⟩
  rw[hxs] at hor g4
  obtain⟨v1,v2⟩:=hor.two
  have hd:=pL hr hm hl v2
  refine g4 act w _ (hp.set m (.row ver sz true xs)) β r1 ⟨rfl,λi y z hy hz=> ?_⟩ (λi q hi=> ?_) next Q λw' S' β' cv q1 q2 q3=> ?_
  ·match i with
   |0=>simp at hy hz;subst hy;subst hz;exact v1.evol e1
   |1=>simp at hy hz;subst hy;subst hz;exact .d hd
   |i+2=>simp at hy
  ·match i with
   |0=>simp at hi;subst hi;rw[C3 hne];exact hpn
   |i+1=>simp at hi
  ·exact hnext w' S' β' cv (by simpa[J5] using q1) (by simpa[J5] using q2) (by simpa[J5] using e1.trans q3)
theorem LU {ro:Option Nat} {n:Nat} {E:Env} (hE:E.Ok P) {o:Oper} {vs:List V} {nf:Nat} {h:Hp} {k:List Nat->Bool->V->Hp->Prop} (hk:AA E o.op vs nf h k):
 ∃ns st v bs bs',k ns st v (J5 h ns bs')/\(∀(i m:Nat),ns[i]? =some m->h[m]? =bs[i]?)/\(st=true->bs'=bs)/\OpW P ro n o (F9 o.op) vs ns bs bs' v:=by
 unfold AA at hk
 have dflt:(sE E o.op vs nf h λv h'=>k (opN o.op vs nf) (EK o.op) v h')->∃ns st v bs bs',k ns st v (J5 h ns bs')/\(∀(i m:Nat),ns[i]? =some m->h[m]? =bs[i]?)/\(st=true->bs'=bs)/\OpW P ro n o (F9 o.op) vs ns bs bs' v:=λhk=>by
  obtain⟨v,bs,bs',g1,g2,g3,g4⟩:=qZ (ro:=ro) (n:=n) hE.types hk
  exact⟨_,_,v,bs,bs',g1,g2,g3,g4⟩
 split at hk
 ·rename_i t a x pn pv pe po m ver lo len full hop
  obtain⟨tb,htb,hk⟩:=O6.1 hk
  split at hk
  ·rw[<-hop] at hk
   exact IS hE (λd=>by rw[hop];rfl) hk
  ·exact dflt (by rw[hop];exact hk)
 ·rename_i qs ats pn pv plo pl pf m ver lo len full hop
  rw[<-hop] at hk
  exact IS hE (λd=>by rw[hop];rfl) hk
 ·exact dflt hk
theorem rR {ro:Option Nat} {n:Nat} {E:Env} (hE:E.Ok P) (all:List Oper):∀(l:List Oper) (j nf:Nat) (ts:Tm) (h:Hp) (K:Fp->Tm->Hp->Prop),tC E all l nf ts h K->
 ∃insts tF hF,K (insts.map cP.fp) tF hF/\vD all tF hF insts ts h/\insts.map cP.o=l/\qQ j insts/\∀x∈insts,x.Ok P ro n E.N
 |[],j,nf,ts,h,K,hx=>⟨[],ts,h,hx,⟨λ_=>rfl,rfl⟩,rfl,trivial,by simp⟩
 |o::r,j,nf,ts,h,K,hx=>by
  have join:∀(x:cP) (nf':Nat),x.o=o->x.idx=j->x.Ok P ro n E.N->SY all ts h x->tC E all r nf' (sX ts o.dst x.v) (J5 h x.ns x.bs') (λfs=>K (x.fp::fs))->
   ∃insts tF hF,K (insts.map cP.fp) tF hF/\vD all tF hF insts ts h/\insts.map cP.o=o::r/\qQ j insts/\∀x∈insts,x.Ok P ro n E.N:=λx nf' h1 h2 h3 h4 h5=>by
   obtain⟨insts,tF,hF,g1,g2,g3,g4,g5⟩:=rR (ro:=ro) (n:=n) hE all r (j+1) nf' _ _ _ h5
   refine⟨x::insts,tF,hF,by simpa using g1,⟨h4,by rw[h1];exact g2⟩,by simp[g3,h1],⟨h2,g4⟩,λy hy=> ?_⟩
   cases hy with
   |head=>exact h3
   |tail _ hy=>exact g5 y hy
  rw[A5g] at hx
  obtain⟨nf',hx⟩:=UY hx
  rcases DJ hx with⟨hw,hx⟩|⟨hw,hx⟩
  ·have hx:=qE _ _ _ hx
   split at hx
   ·rename_i f qs ats ho
    have hop:o.op=.call {callee:=.value f,args:=qs,argTypes:=ats}:=ho
    have hx:=gC _ _ _ hx
    obtain⟨g,cap,hfv,hx⟩:=B0n hx
    ·generalize hg:ev ts f=hv at hfv
     obtain⟨res,hx,hp⟩:=hE.pcall _ _ _ _ hx
     cases res with
     |row sz ys=>
      simp only[] at hx
      obtain⟨b0,hn,hx⟩:=O6.1 hx
      split at hx
      case h_2=>exact hx.elim
      obtain⟨_,hx⟩:=aG.1 hx
      obtain⟨k1,k2⟩:=fD hx
      have hopr:aK o.op=f::qs.toList:=by rw[hop];rfl
      have hopa:F9 o.op=qs.toList:=by rw[hop];rfl
      refine join {o:=o,idx:=j,run:=true,vs:=hv::(F9 o.op).map (ev ts),ns:=[nf],bs:=[.res],bs':=[.row 0 sz false ys],v:=.sref nf 0 0 ys.length false,still:=false} nf' rfl rfl ⟨λ_=> ?_,λh=>(by cases h),k1,λh=>(by cases h)⟩ ⟨hw,λ_=> ?_,λi m hi=> ?_⟩ k2
      ·simp only[]
       rw[hopr]
       exact T8.opW (hfv:=hfv) hop rfl hp nf
      ·simp only[]
       rw[hopr,hopa,E8,hg]
      ·cases i with
       |zero=>simp at hi;subst hi;simpa using hn
       |succ i=>simp at hi
     |map T' kt es=>
      simp only[] at hx
      obtain⟨b0,hn,hx⟩:=O6.1 hx
      split at hx
      case h_2=>exact hx.elim
      obtain⟨_,hx⟩:=aG.1 hx
      obtain⟨k1,k2⟩:=fD hx
      have hopr:aK o.op=f::qs.toList:=by rw[hop];rfl
      have hopa:F9 o.op=qs.toList:=by rw[hop];rfl
      refine join {o:=o,idx:=j,run:=true,vs:=hv::(F9 o.op).map (ev ts),ns:=[nf],bs:=[.res],bs':=[.map T' kt es],v:=.map nf,still:=false} nf' rfl rfl ⟨λ_=> ?_,λh=>(by cases h),k1,λh=>(by cases h)⟩ ⟨hw,λ_=> ?_,λi m hi=> ?_⟩ k2
      ·simp only[]
       rw[hopr]
       exact pB.opW (hfv:=hfv) hop rfl hp nf
      ·simp only[]
       rw[hopr,hopa,E8,hg]
      ·cases i with
       |zero=>simp at hi;subst hi;simpa using hn
       |succ i=>simp at hi
     |fix m v=>
      simp only[] at hx
      obtain⟨b0,hn,hx⟩:=O6.1 hx
      split at hx
      case h_2=>exact hx.elim
      rename_i ver sz r0 xs
      obtain⟨_,hx⟩:=aG.1 hx
      obtain⟨k1,k2⟩:=fD hx
      have hopr:aK o.op=f::qs.toList:=by rw[hop];rfl
      have hopa:F9 o.op=qs.toList:=by rw[hop];rfl
      refine join {o:=o,idx:=j,run:=true,vs:=hv::(F9 o.op).map (ev ts),ns:=[m],bs:=[.row ver sz r0 xs],bs':=[.row ver sz true xs],v:=v,still:=false} nf' rfl rfl ⟨λ_=> ?_,λh=>(by cases h),k1,λh=>(by cases h)⟩ ⟨hw,λ_=> ?_,λi m hi=> ?_⟩ k2
      ·simp only[]
       rw[hopr]
       exact FSq.opW (hfv:=hfv) hop rfl (hp ver sz r0 xs hn)
      ·simp only[]
       rw[hopr,hopa,E8,hg]
      ·cases i with
       |zero=>simp at hi;subst hi;simpa using hn
       |succ i=>simp at hi
     |keep ms v=>
      simp only[] at hx
      obtain⟨bs,hl,hb,hx⟩:=pX hx
      have hx:=vJ _ _ _ _ hx
      obtain⟨k1,k2⟩:=fD hx
      have hopr:aK o.op=f::qs.toList:=by rw[hop];rfl
      have hopa:F9 o.op=qs.toList:=by rw[hop];rfl
      refine join {o:=o,idx:=j,run:=true,vs:=hv::(F9 o.op).map (ev ts),ns:=ms,bs:=bs,bs':=bs,v:=v,still:=true} nf' rfl rfl ⟨λ_=> ?_,λh=>(by cases h),k1,λ_=>.inl rfl⟩ ⟨hw,λ_=> ?_,hb⟩ k2
      ·simp only[]
       rw[hopr]
       exact mC.opW (hfv:=hfv) hop rfl (hp bs hl hb)
      ·simp only[]
       rw[hopr,hopa,E8,hg]
     |upd ms bs' v=>
      simp only[] at hx
      obtain⟨bs,hl,hb,hx⟩:=pX hx
      have hx:=vJ _ _ _ _ hx
      obtain⟨k1,k2⟩:=fD hx
      have hopr:aK o.op=f::qs.toList:=by rw[hop];rfl
      have hopa:F9 o.op=qs.toList:=by rw[hop];rfl
      refine join {o:=o,idx:=j,run:=true,vs:=hv::(F9 o.op).map (ev ts),ns:=ms,bs:=bs,bs':=bs',v:=v,still:=false} nf' rfl rfl ⟨λ_=> ?_,λh=>(by cases h),k1,λh=>(by cases h)⟩ ⟨hw,λ_=> ?_,hb⟩ k2
      ·simp only[]
       rw[hopr]
       exact XX.opW (hfv:=hfv) hop rfl (hp bs hl hb)
      ·simp only[]
       rw[hopr,hopa,E8,hg]
     |d v=>
     obtain⟨k1,k2⟩:=fD hx
     have hopr:aK o.op=f::qs.toList:=by rw[hop];rfl
     have hopa:F9 o.op=qs.toList:=by rw[hop];rfl
     refine join {o:=o,idx:=j,run:=true,vs:=hv::(F9 o.op).map (ev ts),ns:=[],bs:=[],bs':=[],v:=v,still:=true} nf' rfl rfl ⟨λ_=> ?_,λh=>(by cases h),k1,λ_=>.inr rfl⟩ ⟨hw,λ_=> ?_,by simp⟩ k2
     ·simp only[]
      rw[hopr]
      exact C9.opW (hfv:=hfv) hop rfl hp
     ·simp only[]
      rw[hopr,hopa,E8,hg]
   ·rename_i hno
    have hra:aK o.op=F9 o.op:=UV λf args ats e=>hno f args ats e
    obtain⟨ns,st,v,bs,bs',g1,g2,g4,g3⟩:=LU (ro:=ro) (n:=n) hE hx
    obtain⟨k1,k2⟩:=fD g1
    exact join {o:=o,idx:=j,run:=true,vs:=(F9 o.op).map (ev ts),ns:=ns,bs:=bs,bs':=bs',v:=v,still:=st} nf' rfl rfl
     ⟨λ_=>by simp only[];rw[hra];exact g3,λh=>(by cases h),k1,λhs=>.inl (g4 hs)⟩ ⟨hw,λ_=>by simp only[];rw[hra],g2⟩ k2
  ·obtain⟨k1,k2⟩:=fD hx
   exact join {o:=o,idx:=j,run:=false,vs:=[],ns:=[],bs:=[],bs':=[],v:=.tup [],still:=true} nf' rfl rfl ⟨λh=>(by cases h),λ_=>⟨rfl,rfl⟩,k1,λ_=>.inr rfl⟩ ⟨hw,λh=>(by cases h),by simp⟩ k2
theorem mH {l:List cP}:∀{j:Nat},qQ j l->∀x∈l,∃i,l[i]? =some x/\x.idx=j+i:=by
 induction l with
 |nil=>intro j _ x hx;cases hx
 |cons y l ih=>
  intro j h x hx
  obtain⟨h1,h2⟩:=h
  rcases J0.1 hx with rfl|hx
  ·exact⟨0,rfl,h1⟩
  ·obtain⟨i,g1,g2⟩:=ih h2 x hx
   exact⟨i+1,by simpa using g1,by omega⟩
theorem rM {l:List cP}:∀{j:Nat},qQ j l->∀i,i<l.length->∃x∈l,x.idx=j+i:=by
 induction l with
 |nil=>intro j _ i hi;cases hi
 |cons y l ih=>
  intro j h i hi
  obtain⟨h1,h2⟩:=h
  cases i with
  |zero=>exact⟨y,.head _,h1⟩
  |succ i=>
   obtain⟨x,hx,hi⟩:=ih h2 i (by simpa using hi)
   exact⟨x,.tail _ hx,by omega⟩
theorem IY {all:List Oper} {i:Nat} {o:Oper} {f:List Nat×Bool} {l:List cP}:vU all i o f (l.map cP.o) (l.map cP.fp)=true->∀y∈l,dN all 5 y.o i=true∨(FH f y.fp=true/\yQ all o y.o=true):=by
 induction l with
 |nil=>intro _ y hy;cases hy
 |cons z l ih=>
  intro h y hy
  simp only[E8,vU,C8,Q6] at h
  rcases J0.1 hy with rfl|hy
  ·rcases h.1 with(h|h)|h|h
   ·exact .inl (MD h 5)
   ·exact .inr h
   ·exact .inl (oC 4 _ _ (oC 3 _ _ (oC 2 _ _ h)))
   ·exact .inl h
  ·exact ih h.2 y hy
theorem yB {all:List Oper} {l:List cP}:∀{j:Nat},pT all j (l.map cP.o) (l.map cP.fp)=true->qQ j l->FO all l/\∀x∈l,uV x.o x.idx=true:=by
 induction l with
 |nil=>intro j _ _;exact⟨.nil,by simp⟩
 |cons x l ih=>
  intro j h hn
  obtain⟨n1,n2⟩:=hn
  simp only[E8,pT,C8] at h
  obtain⟨⟨h1,h2⟩,h3⟩:=h
  obtain⟨i1,i2⟩:=ih h3 n2
  refine⟨.cons (λy hy=> ?_) i1,λy hy=> ?_⟩
  ·obtain⟨i,_,hi⟩:=mH n2 y hy
   refine⟨by omega,?_⟩
   rw[n1]
   rcases IY h2 y hy with h|⟨h,h'⟩
   ·exact .inl h
   ·exact .inr ⟨h',h⟩
  ·rcases J0.1 hy with rfl|hy
   ·rw[n1];exact h1
   ·exact i2 y hy
theorem A0c {C:Cx} {n:Nat} {E:Env} (hE:E.Ok P) {id:Nat} {ops:Array Oper} {k:Tm->Hp->Prop} {nf:Nat} {ts:Tm} {h:Hp} {a:Act} {w:World} {S:Stb} {β:Bet} {Q:Exit->Act->World->Prop}
 (hx:tC E ops.toList ops.toList nf ts h λfs ts h=>X4 (pT ops.toList 0 ops.toList fs) (k ts h)) (hs:St E.N C a w S ts h β) (hQ:∀a' w',CM E.N C w S h β k a' w'->Q .normal a' w'):
 (Code.region id ops true).wpIn (FF C.ro) n P Q a w:=by
 obtain⟨insts,tF,hF,g1,g2,g3,g4,g5⟩:=rR (ro:=C.ro) (n:=n) hE ops.toList ops.toList 0 nf ts h _ hx
 obtain⟨hi,hk⟩:=(J1 _ _).1 g1
 rw[<-g3] at hi
 have hi':pT ops.toList 0 (insts.map cP.o) (insts.map cP.fp)=true:=by simpa[g3] using hi
 obtain⟨o1,o2⟩:=yB hi' g4
 have hlen:insts.length=ops.size:=by
  have:=N8 List.length g3
  simpa using this
 obtain⟨d1,d2⟩:=drawn hs.hr
 refine wpIn_region_any hE.mixed (TC (w:=w.drew) hk ops.size insts _ ts h a S β Q hlen g2 (hs.evol d2 d1) (by simp) (λj oj _ hj=>by rw[C0,aR] at hj;split at hj<;>simp at hj) (λi hi=> ?_) (λx hx=>⟨?_,g5 x hx,o2 x hx⟩) o1 λa' w' hp=>hQ a' w' ?_)
 ·have h1:(Array.replicate ops.size false).getD i true=false:=by
   rw[C0,aR,if_pos hi];rfl
  obtain⟨x,hx,hxi⟩:=rM g4 i (by omega)
  exact Iff.intro (λ_=>⟨x,hx,by omega⟩) λ_=>h1
 ·obtain⟨i,h1,h2⟩:=mH g4 x hx
  have:(insts.map cP.o)[i]? =some x.o:=by simp[h1]
  rw[g3] at this
  rw[h2,C1]
  simpa using this
 ·obtain⟨t1,t2,t3,t4,t5,t6,t7⟩:=hp
  exact⟨t1,t2,t3,t4,t5,t6,d2.trans t7⟩
theorem YD {C:Cx} {n:Nat} {E:Env} (hE:E.Ok P) {ops:Array Oper} {tF:Tm} {hF:Hp} {k:Tm->Hp->Prop} {z nf:Nat} {oz:Oper} (hz:ops[z]? =some oz) (hzl:z+1=ops.size) (hzb:uV oz z=true)
 (hk:dY E ops.toList [oz] nf tF hF k):∀(fuel:Nat) (l:List cP) (listed:Array Bool) (ts:Tm) (h:Hp) (a:Act) (w:World) (S:Stb) (β:Bet) (Q:Exit->Act->World->Prop),
 l.length=fuel->vD ops.toList tF hF l ts h->St E.N C a w S ts h β->listed.size=ops.size->(∀j oj,ops[j]? =some oj->listed.getD j false=true->∀e∈oj.after,Region.binds .any e=true->listed.getD e.on false=true)->(∀i,i<ops.size->(listed.getD i true=false↔(∃x∈l,x.idx=i)∨i=z))->
 (∀x∈l,ops[x.idx]? =some x.o/\x.Ok P C.ro n E.N/\uV x.o x.idx=true/\x.idx≠z/\dN ops.toList 5 oz x.idx=true)->FO ops.toList l->(∀a' w',CM E.N C w S h β k a' w'->Q .normal a' w')->
 wpAnyIn (FF C.ro) n P .any ops Q (fuel+1) listed a w:=by
 intro fuel
 induction fuel with
 |zero=>
  intro l listed ts h a w S β Q hl hc hs hsz hcl hli hok hor hQ
  have:l=[]:=E7 hl
  subst this
  obtain⟨c1,rfl⟩:=hc
  have hzlt:z<ops.size:=by omega
  have hon:∀i,i<ops.size->i≠z->listed.getD i true=true:=λi hi hne=>by
   cases hg:listed.getD i true with
   |true=>rfl
   |false=>
    rcases(hli i hi).1 hg with⟨x,hx,_⟩|h
    ·cases hx
    ·exact absurd h hne
  have hzr:z∈Region.ready .any ops listed:=mem_ready.2 ⟨(hli z hzlt).2 (.inr rfl),oz,hz,λe he hb=>by
   have:=nY hzb e he hb
   rw[Y7 (by rw[hsz];omega) false true]
   exact hon e.on (by omega) (by omega)⟩
  refine⟨λhnil=>(by rw[hnil] at hzr;exact absurd hzr O9),λi hi=> ?_⟩
  have hiz:i=z:=by
   obtain⟨h1,o,h2,_⟩:=mem_ready.1 hi
   have hil:=(C4.1 h2).1
   by_cases hne:i=z
   ·exact hne
   ·rw[hon i hil hne] at h1;cases h1
  subst hiz
  have hs':St E.N C a w S tF h β:=⟨hs.hr,λt=>by rw[<-c1 t];exact hs.tr t,hs.size,hs.marks,hs.round,hs.base⟩
  have hone:=DM (n:=n) (C:=C) hE ops [oz] i nf tF h a w S β Q (λj=>by
   cases j with
   |zero=>simp[hz]
   |succ j=>
    rw[R6,List.getElem?_nil,Array.getElem?_eq_none (by omega)]) hk hs' hQ
  have hone:wpOpsIn (FF C.ro) n P ops Q [i] a w:=by simpa using hone
  rw[wpOpsIn_cons] at hone
  refine wpOpIn_mono (λa' w' hq=>⟨?_,hq⟩) hone
  rw[List.eq_nil_iff_forall_not_mem]
  intro j hj
  obtain⟨h1,o,h2,_⟩:=mem_ready.1 hj
  have hjl:=(C4.1 h2).1
  by_cases hji:j=i
  ·subst hji
   rw[C0,N7,if_pos (by rw[hsz];exact hjl)] at h1
   cases h1
  ·rw[C0,G3 (N9 hji),<-C0,hon j hjl hji] at h1
   cases h1
 |succ fuel ih=>
  intro l listed ts h a w S β Q hl hc hs hsz hcl hli hok hor hQ
  refine⟨λhnil=> ?_,λi hi=> ?_⟩
  ·exfalso
   cases l with
   |nil=>simp at hl
   |cons x l=>
    obtain⟨g1,g2,g3,g4,g5⟩:=hok x (.head _)
    have hlt:=(C4.1 g1).1
    have:x.idx∈Region.ready .any ops listed:=by
     refine mem_ready.2 ⟨(hli _ hlt).2 (.inl ⟨x,.head _,rfl⟩),x.o,g1,λe he hb=> ?_⟩
     have hlt':=nY g3 e he hb
     have hel:e.on<ops.size:=by omega
     rw[Y7 (by rw[hsz];exact hel) false true]
     cases hg:listed.getD e.on true with
     |true=>rfl
     |false=>
      rcases(hli _ hel).1 hg with⟨y,hy,hyi⟩|hyz
      ·cases hy with
       |head=>omega
       |tail _ hy=>
        have:=(Z0 hor hy).1
        omega
      ·omega
    rw[hnil] at this
    cases this
  ·obtain⟨h1,o,h2,h3⟩:=mem_ready.1 hi
   have hlt:=(C4.1 h2).1
   have hnz:i≠z:=λe=>by
    subst e
    cases l with
    |nil=>simp at hl
    |cons x l=>
     obtain⟨g1,g2,g3,g4,g5⟩:=hok x (.head _)
     rw[hz] at h2;cases h2
     have e1:=Z1 hcl 5 oz x.idx h3 g5
     have hxl:=(C4.1 g1).1
     have e2:=(hli x.idx hxl).2 (.inl ⟨x,.head _,rfl⟩)
     rw[Y7 (by rw[hsz];exact hxl) false true,e2] at e1
     cases e1
   obtain⟨x,hx,rfl⟩:=((hli i hlt).1 h1).resolve_right hnz
   obtain⟨l1,l2,rfl⟩:=List.append_of_mem hx
   obtain⟨g1,g2,g3,g4,g5⟩:=hok x hx
   obtain⟨p1,p2,p3⟩:=jL.1 hor
   have hfree:∀y∈l1,PD ops.toList y x/\(y.still=true->y.bs'=y.bs∨y.ns=[]):=λy hy=>by
    have hym:y∈l1++x::l2:=O8 _ hy
    obtain⟨k1,k2,_⟩:=hok y hym
    refine⟨?_,k2.2.2.2⟩
    rcases(p3 y hy x (.head _)).2 with hw|ha
    ·exfalso
     rw[g1] at h2;cases h2
     have e1:=Z1 hcl 5 x.o y.idx h3 hw
     have hyl:=(C4.1 k1).1
     have e2:=(hli y.idx hyl).2 (.inl ⟨y,hym,rfl⟩)
     rw[Y7 (by rw[hsz];exact hyl) false true,e2] at e1
     cases e1
    ·exact ha
   obtain⟨c1,c2⟩:=SA g2.2.2.2 l1 ts h hfree hc
   have hsub:(l1++l2).Sublist (l1++x::l2):=(List.Sublist.refl l1).append (FP x l2)
   have hnx:∀y∈l1++l2,y.idx≠x.idx:=λy hy=>by
    rcases K0.1 hy with hy|hy
    ·have:=(p3 y hy x (.head _)).1;omega
    ·have:=(Z0 p2 hy).1;omega
   have step:∀{cv:Value} {w':World} {S':Stb} {β':Bet},HR w' S' (J5 h x.ns x.bs') β'->VR w' S' (J5 h x.ns x.bs') β' x.v cv->F7 w S h β w' S' (J5 h x.ns x.bs') β'->
    wpAnyIn (FF C.ro) n P .any ops Q (fuel+1) (listed.setIfInBounds x.idx true) (a.put x.o.dst cv) w':=λe1 e2 e3=>by
    refine ih (l1++l2) _ _ _ _ _ _ _ Q (by simp at hl ⊢;omega) c2 ((hs.evol e3 e1).put g2.2.2.1 e2) (by simpa using hsz) (λj oj hj hjl e he hb=> ?_) (λj hj=> ?_) (λy hy=>hok y (hsub.subset hy)) (hor.sublist hsub) (λa' w' hp=>hQ a' w' ?_)
    ·have mono:∀m,listed.getD m false=true->(listed.setIfInBounds x.idx true).getD m false=true:=λm hm=>by
      by_cases hmi:x.idx=m
      ·subst hmi
       rw[C0,N7,if_pos (by rw[hsz];exact hlt)];rfl
      ·rw[C0,G3 hmi,<-C0];exact hm
     refine mono _ ?_
     by_cases hji:x.idx=j
     ·subst hji
      rw[h2] at hj;cases hj
      exact h3 e he hb
     ·rw[C0,G3 hji,<-C0] at hjl
      exact hcl j oj hj hjl e he hb
    ·by_cases hji:j=x.idx
     ·subst hji
      rw[C0,N7,if_pos (by rw[hsz];exact hj)]
      rw[O0]
      exact Iff.intro (λh=>by cases h) λhh=>by
       rcases hh with⟨y,hy,hyi⟩|hh
       ·exact absurd hyi (hnx y hy)
       ·exact absurd hh g4
     ·rw[C0,G3 (N9 hji),<-C0,hli j hj]
      constructor
      ·rintro(⟨y,hy,hyi⟩|hh)
       ·rcases K0.1 hy with hy|hy
        ·exact .inl ⟨y,O8 _ hy,hyi⟩
        ·cases hy with
         |head=>exact absurd hyi.symm hji
         |tail _ hy=>exact .inl ⟨y,dB _ hy,hyi⟩
       ·exact .inr hh
      ·rintro(⟨y,hy,hyi⟩|hh)
       ·exact .inl ⟨y,hsub.subset hy,hyi⟩
       ·exact .inr hh
    ·obtain⟨t1,t2,t3,t4,t5,t6,t7⟩:=hp
     exact⟨t1,t2,t3,t4,t5,t6,e3.trans t7⟩
   simp only[wpOpIn,g1]
   cases hrun:x.run with
   |true=>
    rw[if_pos (by have:=c1.1.run hs;rw[hrun] at this;exact this)]
    have hor:=gJ hs.hr.glob hs.tr (aK x.o.op)
    rw[c1.2.1 hrun] at hor
    exact g2.1 hrun a w S h β hs.hr hor c1.2.2 _ _ λw' S' β' cv e1 e2 e3=>step e1 e2 e3
   |false=>
    rw[if_neg (by have:=c1.1.run hs;rw[hrun] at this;simp[this])]
    obtain⟨e1,e2⟩:=g2.2.1 hrun
    refine⟨λf _=>FF.all C.ro f,?_⟩
    have J3:J5 h x.ns x.bs'=h:=by rw[e1];simp[J5]
    refine step (S':=S) (β':=β) ?_ ?_ ?_
    ·rw[J3];exact hs.hr
    ·rw[e2];exact .tup [] #[] rfl (by simp)
    ·rw[J3];exact F7.refl _ _ _ _
theorem DF:∀(l:List Oper) (o:Oper) (r:List Oper),IV l=o::r->r=[]/\l=oM l++[o]
 |[],_,_,h=>by cases h
 |[x],o,r,h=>by
  rw[IV] at h
  cases h
  exact⟨rfl,rfl⟩
 |x::y::l,o,r,h=>by
  rw[IV] at h
  obtain⟨h1,h2⟩:=DF (y::l) o r h
  refine⟨h1,?_⟩
  rw[oM,I1,<-h2]
theorem qU {all:List Oper} {o:Oper}:∀{n:Nat},yO all o n=true->∀i,i<n->dN all 5 o i=true
 |0,_,i,hi=>by omega
 |n+1,h,i,hi=>by
  simp only[yO,C8] at h
  by_cases e:i=n
  ·rw[e];exact h.1
  ·exact qU h.2 i (by omega)
theorem RL {C:Cx} {n:Nat} {E:Env} (hE:E.Ok P) {id:Nat} {ops:Array Oper} {k:Tm->Hp->Prop} {nf:Nat} {ts:Tm} {h:Hp} {a:Act} {w:World} {S:Stb} {β:Bet} {Q:Exit->Act->World->Prop}
 (hx:tC E ops.toList (oM ops.toList) nf ts h λfs ts h=>X4 (pT ops.toList 0 (oM ops.toList) fs&&FY ops.toList) (dY E ops.toList (IV ops.toList) nf ts h k)) (hs:St E.N C a w S ts h β) (hQ:∀a' w',CM E.N C w S h β k a' w'->Q .normal a' w'):
 (Code.region id ops true).wpIn (FF C.ro) n P Q a w:=by
 obtain⟨insts,tF,hF,g1,g2,g3,g4,g5⟩:=rR (ro:=C.ro) (n:=n) hE ops.toList (oM ops.toList) 0 nf ts h _ hx
 obtain⟨hi,hk⟩:=(J1 _ _).1 g1
 obtain⟨hi,hw⟩:=Bool.and_eq_true_iff.1 hi
 unfold FY at hw
 split at hw
 ·cases hw
 rename_i oz r hl
 obtain⟨rfl,hsp⟩:=DF _ _ _ hl
 rw[hl] at hk
 obtain⟨hwa,hbz⟩:=Bool.and_eq_true_iff.1 hw
 rw[<-g3] at hi
 have hi':pT ops.toList 0 (insts.map cP.o) (insts.map cP.fp)=true:=by simpa[g3] using hi
 obtain⟨o1,o2⟩:=yB hi' g4
 have hlen:insts.length=(oM ops.toList).length:=by
  have:=N8 List.length g3
  simpa using this
 have hsize:insts.length+1=ops.size:=by
  have:=N8 List.length hsp
  simp at this
  omega
 rw[<-hlen] at hwa hbz
 obtain⟨d1,d2⟩:=drawn hs.hr
 have hget:∀i,i<insts.length->ops[i]? =(oM ops.toList)[i]? :=λi hi=>by
  have e:ops.toList[i]? =(oM ops.toList++[oz])[i]? :=N8 (λl=>l[i]?) hsp
  rw[<-L1,e,B8 (by omega)]
 have hzz:ops[insts.length]? =some oz:=by
  have e:ops.toList[insts.length]? =(oM ops.toList++[oz])[insts.length]? :=N8 (λl=>l[insts.length]?) hsp
  rw[<-L1,e,B3 (by omega),hlen];simp
 refine wpIn_region_any hE.mixed ?_
 rw[<-hsize]
 refine YD (w:=w.drew) hE hzz (by omega) hbz hk insts.length insts _ ts h a S β Q rfl g2 (hs.evol d2 d1) (by simp[hsize]) (λj oj _ hj=>by rw[C0,aR] at hj;split at hj<;>simp at hj) (λi hi=> ?_) (λx hx=> ?_) o1 λa' w' hp=>hQ a' w' ?_
 ·have h1:(Array.replicate (insts.length+1) false).getD i true=false:=by
   rw[C0,aR,if_pos (by omega)];rfl
  refine Iff.intro (λ_=> ?_) λ_=>h1
  by_cases hiz:i=insts.length
  ·exact .inr hiz
  ·obtain⟨x,hx,hxi⟩:=rM g4 i (by omega)
   exact .inl ⟨x,hx,by omega⟩
 ·obtain⟨i,h1,h2⟩:=mH g4 x hx
  have hil:=(A4.1 h1).1
  have:(insts.map cP.o)[i]? =some x.o:=by simp[h1]
  rw[g3] at this
  rw[C1] at h2
  refine⟨by rw[h2,hget i hil];exact this,g5 x hx,o2 x hx,by omega,?_⟩
  rw[h2]
  exact qU hwa i hil
 ·obtain⟨t1,t2,t3,t4,t5,t6,t7⟩:=hp
  exact⟨t1,t2,t3,t4,t5,t6,d2.trans t7⟩
theorem cU:∀(h:Hp) (k:Nat->Prop),cT.lenOfK h k->k h.length
 |[],k,hk=>hk
 |_::h,k,hk=>cU h _ hk
theorem iH:∀(h ys:Hp) (k:Hp->Prop),ER h ys k->k (h++ys)
 |[],ys,k,hk=>hk
 |_::h,ys,k,hk=>iH h ys _ hk
theorem MS:∀(n:Nat) (k:List Blk->Prop),resL n k->k (List.replicate n .res)
 |0,k,hk=>hk
 |n+1,k,hk=>MS n _ hk
theorem A4m {h:Hp} {n:Nat} {k:Hp->Prop} (hk:padK h n k):k (h++List.replicate n .res):=iH _ _ _ (MS _ _ hk)
theorem nB {n:Nat} {h:Hp} {k:Nat->Hp->Prop} (hk:cT n h k):∃nf,k nf (h++List.replicate n .res):=by
 unfold cT at hk
 cases n with
 |zero=>exact⟨0,by simpa using hk⟩
 |succ n=>exact⟨h.length,A4m (cU h _ hk)⟩
theorem qP.elim {W:Tm->Hp->(Tm->Hp->Prop)->Prop} {ts:Tm} {h:Hp} {k k2:Tm->Hp->Prop} (hp:qP W ts h k k2):∃F,W ts h F/\((∀ts' h',F ts' h'->k ts' h')∨∀ts' h',F ts' h'->k2 ts' h'):=hp.holds
theorem Wk.toS {N:Nat} {ts:Tm} {h:Hp} {ts':Tm} {h':Hp} (hw:Wk N ts h ts' h'):WkS N ts h λt g=>t=ts'/\g=h':=λC a w S β hs=>by
 obtain⟨S',β',h1,h2⟩:=hw C a w S β hs
 exact⟨ts',h',S',β',⟨rfl,rfl⟩,h1,h2⟩
theorem qP.mk {N:Nat} {ts:Tm} {h:Hp} {k k2:Tm->Hp->Prop} (ts':Tm) (h':Hp) (hw:Wk N ts h ts' h') (hk:k ts' h'):qP (WkS N) ts h k k2:=⟨_,hw.toS,.inl λ_ _ ⟨e1,e2⟩=>by rw[e1,e2];exact hk⟩
theorem qP.mkS {N:Nat} {ts:Tm} {h:Hp} {k k2:Tm->Hp->Prop} {F:Tm->Hp->Prop} (hw:WkS N ts h F) (hk:∀ts' h',F ts' h'->k ts' h'):qP (WkS N) ts h k k2:=⟨F,hw,.inl hk⟩
theorem qP.last {N:Nat} {ts:Tm} {h:Hp} {k k2:Tm->Hp->Prop} (ts':Tm) (h':Hp) (hw:Wk N ts h ts' h') (hk:k2 ts' h'):qP (WkS N) ts h k k2:=⟨_,hw.toS,.inr λ_ _ ⟨e1,e2⟩=>by rw[e1,e2];exact hk⟩
theorem CM.then {N:Nat} {C:Cx} {w w1:World} {S S1:Stb} {h h1:Hp} {β β1:Bet} {k:Tm->Hp->Prop} {a':Act} {w':World} (E:F7 w S h β w1 S1 h1 β1) (hp:CM N C w1 S1 h1 β1 k a' w'):CM N C w S h β k a' w':=by
 obtain⟨t1,t2,t3,t4,t5,t6,t7⟩:=hp
 exact⟨t1,t2,t3,t4,t5,t6,E.trans t7⟩
theorem lZ.then {N:Nat} {C:Cx} {w w1:World} {S S1:Stb} {h h1:Hp} {β β1:Bet} {k:Ex->Tm->Hp->Prop} {e:Exit} {a':Act} {w':World} (E:F7 w S h β w1 S1 h1 β1) (hp:lZ N C w1 S1 h1 β1 k e a' w'):lZ N C w S h β k e a' w':=by
 obtain⟨x,h1,h2⟩:=hp
 exact⟨x,h1,h2.then E⟩
theorem lZ.here {N:Nat} {C:Cx} {w:World} {S:Stb} {ts:Tm} {h:Hp} {β:Bet} {k:Ex->Tm->Hp->Prop} {a:Act} (x:Ex) (hs:St N C a w S ts h β) (hk:k x ts h):lZ N C w S h β k (nU x) a w:=
 ⟨x,rfl,ts,h,S,β,hk,hs,F7.refl _ _ _ _⟩
theorem AWP.mono {N:Nat} {c:Code} {ts:Tm} {h:Hp} {k k':Ex->Tm->Hp->Prop} (hk:∀e ts h,k e ts h->k' e ts h) (hc:AWP P N c ts h k):AWP P N c ts h k':=
 λn C a w S β hs=>wpIn_mono (hc n C a w S β hs) λ_ _ _ ⟨x,e,t1,t2,t3,t4,t5,t6⟩=>⟨x,e,t1,t2,t3,t4,hk _ _ _ t5,t6⟩
theorem AWP.seq {N:Nat} {c d:Code} {ts:Tm} {h:Hp} {k:Ex->Tm->Hp->Prop}
 (hc:AWP P N c ts h λe ts h=>match e with
   | .normal=>AWP P N d ts h k
   |e=>k e ts h):AWP P N (.seq c d) ts h k:=by
 intro n C a w S β hs
 refine wpIn_seq (wpIn_mono (hc n C a w S β hs) λe a' w' hp=> ?_)
 obtain⟨x,rfl,t1,t2,t3,t4,t5,t6,t7⟩:=hp
 cases x with
 |normal=>exact wpIn_mono (t5 n C a' w' t3 t4 t6) λe a2 w2 hp2=>hp2.then t7
 |exit id=>exact⟨.exit id,rfl,t1,t2,t3,t4,t5,t6,t7⟩
 |ret=>exact⟨.ret,rfl,t1,t2,t3,t4,t5,t6,t7⟩
theorem AWP.cond {N:Nat} {c:Operand} {x y:Code} {ts:Tm} {h:Hp} {k:Ex->Tm->Hp->Prop} {b:Bool} (hb:ev ts c=.d (.b b)) (h1:b=true->AWP P N x ts h k) (h2:b=false->AWP P N y ts h k):AWP P N (.cond c x y) ts h k:=by
 intro n C a w S β hs
 have hv:=rS hs.hr.glob hs.tr c
 rw[hb] at hv
 have hc:a.eval c=.bool b:=by
  generalize a.eval c=v at hv
  cases hv with
  |d hd=>cases hd;rfl
 exact wpIn_cond_split hc (λe=>h1 e n C a w S β hs) λe=>h2 e n C a w S β hs
theorem AWP.block {N:Nat} {id:Nat} {c:Code} {ts:Tm} {h:Hp} {k:Ex->Tm->Hp->Prop}
 (hc:AWP P N c ts h λe ts h=>match e with
   | .exit j=>match Nat.beq j id with
     |true=>k .normal ts h
     |false=>k (.exit j) ts h
   |e=>k e ts h):AWP P N (.block id c) ts h k:=by
 intro n C a w S β hs
 refine wpIn_block (wpIn_mono (hc n C a w S β hs) λe a' w' hp=> ?_)
 obtain⟨x,rfl,t1,t2,t3,t4,t5,t6,t7⟩:=hp
 cases x with
 |normal=>exact⟨.normal,rfl,t1,t2,t3,t4,t5,t6,t7⟩
 |exit j=>
  simp only[nU,Exit.inBlock]
  cases hj:Nat.beq j id with
  |true=>
   simp only[hj] at t5
   rw[if_pos (B2 hj)]
   exact⟨.normal,rfl,t1,t2,t3,t4,t5,t6,t7⟩
  |false=>
   simp only[hj] at t5
   rw[if_neg (λe=>by rw[e,kJ id] at hj;cases hj)]
   exact⟨.exit j,rfl,t1,t2,t3,t4,t5,t6,t7⟩
 |ret=>exact⟨.ret,rfl,t1,t2,t3,t4,t5,t6,t7⟩
theorem iC {b:Frame} {a:Act} {k:List Item} {cs:List Frame} {w:World} {c:Code}:step P (lone (b.atR a (.code (.scope c)::k)) cs w)=.next (lone (b.atR a (.code c:: .inScope c::k)) cs w):=
 step_lone_go (by simp[stepG,stepG.exec,Frame.atR])
theorem LI {b:Frame} {a:Act} {k:List Item} {cs:List Frame} {w:World} {c:Code}:step P (lone (b.atR a (.inScope c::k)) cs w)=.next (lone (b.atR a k) cs w):=
 step_lone_go (by simp[stepG,stepG.exec,Frame.atR])
theorem YB {F:Fence} {n:Nat} {c:Code} {Q:Exit->Act->World->Prop} {a:Act} {w:World} (hQ:∀l a w,¬Q (.goto l) a w) (h:c.wpIn F n P Q a w):(Code.scope c).wpIn F n P Q a w:=by
 intro b k cs hro hb hr
 have h0:(lone (b.atR a (.code (.scope c)::k)) cs w).fenced P F:=fenced_calm hb hr rfl
 obtain⟨e,a₁,w₁,hq,harr⟩:=h b (.inScope c::k) cs hro hb hr
 cases e with
 |normal=>exact⟨.normal,a₁,w₁,hq,.head h0 iC (StepsIn.trans harr (.one (fenced_calm hb hr rfl) LI))⟩
 |exit id=>
  have hx:exitTo id (.inScope c::k)=exitTo id k:=by simp[exitTo]
  exact⟨.exit id,a₁,w₁,hq,λk' hk=>.head h0 iC (harr.1 k' (by rw[hx];exact hk)),
   λhr' hk=>let ⟨k₁,h1,h2⟩:=harr.2 hr' (by rw[hx];exact hk);⟨k₁,h1,.head h0 iC h2⟩⟩
 |goto l=>exact absurd hq (hQ l a₁ w₁)
 |ret=>exact⟨_,a₁,w₁,hq,.of_steps (.one h0 iC) harr⟩
 |panic ch=>exact⟨_,a₁,w₁,hq,.of_steps (.one h0 iC) harr⟩
 |outgrown=>exact⟨_,a₁,w₁,hq,.of_steps (.one h0 iC) harr⟩
theorem lZ.no_goto {N:Nat} {C:Cx} {w:World} {S:Stb} {h:Hp} {β:Bet} {k:Ex->Tm->Hp->Prop} (l:Nat) (a:Act) (w':World):¬lZ N C w S h β k (.goto l) a w':=by
 rintro⟨x,hx,_⟩
 cases x<;>cases hx
theorem bP {E:Env} (hE:E.Ok P):∀(c:Code) (ts:Tm) (h:Hp) (k:Ex->Tm->Hp->Prop),bH E c ts h k->AWP P E.N c ts h k:=by
 intro c
 induction c with
 |skip=>exact λts h k hx n C a w S β hs=>wpIn_skip (.here .normal hs hx)
 |region id ops d=>
  intro ts h k hx n C a w S β hs
  cases d with
  |false=>
   have hx:cT (V0 false ops.toList) h λnf h=>dY E ops.toList ops.toList nf ts h λts h=>k .normal ts h:=hx
   obtain⟨nf,hx⟩:=nB hx
   obtain⟨β',r1,r2⟩:=iT hs.hr (V0 false ops.toList)
   have hs':=hs.evol r2 r1
   refine wpIn_region ?_
   have:=DM (n:=n) (C:=C) hE ops ops.toList 0 nf ts _ a w S β' (lZ E.N C w S h β k) (λi=>by simp) hx hs' λa' w' hp=>⟨.normal,rfl,hp.then r2⟩
   rw[List.range_eq_range']
   simpa using this
  |true=>
   have fin:∀{ts:Tm} {h:Hp} {S:Stb} {β:Bet},(cT (V0 true ops.toList) h λnf h=>tC E ops.toList ops.toList nf ts h λfs ts h=>X4 (pT ops.toList 0 ops.toList fs) (k .normal ts h))->St E.N C a w S ts h β->
    (Code.region id ops true).wpIn (FF C.ro) n P (lZ E.N C w S h β k) a w:=λhx hs=>by
    obtain⟨nf,hx⟩:=nB hx
    obtain⟨β',r1,r2⟩:=iT hs.hr (V0 true ops.toList)
    exact A0c hE hx (hs.evol r2 r1) λa' w' hp=>⟨.normal,rfl,hp.then r2⟩
   have hx:JQ E ops true ts h k:=hx
   simp only[JQ] at hx
   split at hx
   ·exact fin hx hs
   ·obtain⟨F,hw,hx⟩:=hx.elim
    obtain⟨ts',h',S',β',hf,s1,e1⟩:=hE.weak _ _ _ hw C a w S β hs
    rcases hx with hx|hx
    ·exact wpIn_mono (fin (hx ts' h' hf) s1) λe a' w' hp=>hp.then e1
    ·refine wpIn_mono ?_ λe a' w' hp=>lZ.then e1 hp
     obtain⟨nf,hx⟩:=nB (hx ts' h' hf)
     obtain⟨β2,r1,r2⟩:=iT s1.hr (V0 true ops.toList)
     exact RL hE hx (s1.evol r2 r1) λa' w' hp=>⟨.normal,rfl,hp.then r2⟩
 |seq c d ihc ihd=>
  intro ts h k hx
  have hx:bH E c ts h (seqK (bH E d) k):=hx
  refine AWP.seq (AWP.mono (λe ts h hk=> ?_) (ihc ts h _ hx))
  cases e with
  |normal=>exact ihd ts h k hk
  |exit id=>exact hk
  |ret=>exact hk
 |cond c x y ihx ihy=>
  intro ts h k hx
  have hx:A0d ts c (bH E x ts h k) (bH E y ts h k):=hx
  unfold A0d at hx
  have hx:=gC _ _ _ hx
  split at hx
  ·rename_i b hb
   obtain⟨h1,h2⟩:=(SD _ _ _).1 hx
   exact AWP.cond hb (λe=>ihx _ _ _ (h1 e)) λe=>ihy _ _ _ (h2 e)
  ·exact hx.elim
 |block id c ih=>
  intro ts h k hx
  have hx:bH E c ts h (B1r id k):=hx
  refine AWP.block (AWP.mono (λe ts h hk=> ?_) (ih _ _ _ hx))
  cases e<;>exact hk
 |loop c _=>exact λts h k hx=>hE.loop c ts h k hx
 |rangeFunc g ps qs body=>exact λts h k hx=>hE.range g ps qs body ts h k hx
 |exit id=>exact λts h k hx n C a w S β hs=>wpIn_exit (.here (.exit id) hs hx)
 |scope c ih=>exact λts h k hx n C a w S β hs=>YB (λl a w=>lZ.no_goto l a w) (ih ts h k hx n C a w S β hs)
 |label l=>exact λts h k hx n C a w S β hs=>wpIn_label (.here .normal hs hx)
 |goto l=>exact λts h k hx=>hx.elim
 |ret=>exact λts h k hx n C a w S β hs=>wpIn_ret (.here .ret hs hx)
 |refuse m=>exact λts h k hx=>hx.elim
theorem Wk.refl {N:Nat} {ts:Tm} {h:Hp}:Wk N ts h ts h:=λC a w S β hs=>⟨S,β,hs,F7.refl _ _ _ _⟩
theorem Wk.tmps {N:Nat} {ts ts':Tm} {h:Hp} (hh:∀p∈ts',look ts p.1=p.2):Wk N ts h ts' h:=λC a w S β hs=>by
 refine⟨S,β,⟨hs.hr,λt=> ?_,hs.size,hs.marks,hs.round,hs.base⟩,F7.refl _ _ _ _⟩
 have key:∀l:Tm,(∀p∈l,look ts p.1=p.2)->look l t=.u∨look l t=look ts t:=by
  intro l
  induction l with
  |nil=>intro _;exact .inl rfl
  |cons p l ih=>
   intro hl
   obtain⟨j,v⟩:=p
   simp only[look]
   cases hj:Nat.beq j t with
   |true=>
    have:=hl (j,v) (.head _)
    rw[<-B2 hj]
    exact .inr this.symm
   |false=>exact ih λp hp=>hl p (.tail _ hp)
 rcases key ts' hh with e|e
 ·rw[e];exact .u _
 ·rw[e];exact hs.tr t
def nm1 (n:Nat):V->Bool
 | .ptr m _ _ _=>Nat.blt m n
 | .sref m _ _ _ _=>Nat.blt m n
 | .yld m=>Nat.blt m n
 | .map m=>Nat.blt m n
 | .agg _=>false
 | .tup _=>false
 | .fn _ cap=>match cap with
   |[]=>true
   |_=>false
 |_=>true
def nmV (n:Nat):V->Bool
 | .agg cs=>cs.all (nm1 n)
 | .tup cs=>cs.all (nm1 n)
 | .fn _ cap=>cap.all (nm1 n)
 |v=>nm1 n v
def tZ (n:Nat):Blk->Bool
 | .var cs=>cs.all (nmV n)
 | .loop _ _ _ ts _ _ _=>ts.all λp=>nmV n p.2
 |_=>true
theorem KF {m n:Nat} (h:Nat.blt m n=true):m<n:=B5 h
def wT (h:Hp) (β:Bet) (n:Nat):Bet:=β.take (min n h.length)++β.drop h.length
theorem iN {α:Type} {l:List α} {n m:Nat} (h:m<n):(l.take n)[m]? =l[m]? :=I8 h
theorem aI {h:Hp} {β:Bet} {n m:Nat} (h1:m<n) (h2:m<h.length):(wT h β n)[m]? =β[m]? :=by
 unfold wT
 by_cases hl:h.length<=β.length
 ·rw[B8 (by rw[D0];omega),I8 (by omega)]
 ·rw[pA (by omega),I3,I8 (by omega)]
theorem A2x {h:Hp} {β:Bet} {n:Nat} (hl:h.length<=β.length) (r:Nat):tl (h.take n) (wT h β n) r=tl h β r:=by
 unfold tl wT
 rw[B3 (by simp only[D0];omega),J4]
 congr 1
 simp only[D0];omega
theorem vY {h:Hp} {β:Bet} {n m b p:Nat} (hl:h.length<=β.length) (hm:(wT h β n)[m]? =some (some (b,p))):∃m',β[m']? =some (some (b,p))/\((m<min n h.length/\m'=m)∨(min n h.length<=m/\m'=m-min n h.length+h.length)):=by
 by_cases h1:m<min n h.length
 ·rw[aI (by omega) (by omega)] at hm
  exact⟨m,hm,.inl ⟨h1,rfl⟩⟩
 ·unfold wT at hm
  rw[B3 (by rw[D0];omega),J4,D0] at hm
  refine⟨_,hm,.inr ⟨by omega,by omega⟩⟩
theorem got {α:Type} {l:List α} {n:Nat} {x:α} (h:l[n]? =some x):n<l.length:=(A4.1 h).1
theorem VR.drop1 {w:World} {S:Stb} {h:Hp} {β:Bet} {n:Nat} {x:V} {v:Value} (hx:VR w S h β x v) (hb:nm1 n x=true):VR w S (h.take n) (wT h β n) x v:=by
 cases hx with
 |u=>exact .u _
 |d h=>exact .d h
 |agg=>cases hb
 |tup=>cases hb
 | @ptr m _ _ _ _ h1 h2=>
   have hl:=KF hb
   refine .ptr h1 ?_
   unfold PR at h2 ⊢
   rw[iN hl]
   by_cases hm:m<h.length
   ·rw[aI hl hm];exact h2
   ·rw[E0 (by omega)] at h2;exact h2.elim
 |rp cs o b off uf h1 h2=>exact .rp cs o b off uf h1 h2
 | @sref m _ _ _ _ _ h1 h2=>
   have hl:=KF hb
   refine .sref h1 ?_
   unfold SR at h2 ⊢
   rw[iN hl]
   by_cases hm:m<h.length
   ·rw[aI hl hm];exact h2
   ·obtain⟨a,cap,_,_,_,h2⟩:=h2
    rw[E0 (by omega)] at h2;exact h2.elim
 |fn f cap arr h1 h2=>
  cases cap with
  |nil=>exact .fn f [] arr h1 (by simp)
  |cons=>cases hb
 | @yld m _ h1 h2=>
   have hl:=KF hb
   by_cases hm:m<h.length
   ·exact .yld (by rw[iN hl];exact h1) (by rw[iN hl,aI hl hm];exact h2)
   ·rw[E0 (by omega)] at h1;exact h1.elim
 | @map m _ h1 h2=>
   have hl:=KF hb
   by_cases hm:m<h.length
   ·exact .map (by rw[iN hl];exact h1) (by rw[iN hl,aI hl hm];exact h2)
   ·rw[E0 (by omega)] at h1;exact h1.elim
theorem VR.drop {w:World} {S:Stb} {h:Hp} {β:Bet} {n:Nat} {x:V} {v:Value} (hx:VR w S h β x v) (hb:nmV n x=true):VR w S (h.take n) (wT h β n) x v:=by
 have all:∀{cs:List V} {j:Nat} {c:V},cs.all (nm1 n)=true->cs[j]? =some c->nm1 n c=true:=λh hj=>C5.1 h _ (A7 hj)
 cases hx with
 |agg cs arr h1 h2 h3=>exact .agg cs arr h1 h2 λj c u hc hu=>(h3 j c u hc hu).drop1 (all hb hc)
 |tup cs arr h1 h2=>exact .tup cs arr h1 λj c u hc hu=>(h2 j c u hc hu).drop1 (all hb hc)
 |fn f cap arr h1 h2=>exact .fn f cap arr h1 λj c u hc hu=>(h2 j c u hc hu).drop1 (all hb hc)
 |u=>exact .u _
 |d h=>exact .d h
 |ptr h1 h2=>exact(VR.ptr h1 h2).drop1 hb
 |rp cs o b off uf h1 h2=>exact .rp cs o b off uf h1 h2
 |sref h1 h2=>exact(VR.sref h1 h2).drop1 hb
 |yld h1 h2=>exact(VR.yld h1 h2).drop1 hb
 |map h1 h2=>exact(VR.map h1 h2).drop1 hb
theorem TR.drop {w:World} {S:Stb} {h:Hp} {β:Bet} {n:Nat} {ts:Tm} {tmps:Array Value} (hx:TR w S h β ts tmps) (hb:ts.all (λp=>nmV n p.2)=true):TR w S (h.take n) (wT h β n) ts tmps:=λt=>by
 refine(hx t).drop ?_
 have key:∀l:Tm,l.all (λp=>nmV n p.2)=true->nmV n (look l t)=true:=by
  intro l
  induction l with
  |nil=>intro _;rfl
  |cons p l ih=>
   intro hl
   obtain⟨j,v⟩:=p
   simp only[AO,C8] at hl
   simp only[look]
   cases Nat.beq j t with
   |true=>exact hl.1
   |false=>exact ih hl.2
 exact key ts hb
theorem BR.drop {w:World} {S:Stb} {h:Hp} {β:Bet} {n m:Nat} (hm:m<n) (hmh:m<h.length) (hlen:h.length<=β.length) {b:Blk} (hx:BR w S h β m b) (hb:tZ n b=true):BR w S (h.take n) (wT h β n) m b:=by
 cases b with
 |res=>simp only[BR] at hx ⊢;rw[aI hm hmh];exact hx
 |gone=>simp only[BR] at hx ⊢;rw[aI hm hmh];exact hx
 |var cs=>
  obtain⟨b,c,e,h1,h2,h3,h4,h5⟩:=hx
  exact⟨b,c,e,by rw[aI hm hmh];exact h1,h2,h3,λj x u hj hu=>⟨(h4 j x u hj hu).1,(h4 j x u hj hu).2.drop (C5.1 hb _ (A7 hj))⟩,h5⟩
 |vard cs=>
  obtain⟨b,c,e,h1,h2⟩:=hx
  exact⟨b,c,e,by rw[aI hm hmh];exact h1,h2⟩
 |row ver sz ro xs=>
  obtain⟨h0,h1,h2⟩:=hx
  refine⟨h0,h1,?_⟩
  rcases h2 with⟨h2,h3⟩|⟨b,base,c,e,h2,h3⟩
  ·exact .inl ⟨h2,by rw[aI hm hmh];exact h3⟩
  ·exact .inr ⟨b,base,c,e,by rw[aI hm hmh];exact h2,h3⟩
 |map T kt es=>
  obtain⟨b,c,e,h1,h2⟩:=hx
  exact⟨b,c,e,by rw[aI hm hmh];exact h1,h2⟩
 |ar vs=>
  obtain⟨h1,q,h2,h3⟩:=hx
  refine⟨by rw[aI hm hmh];exact h1,q,λi a cs hi=> ?_,h3⟩
  obtain⟨g1,g2⟩:=h2 i a cs hi
  exact⟨by rw[A2x hlen];exact g1,g2⟩
 |loop st pend N ts ps qs body=>
  obtain⟨b,l,h1,h2,h3,h4,h5,h6,h7,h8,h9⟩:=hx
  exact⟨b,l,by rw[aI hm hmh];exact h1,h2,h3,h4,h5,h6,h7,h8.drop hb,h9⟩
theorem HR.drop {w:World} {S:Stb} {h:Hp} {β:Bet} (hr:HR w S h β) {n:Nat} (hb:(h.take n).all (tZ n)=true):HR w S (h.take n) (wT h β n) where
 len:=by have:=hr.len;unfold wT;simp only[D0,B4,aA];omega
 blk:=λm b hm=>by
  have hmn:m<n:=by
   have:=(A4.1 hm).1
   simp at this;omega
  have hbb:=C5.1 hb _ (A7 hm)
  rw[iN hmn] at hm
  exact(hr.blk m b hm).drop hmn (got hm) hr.len hbb
 inj:=λm1 m2 b p q h1 h2=>by
  obtain⟨k1,e1,c1⟩:=vY hr.len h1
  obtain⟨k2,e2,c2⟩:=vY hr.len h2
  have:=hr.inj _ _ _ _ _ e1 e2
  omega
 old:=hr.old
 glob:=hr.glob
 tlt:=λr b p hb=>by rw[A2x hr.len] at hb;exact hr.tlt r b p hb
 one:=λn1 n2 b c h1 h2=>by
  have key:∀{m:Nat} {b:Blk},(h.take n)[m]? =some b->h[m]? =some b:=λ{m b} hm=>by
   have hmn:m<n:=by
    have:=(A4.1 hm).1
    simp at this;omega
   rwa[iN hmn] at hm
  exact hr.one n1 n2 b c (key h1) (key h2)
theorem F7.drop {w w':World} {S S':Stb} {h h':Hp} {β β':Bet} (E:F7 w S h β w' S' h' β') {n:Nat} (hn:h.length<=n) (hl:h'.length<=β'.length):F7 w S h β w' S' (h'.take n) (wT h' β' n) where
 outer:=E.outer
 size:=E.size
 frame:=E.frame
 shape:=E.shape
 loops:=E.loops
 froz:=E.froz
 sub:=E.sub
 new:=E.new
 cell:=E.cell
 imgs:=λb hb=>by
  obtain⟨m,p,hm⟩:=hb
  obtain⟨m',e,_⟩:=vY hl hm
  exact E.imgs b ⟨m',p,e⟩
 len:=by have:=E.len;simp;omega
 blk:=λm b hm=>by
  obtain⟨b',h1,h2⟩:=E.blk m b hm
  have hmn:m<n:=by
   have:=(A4.1 hm).1;omega
  exact⟨b',by rw[iN hmn];exact h1,by rw[aI hmn (got h1)];exact h2⟩
theorem pH.drop {B:Nat} {w:World} {h:Hp} {β:Bet} {ds:List Deferred} (hl:h.length<=β.length) (hm:pH B w β ds) (n:Nat):pH B w (wT h β n) ds:=by
 refine⟨hm.1,λd hd=> ?_⟩
 obtain⟨r,h1,h2,h3,h4⟩:=hm.2 d hd
 refine⟨r,h1,h2,h3,λ⟨m,p,hp⟩=> ?_⟩
 obtain⟨m',e,_⟩:=vY hl hp
 exact h4 ⟨m',p,e⟩
theorem Marks.drop {B:Nat} {D:List Deferred} {w:World} {h:Hp} {β:Bet} {ds:List Deferred} (hl:h.length<=β.length) (hm:Marks B D w β ds) (n:Nat):Marks B D w (wT h β n) ds:=
 let ⟨ms,ms2,e,h0⟩:=hm;⟨ms,ms2,e,h0.drop hl n⟩
def Wm (N m:Nat) (ts:Tm) (h:Hp) (ts':Tm) (h':Hp):Prop:=
 ∀(C:Cx) (a:Act) (w0 w:World) (S0 S:Stb) (h0:Hp) (β0 β:Bet),h0.length=m->St N C a w S ts h β->F7 w0 S0 h0 β0 w S h β->∃S' β',St N C a w S' ts' h' β'/\F7 w0 S0 h0 β0 w S' h' β'
theorem Wk.wm {N m:Nat} {ts ts':Tm} {h h':Hp} (x:Wk N ts h ts' h'):Wm N m ts h ts' h':=λC a w0 w S0 S h0 β0 β _ hs hE=>by
 obtain⟨S',β',s1,e1⟩:=x C a w S β hs
 exact⟨S',β',s1,hE.trans e1⟩
theorem Wm.trans {N m:Nat} {ts ts1 ts2:Tm} {h h1 h2:Hp} (x:Wm N m ts h ts1 h1) (y:Wm N m ts1 h1 ts2 h2):Wm N m ts h ts2 h2:=λC a w0 w S0 S h0 β0 β hl hs hE=>by
 obtain⟨S1,β1,s1,e1⟩:=x C a w0 w S0 S h0 β0 β hl hs hE
 exact y C a w0 w S0 S1 h0 β0 β1 hl s1 e1
theorem Wm.drop {N m n:Nat} {ts:Tm} {h:Hp} (hn:m<=n) (h1:ts.all (λp=>nmV n p.2)=true) (h2:(h.take n).all (tZ n)=true):Wm N m ts h ts (h.take n):=λC a w0 w S0 S h0 β0 β hl hs hE=>
 ⟨S,wT h β n,⟨hs.hr.drop h2,hs.tr.drop h1,hs.size,hs.marks.drop hs.hr.len n,hs.round,hs.base⟩,hE.drop (by omega) hs.hr.len⟩
def LP (P:Program) (N:Nat) (c:Code) (ts:Tm) (h:Hp) (k:Ex->Tm->Hp->Prop):Prop:=
 ∀(n:Nat) (C:Cx) (a:Act) (w:World) (S:Stb) (β:Bet),St N C a w S ts h β->
  ∀(b:Frame) (kk:List Item) (cs:List Frame),b.roundOf=(FF C.ro).round->(FF C.ro).fn b.fn->(FF C.ro).room (cs.length+1+n)->
   ∃e a' w',lZ N C w S h β k e a' w'/\ArrivesIn (Machine.fenced P (FF C.ro)) P (lone (b.atR a (.code c:: .inLoop c::kk)) cs w) b kk cs e a' w'
theorem AWP.of_LP {N:Nat} {c:Code} {ts:Tm} {h:Hp} {k:Ex->Tm->Hp->Prop} (hl:LP P N c ts h k):AWP P N (.loop c) ts h k:=by
 intro n C a w S β hs b kk cs hro hb hr
 obtain⟨e,a',w',hq,harr⟩:=hl n C a w S β hs b kk cs hro hb hr
 exact⟨e,a',w',hq,.of_steps (.one (fenced_calm hb hr rfl) stepR_loop) harr⟩
theorem LP.weak {N:Nat} {c:Code} {ts ts':Tm} {h h':Hp} {k:Ex->Tm->Hp->Prop} (x:Wk N ts h ts' h') (hl:LP P N c ts' h' k):LP P N c ts h k:=by
 intro n C a w S β hs b kk cs hro hb hr
 obtain⟨S1,β1,s1,e1⟩:=x C a w S β hs
 obtain⟨e,a',w',hq,harr⟩:=hl n C a w S1 β1 s1 b kk cs hro hb hr
 exact⟨e,a',w',hq.then e1,harr⟩
theorem LP.peel {N:Nat} {c:Code} {ts:Tm} {h:Hp} {k:Ex->Tm->Hp->Prop} (round:AWP P N c ts h λe ts1 h1=>match e with
 | .normal=>LP P N c ts1 h1 k
 |e=>k e ts1 h1):LP P N c ts h k:=by
 intro n C a w S β hs b kk cs hro hb hr
 obtain⟨e,a₁,w₁,hq,harr⟩:=round n C a w S β hs b (.inLoop c::kk) cs hro hb hr
 obtain⟨ex,rfl,t1,t2,t3,t4,t5,t6,t7⟩:=hq
 cases ex with
 |normal=>
  obtain⟨e₂,a₂,w₂,hq₂,harr₂⟩:=t5 n C a₁ w₁ t3 t4 t6 b kk cs hro hb hr
  exact⟨e₂,a₂,w₂,hq₂.then t7,.of_steps (StepsIn.trans harr (.one (fenced_calm hb hr rfl) stepR_inLoop)) harr₂⟩
 |exit id=>exact⟨_,a₁,w₁,⟨.exit id,rfl,t1,t2,t3,t4,t5,t6,t7⟩,.pass (x:=.inLoop c) rfl (λ_ _=>.inl (by simp[nU])) harr⟩
 |ret=>exact⟨_,a₁,w₁,⟨.ret,rfl,t1,t2,t3,t4,t5,t6,t7⟩,.pass (x:=.inLoop c) rfl (λ_ _=>.inl (by simp[nU])) harr⟩
theorem LP.loop {N:Nat} {c:Code} {k:Ex->Tm->Hp->Prop} {X:Type} (tsx:X->Tm) (hx:X->Hp) (Inv:X->Prop) (μ:X->Nat) (x0:X) (h0:Inv x0)
 (round:∀x,Inv x->AWP P N c (tsx x) (hx x) λe ts h=>match e with
   | .normal=>∃y,Wm N (hx x0).length ts h (tsx y) (hx y)/\Inv y/\μ y<μ x
   |e=>k e ts h):LP P N c (tsx x0) (hx x0) k:=by
 intro n C a w S β hs
 intro b kk cs hro hb hr
 have key:∀(j:Nat) (x:X) (a':Act) (w':World) (S':Stb) (β':Bet),μ x=j->Inv x->St N C a' w' S' (tsx x) (hx x) β'->F7 w S (hx x0) β w' S' (hx x) β'->
  ∃e a2 w2,lZ N C w S (hx x0) β k e a2 w2/\ArrivesIn (Machine.fenced P (FF C.ro)) P (lone (b.atR a' (.code c:: .inLoop c::kk)) cs w') b kk cs e a2 w2:=by
  intro j
  induction j using Nat.strongRecOn with
  |_ j ih=>
   intro x a' w' S' β' hj hI hs' hE
   obtain⟨e,a₁,w₁,hq,harr⟩:=round x hI n C a' w' S' β' hs' b (.inLoop c::kk) cs hro hb hr
   obtain⟨ex,rfl,t1,t2,t3,t4,t5,t6,t7⟩:=hq
   cases ex with
   |normal=>
    obtain⟨y,hw,hy,hlt⟩:=t5
    obtain⟨S2,β2,s2,e2⟩:=hw C a₁ w w₁ S t3 (hx x0) β t4 rfl t6 (hE.trans t7)
    obtain⟨e₂,a₂,w₂,hq₂,harr₂⟩:=ih (μ y) (hj▸hlt) y a₁ w₁ S2 β2 rfl hy s2 e2
    exact⟨e₂,a₂,w₂,hq₂,.of_steps (StepsIn.trans harr (.one (fenced_calm hb hr rfl) stepR_inLoop)) harr₂⟩
   |exit id=>exact⟨_,a₁,w₁,⟨.exit id,rfl,t1,t2,t3,t4,t5,t6,hE.trans t7⟩,.pass (x:=.inLoop c) rfl (λ_ _=>.inl (by simp[nU])) harr⟩
   |ret=>exact⟨_,a₁,w₁,⟨.ret,rfl,t1,t2,t3,t4,t5,t6,hE.trans t7⟩,.pass (x:=.inLoop c) rfl (λ_ _=>.inl (by simp[nU])) harr⟩
 obtain⟨e,a',w',hq,harr⟩:=key _ x0 a w S β rfl h0 hs (F7.refl _ _ _ _)
 exact⟨e,a',w',hq,harr⟩
end Go.PM

/- TopTrace: part 10 of the proof: for every input the law returns true, and its arguments read behind the call as they read before; where the library's table is as its own text lays it. -/
import Derived.Test.YtefjfjfcjihcpaaGreatDoorQ9
set_option maxRecDepth 10000
set_option maxHeartbeats 400000000
set_option linter.unusedSectionVars false
namespace Go.PM
open Go.Proofs
def cF (l:List Int):List Rat:=l.map λc:Int=>(c:Rat)
def lR (fl:List F8) (p:Int) (now:List Int) (v:Nat):Prop:=(gD fl p v (kU now v)).getD v 0≠0
instance (fl:List F8) (p:Int) (now:List Int) (v:Nat):Decidable (lR fl p now v):=by unfold lR;infer_instance
def bD (fl:List F8) (p:Int) (now:List Int):List (List Rat):=(List.range now.length).map λv=>cF (lW fl p v now)
def mY (fl:List F8) (p:Int) (now:List Int) (s:Int) (x:List Rat) (v:Nat):Rat:=if lR fl p now v then((now.getD v 0:Int):Rat)*x.getD v 0+(inS fl p v s:Int) else 0
def fL (fl:List F8) (p:Int) (now:List Int) (s:Int) (x:List Rat):List Rat:=(List.range now.length).map (mY fl p now s x)
theorem BT {n:Nat} {np p:Int} {v:Nat} (hv:v<n):∀(fl:List F8) (B:Int) (row:List Int),(∀f∈fl,f.ok n np)->lS B n row->lS (B+2097152*fl.length) n (gD fl p v row)
 |[],B,row,_,hb=>by simpa[gD] using hb
 |f::fl,B,row,h,hb=>by
  have hf:=h f (.head _)
  unfold F8.ok at hf
  have:lS (B+2097152) n (lT p v row f):=by
   unfold lT
   split
   ·split
    ·rename_i h1
     obtain⟨m,m1,m2,m3⟩:=hb.at (i:=(v:Int)) (by omega)
     unfold gE;rw[m2];exact hb.set _ (by omega) (by omega)
    ·split
     ·rename_i h1
      obtain⟨m,m1,m2,m3⟩:=hb.at (i:=(v:Int)) (by omega)
      have hb1:lS (B+1048576) n (gE row v f.amt):=by unfold gE;rw[m2];exact hb.set _ (by omega) (by omega)
      obtain⟨e,e1,e2,e3⟩:=hb1.at (i:=f.src) (by omega)
      unfold kS;rw[e2];exact hb1.set _ (by omega) (by omega)
     ·exact hb.mono (by omega)
   ·exact hb.mono (by omega)
  have:=BT (p:=p) hv fl (B+2097152) _ (λg hg=>h g (.tail _ hg)) this
  refine this.mono ?_
  rw[M2];omega
theorem UF {B:Int} {n:Nat} {now:List Int} (hb:lS B n now) (hB:0<=B) {v:Nat} (hv:v<n):lS B n (kU now v):=by
 have hl:=hb.len
 obtain⟨a,a1,a2,a3⟩:=hb.at (i:=(v:Int)) (by omega)
 unfold kU
 exact lS.set (B:=B) ⟨by rw[K9,hl],λx hx=>by rw[List.mem_replicate] at hx;omega⟩ v (by rw[show now.getD v 0=a from a2];exact a3) (M7 _)
theorem A5s {h:V8} {p:Int} {now:List Int} {v:Nat} (hok:h.ok) (hB:lS 1099511627776 h.op.length now) (hv:v<h.op.length):lS 2199023255552 h.op.length (lW h.fl p v now):=by
 have hb:=BT (p:=p) hv h.fl _ _ hok.fl (UF hB (by decide) hv)
 have:=hok.nf
 unfold lW
 split
 ·exact hb.set _ (by omega) (by omega)
 ·exact hb.mono (by omega)
theorem LK (h:V8) (p s:Int) (now:List Int) (x:List Rat) (hok:h.ok) (hB:lS 1099511627776 h.op.length now)
 (hR:∀v,v<h.op.length->lR h.fl p now v->C9 Tryz.prog 151 [.d (A5i h p s now x),.d (I v)] (E5 [rD (mY h.fl p now s x v)])):
 C9 Tryz.prog 107 [.d (A5i h p s now x)] (E5 [SL 1 (K1 (bD h.fl p now)),bF (fL h.fl p now s x)]):=by
 have hnv:=hok.nv
 have hl:=hB.len
 have m1:(now.map I).length=h.op.length:=by rw[A6,hl]
 have hN0:=bW 0 (by decide)
 refine pU Tryz.func107 ?_
 repeat' ((conv=>whnf);first|refine Nam.mk m1 ?_|refine sT ?_|refine sP ?_ ?_<;>intro _|fail)
 all_goals(conv=>whnf)
 refine L3.virt 2 0 1 false (by decide) rfl ?_
 conv=>whnf
 refine L3.virt 3 0 3 false (by decide) rfl ?_
 conv=>whnf
 refine lO (X:=Nat) (λv=>[(13,.d (I v)),(2,.sref 1 v 0 v false),(3,.sref 2 v 0 v false)]) (λv=>[(1,.row v 1 false (K1 ((bD h.fl p now).take v))),(2,.row v 3 false (((fL h.fl p now s x).take v).map rD))]) (λv=>v<=h.op.length) (λv=>h.op.length-v) 0 sam rfl (B9 _) ?_
 intro v hv
 by_cases hlt:v<h.op.length
 ·have hC:=wK h p s now x v hok hB hlt
  have hcb:=A5s (p:=p) hok hB hlt
  generalize hco:lW h.fl p v now=co at*
  have hcl:=hcb.len
  have m2:(co.map I).length=h.op.length:=by rw[A6,hcl]
  by_cases hnz:lR h.fl p now v
  ·rw[C2 (show(gD h.fl p v (kU now v)).getD v 0≠0 from hnz)] at hC
   repeat' ((conv=>whnf);first|refine Nam.mk m1 ?_|refine Nam.mk m2 ?_|refine sT ?_|refine sP ?_ ?_<;>intro _|refine cA hC ?_|fail)
   all_goals((conv=>whnf);try exact xO)
   refine lO (X:=Nat) (λj=>[(27,.d (I j))]) (λj=>[(3,.row 0 3 false ((cF (co.take j)).map rD++List.replicate (h.op.length-j) cE))]) (λj=>j<=h.op.length) (λj=>h.op.length-j) 0 sam rfl (B9 _) ?_
   intro j hj
   by_cases hjl:j<h.op.length
   ·obtain⟨c,hc⟩:∃c,co[j]? =some c:=⟨_,A3 (by omega)⟩
    have hcB:=hcb.b c (A7 hc)
    have hNc:=bW c (by omega)
    have htl:(co.take j).length=j:=by rw[D0];omega
    obtain⟨k,hk⟩:∃k,h.op.length-j=k+1:=⟨h.op.length-j-1,by omega⟩
    have q1:0+((j:Nat):Int).toNat<((cF (co.take j)).map rD++List.replicate (h.op.length-j) cE).length:=by simp[cF];omega
    have q2:((cF (co.take j)).map rD++List.replicate (h.op.length-j) cE).set (0+((j:Nat):Int).toNat) (rD c)=(cF (co.take (j+1))).map rD++List.replicate (h.op.length-(j+1)) cE:=by
     have hlj:((cF (co.take j)).map rD).length=j:=by unfold cF;rw[A6,A6,htl]
     rw[C1,B0,K8 _ _ (by omega),hlj,G2,hk,M1,E9,D1,hc,show h.op.length-(j+1)=k by omega]
     unfold cF;simp
    have g2:((cF (co.take j)).map rD++List.replicate (h.op.length-j) cE)[0+((j:Nat):Int).toNat]? =some cE:=by
     have hlj:((cF (co.take j)).map rD).length=j:=by unfold cF;rw[A6,A6,htl]
     rw[C1,B0,B3 (by omega),hlj,G2,hk,M1];rfl
    have g1:(co.map I)[((j:Nat):Int).toNat]? =some (I c):=by rw[B0,A8,hc];rfl
    repeat' ((conv=>whnf);first|refine Nam.mk m2 ?_|refine sT ?_|refine sP ?_ ?_<;>intro _|refine cA hNc ?_|refine A9 g1 ?_|refine A9 g2 ?_|refine J6 q1 q2 ?_|fail)
    all_goals(conv=>whnf)
    all_goals first|(exfalso;omega)|exact⟨j+1,wE,hjl,by omega⟩
   ·have hje:j=h.op.length:=by omega
    rw[hje,G2,lD,I3,show co.take h.op.length=co from C7 (by omega)]
    have hlr:((cF co).map rD).length=h.op.length:=by unfold cF;rw[A6,A6,hcl]
    have hnm:(((cF co).map rD).drop 0).take ((h.op.length:Nat):Int).toNat=(cF co).map rD:=whole (by rw[hlr];rfl)
    have ltA:(K1 ((bD h.fl p now).take v)).length=v:=by unfold K1 bD;rw[A6,D0,A6,M6];omega
    have ltB:(((fL h.fl p now s x).take v).map rD).length=v:=by unfold fL;rw[A6,D0,A6,M6];omega
    have kA:0+v=(K1 ((bD h.fl p now).take v)).length:=by omega
    have kB:0+v=(((fL h.fl p now s x).take v).map rD).length:=by omega
    have cR:v+1<=room:=by simp[room];omega
    have tA:K1 ((bD h.fl p now).take v)++[bF (cF co)]=K1 ((bD h.fl p now).take (v+1)):=by
     rw[D1];unfold bD;rw[A8,F2 (by omega)];unfold K1;rw[D2];simp[hco]
    have tB:((fL h.fl p now s x).take v).map rD++[rD (mY h.fl p now s x v)]=((fL h.fl p now s x).take (v+1)).map rD:=by
     rw[D1];unfold fL;rw[A8,F2 (by omega),D2];rfl
    have hRv:=hR v hlt hnz
    repeat' ((conv=>whnf);first|refine Nam.mk hnm ?_|refine sT ?_|refine sP ?_ ?_<;>intro _|refine cA hRv ?_|refine Chk.mk ⟨rfl,kA,cR⟩ ?_|refine Chk.mk ⟨rfl,kB,cR⟩ ?_|fail)
    all_goals((conv=>whnf);try exact xO)
    have e1:X1 (K1 ((bD h.fl p now).take v)) 0++[D.sl 3 false ((cF co).map rD)]=K1 ((bD h.fl p now).take (v+1)):=tA
    have e2:X1 (((fL h.fl p now s x).take v).map rD) 0++[rD (mY h.fl p now s x v)]=((fL h.fl p now s x).take (v+1)).map rD:=tB
    rw[e1,e2]
    exact⟨v+1,wE,hlt,by omega⟩
  ·rw[B6 (show ¬(gD h.fl p v (kU now v)).getD v 0≠0 from hnz)] at hC
   repeat' ((conv=>whnf);first|refine Nam.mk m1 ?_|refine Nam.mk m2 ?_|refine sT ?_|refine sP ?_ ?_<;>intro _|refine cA hC ?_|fail)
   all_goals((conv=>whnf);try exact xO)
   refine lO (X:=Nat) (λj=>[(27,.d (I j))]) (λj=>[(3,.row 0 3 false ((cF (co.take j)).map rD++List.replicate (h.op.length-j) cE))]) (λj=>j<=h.op.length) (λj=>h.op.length-j) 0 sam rfl (B9 _) ?_
   intro j hj
   by_cases hjl:j<h.op.length
   ·obtain⟨c,hc⟩:∃c,co[j]? =some c:=⟨_,A3 (by omega)⟩
    have hcB:=hcb.b c (A7 hc)
    have hNc:=bW c (by omega)
    have htl:(co.take j).length=j:=by rw[D0];omega
    obtain⟨k,hk⟩:∃k,h.op.length-j=k+1:=⟨h.op.length-j-1,by omega⟩
    have q1:0+((j:Nat):Int).toNat<((cF (co.take j)).map rD++List.replicate (h.op.length-j) cE).length:=by simp[cF];omega
    have q2:((cF (co.take j)).map rD++List.replicate (h.op.length-j) cE).set (0+((j:Nat):Int).toNat) (rD c)=(cF (co.take (j+1))).map rD++List.replicate (h.op.length-(j+1)) cE:=by
     have hlj:((cF (co.take j)).map rD).length=j:=by unfold cF;rw[A6,A6,htl]
     rw[C1,B0,K8 _ _ (by omega),hlj,G2,hk,M1,E9,D1,hc,show h.op.length-(j+1)=k by omega]
     unfold cF;simp
    have g2:((cF (co.take j)).map rD++List.replicate (h.op.length-j) cE)[0+((j:Nat):Int).toNat]? =some cE:=by
     have hlj:((cF (co.take j)).map rD).length=j:=by unfold cF;rw[A6,A6,htl]
     rw[C1,B0,B3 (by omega),hlj,G2,hk,M1];rfl
    have g1:(co.map I)[((j:Nat):Int).toNat]? =some (I c):=by rw[B0,A8,hc];rfl
    repeat' ((conv=>whnf);first|refine Nam.mk m2 ?_|refine sT ?_|refine sP ?_ ?_<;>intro _|refine cA hNc ?_|refine A9 g1 ?_|refine A9 g2 ?_|refine J6 q1 q2 ?_|fail)
    all_goals(conv=>whnf)
    all_goals first|(exfalso;omega)|exact⟨j+1,wE,hjl,by omega⟩
   ·have hje:j=h.op.length:=by omega
    rw[hje,G2,lD,I3,show co.take h.op.length=co from C7 (by omega)]
    have hlr:((cF co).map rD).length=h.op.length:=by unfold cF;rw[A6,A6,hcl]
    have hnm:(((cF co).map rD).drop 0).take ((h.op.length:Nat):Int).toNat=(cF co).map rD:=whole (by rw[hlr];rfl)
    have ltA:(K1 ((bD h.fl p now).take v)).length=v:=by unfold K1 bD;rw[A6,D0,A6,M6];omega
    have ltB:(((fL h.fl p now s x).take v).map rD).length=v:=by unfold fL;rw[A6,D0,A6,M6];omega
    have kA:0+v=(K1 ((bD h.fl p now).take v)).length:=by omega
    have kB:0+v=(((fL h.fl p now s x).take v).map rD).length:=by omega
    have cR:v+1<=room:=by simp[room];omega
    have tA:K1 ((bD h.fl p now).take v)++[bF (cF co)]=K1 ((bD h.fl p now).take (v+1)):=by
     rw[D1];unfold bD;rw[A8,F2 (by omega)];unfold K1;rw[D2];simp[hco]
    have tB:((fL h.fl p now s x).take v).map rD++[rD (mY h.fl p now s x v)]=((fL h.fl p now s x).take (v+1)).map rD:=by
     rw[D1];unfold fL;rw[A8,F2 (by omega),D2];rfl
    have hsz:mY h.fl p now s x v=((0:Int):Rat):=by unfold mY;rw[if_neg hnz];rfl
    rw[hsz] at tB
    repeat' ((conv=>whnf);first|refine Nam.mk hnm ?_|refine sT ?_|refine sP ?_ ?_<;>intro _|refine cA hN0 ?_|refine Chk.mk ⟨rfl,kA,cR⟩ ?_|refine Chk.mk ⟨rfl,kB,cR⟩ ?_|fail)
    all_goals((conv=>whnf);try exact xO)
    have e1:X1 (K1 ((bD h.fl p now).take v)) 0++[D.sl 3 false ((cF co).map rD)]=K1 ((bD h.fl p now).take (v+1)):=tA
    have e2:X1 (((fL h.fl p now s x).take v).map rD) 0++[rD ((0:Int):Rat)]=((fL h.fl p now s x).take (v+1)).map rD:=tB
    rw[e1,e2]
    exact⟨v+1,wE,hlt,by omega⟩
 ·have hve:v=h.op.length:=by omega
  have lA:(K1 (bD h.fl p now)).length=h.op.length:=by unfold K1 bD;rw[A6,A6,M6,hl]
  have lB:((fL h.fl p now s x).map rD).length=h.op.length:=by unfold fL;simp[hl]
  have lA':(bD h.fl p now).length=h.op.length:=by unfold bD;simp[hl]
  have lB':(fL h.fl p now s x).length=h.op.length:=by unfold fL;simp[hl]
  subst hve
  rw[C7 (by omega),C7 (by omega)]
  repeat' ((conv=>whnf);first|refine Nam.mk (whole lA.symm) ?_|refine Nam.mk (whole lB.symm) ?_|refine sT ?_|refine sP ?_ ?_<;>intro _|fail)
  all_goals exact fI
end Go.PM
namespace Go.PM
structure aJ (fl:List F8) (np p:Int) (now:List Int):Prop where
 n1:0<now.length
 n4:now.length<=4
 f64:fl.length<=64
 ok:∀f∈fl,f.ok now.length np
 b:∀x∈now,0<=x/\x<=2147483648
 can:uS fl p now
theorem A3r {l:List F8} {c c':F8->Bool} (h:∀f∈l,0<=f.amt) (hc:∀f,c f=true->c' f=true):dC l c<=dC l c':=by
 induction l with
 |nil=>exact M7 _
 |cons f l ih=>
  have h1:=h f (.head _)
  have h2:=ih λg hg=>h g (.tail _ hg)
  rw[dC,dC]
  by_cases e:c f=true
  ·rw[if_pos e,if_pos (hc f e)];omega
  ·rw[if_neg e];split<;>omega
theorem aJ.move {fl:List F8} {np p:Int} {now:List Int} (h:aJ fl np p now):vA now.length (mR fl p) (dR fl p now):=moveOk h.ok (λn hn=>(h.b n hn).1) h.can
theorem aJ.amt {fl:List F8} {np p:Int} {now:List Int} (h:aJ fl np p now):∀f∈fl,0<=f.amt/\f.amt<=1048576:=λf hf=>by have:=h.ok f hf;unfold F8.ok at this;omega
theorem aJ.at {fl:List F8} {np p:Int} {now:List Int} (h:aJ fl np p now) (v:Nat):0<=now.getD v 0/\now.getD v 0<=2147483648:=by
 rw[A5]
 cases hh:now[v]? with
 |none=>exact⟨M7 _,by decide⟩
 |some x=>exact h.b x (A7 hh)
theorem A8e {now:List Int} {v:Nat} (hv:v<now.length) (u:Nat):(kU now v).getD u 0=if u=v then now.getD v 0 else 0:=by
 unfold kU
 rw[A5,K5]
 by_cases h:u=v
 ·subst h;rw[if_pos rfl,if_pos (by simpa using hv),if_pos rfl];rfl
 ·rw[if_neg (λe=>h e.symm),if_neg h,J2];split<;>rfl
theorem aJ.tot_eq {fl:List F8} {np p:Int} {now:List Int} (h:aJ fl np p now) (v:Nat):tot now.length (mR fl p) (dR fl p now) v=((now.getD v 0+inI fl p v+toI fl p v:Int):Rat):=by
 unfold tot
 rw[show(λu=>mR fl p u v)=(λu=>(mvI fl p u v:Rat)) from rfl,YK p v fl h.ok]
 unfold dR
 rw[<-X3]
theorem aJ.coefF_get {fl:List F8} {np p:Int} {now:List Int} (h:aJ fl np p now) {v u:Nat} (hv:v<now.length) (hu:u<now.length):
 (gD fl p v (kU now v)).getD u 0=if u=v then now.getD v 0+inI fl p v+toI fl p v else-mvI fl p u v:=by
 rw[WS hv hu fl _ h.ok (by unfold kU;simp),A8e hv]
 by_cases e:u=v
 ·subst e
  have hs:=h.move.self u
  unfold mR at hs
  have:mvI fl p u u=0:=by
   have:((mvI fl p u u:Int):Rat)=((0:Int):Rat):=hs
   exact tI.1 this
  rw[if_pos rfl,if_pos rfl,if_pos rfl];omega
 ·rw[if_neg e,if_neg e,if_neg e];omega
theorem aJ.nz_iff {fl:List F8} {np p:Int} {now:List Int} (h:aJ fl np p now) {v:Nat} (hv:v<now.length):lR fl p now v↔tot now.length (mR fl p) (dR fl p now) v≠0:=by
 unfold lR
 rw[h.coefF_get hv hv,if_pos rfl,h.tot_eq]
 exact not_congr (tI (b:=0)).symm
theorem aJ.coef {fl:List F8} {np p:Int} {now:List Int} (h:aJ fl np p now) {v u:Nat} (hv:v<now.length) (hu:u<now.length):
 (((lW fl p v now).getD u 0:Int):Rat)=eqM now.length (mR fl p) (dR fl p now) v u:=by
 have hz:=h.nz_iff hv
 have hg:=h.coefF_get hv hu
 have hl:(gD fl p v (kU now v)).length=now.length:=by rw[BS];unfold kU;simp
 unfold lR at hz
 unfold lW eqM
 by_cases e:(gD fl p v (kU now v)).getD v 0=0
 ·have ht:tot now.length (mR fl p) (dR fl p now) v=0:=Decidable.byContradiction λhn=>hz.2 hn e
  rw[if_pos e,if_pos ht,A5,K5]
  by_cases huv:u=v
  ·subst huv;rw[if_pos rfl,if_pos (by omega),if_pos rfl];rfl
  ·rw[if_neg (λe=>huv e.symm),if_neg huv,<-A5,hg,if_neg huv]
   rw[h.coefF_get hv hv,if_pos rfl] at e
   have ha:∀f∈fl,0<=f.amt:=λf hf=>(h.amt f hf).1
   have h1:0<=inI fl p v:=U2 ha
   have h2:0<=toI fl p v:=U2 ha
   have h3:0<=mvI fl p u v:=U2 ha
   have h4:mvI fl p u v<=toI fl p v:=A3r ha λf hf=>by
    simp only[F3] at hf ⊢;exact⟨hf.1,hf.2.1,hf.2.2.2⟩
   have h5:=h.at v
   rw[show-mvI fl p u v=0 by omega];rfl
 ·have ht:=hz.1 e
  rw[if_neg e,if_neg ht,hg,h.tot_eq]
  by_cases huv:u=v
  ·rw[if_pos huv,if_pos huv]
  ·rw[if_neg huv,if_neg huv];unfold mR;rw[mN]
theorem qJ (fl:List F8) (p:Int) (v:Nat) (now:List Int):(lW fl p v now).length=now.length:=by
 have hl:(gD fl p v (kU now v)).length=now.length:=by rw[BS];unfold kU;simp
 unfold lW;split
 ·rw[L5,hl]
 ·exact hl
theorem hJ (fl:List F8) (p:Int) (now:List Int):Rows now.length now.length (bD fl p now):=
 ⟨by unfold bD;simp,λr hr=>by
   unfold bD at hr
   obtain⟨v,_,rfl⟩:=K4.1 hr
   unfold cF;rw[A6,qJ]⟩
theorem SE {fl:List F8} {p:Int} {now:List Int} {b:List Rat} {v:Nat} (hv:v<now.length):
 (fA (bD fl p now) b).getD v []=cF (lW fl p v now)++[b.getD v 0]++fG now.length v:=by
 have hA:(bD fl p now)[v]? =some (cF (lW fl p v now)):=by unfold bD;rw[A8,F2 hv];rfl
 rw[A5,XB hA,(hJ fl p now).len];rfl
theorem A8j {l:List Int} {u:Nat}:(cF l).getD u 0=((l.getD u 0:Int):Rat):=by
 unfold cF
 rw[A5,A5,A8]
 cases l[u]? <;>rfl
theorem zB (l:List Int):(cF l).length=l.length:=A6 _
theorem BN {fl:List F8} {np p:Int} {now:List Int} (h:aJ fl np p now) {b:List Rat} {v u:Nat} (hv:v<now.length) (hu:u<now.length):
 ent (fA (bD fl p now) b) v u=eqM now.length (mR fl p) (dR fl p now) v u:=by
 unfold ent
 rw[SE hv,D5,A5,B8 (by rw[zB,qJ];exact hu),<-A5,A8j,h.coef hv hu]
theorem OC {fl:List F8} {p:Int} {now:List Int} {b:List Rat} {v:Nat} (hv:v<now.length):ent (fA (bD fl p now) b) v now.length=b.getD v 0:=by
 unfold ent
 rw[SE hv,D5,A5,B3 (by rw[zB,qJ];exact B1 _),zB,qJ,G2];rfl
theorem B4c (n v k:Nat):IB 1 (((fG n v)[k]?).getD 0):=by
 unfold fG
 rw[A8]
 cases h:(List.range n)[k]? with
 |none=>exact⟨0,rfl,by decide⟩
 |some j=>
  show IB 1 (if j=v then 1 else 0)
  split
  ·exact⟨1,rfl,by decide⟩
  ·exact⟨0,rfl,by decide⟩
theorem A5j {fl:List F8} {p:Int} {now:List Int} {b:List Rat} {v u:Nat} (hv:v<now.length) (hu:now.length<u):IB 1 (ent (fA (bD fl p now) b) v u):=by
 unfold ent
 rw[SE hv,A5,B3 (by rw[B4,zB,qJ];exact hu)]
 exact B4c _ _ _
theorem A5k {fl:List F8} {p:Int} {now:List Int} {b:List Rat} {v u:Nat} (hv:now.length<=v):ent (fA (bD fl p now) b) v u=0:=by
 unfold ent
 have:(fA (bD fl p now) b).getD v []=[]:=by
  rw[A5,E0 (by unfold fA;rw[List.length_mapIdx,(hJ fl p now).len];exact hv)];rfl
 rw[this];rfl
theorem B3d {fl:List F8} {np p:Int} {now:List Int} (h:aJ fl np p now) {b:List Rat} {x:Nat->Rat}:
 Sat now.length now.length (ent (fA (bD fl p now) b)) x↔wW now.length (mR fl p) (dR fl p now) (λv=>b.getD v 0) x:=by
 unfold Sat wW
 refine forall_congr' λv=>forall_congr' λhv=> ?_
 rw[OC hv,M9 (λu hu=>by rw[BN h hv hu])]
theorem VQ {fl:List F8} {np p:Int} {now:List Int} (h:aJ fl np p now) {b:List Rat} {x:Nat->Rat} (hx:Hom now.length now.length (ent (fA (bD fl p now) b)) x):∀v,v<now.length->x v=0:=by
 refine GK h.move λv hv=> ?_
 have:=hx v hv
 rw[M9 (λu hu=>by rw[BN h hv hu])] at this
 exact this
theorem WT {fl:List F8} {np p:Int} {now:List Int} (h:aJ fl np p now) {v:Nat} (hv:v<now.length):lS 4294967296 now.length (lW fl p v now):=by
 have hb:=BT (p:=p) hv fl 2147483648 (kU now v) h.ok (UF ⟨rfl,λx hx=>by have:=h.b x hx;omega⟩ (by decide) hv)
 have:=h.f64
 unfold lW
 split
 ·exact hb.set _ (by omega) (by omega)
 ·exact hb.mono (by omega)
theorem B4d {fl:List F8} {np p:Int} {now:List Int} (h:aJ fl np p now) {v u:Nat} (hv:v<now.length):IB (2^32) (((lW fl p v now).getD u 0:Int):Rat):=by
 refine⟨_,rfl,?_⟩
 have hb:=WT h hv
 rw[A5]
 cases hh:(lW fl p v now)[u]? with
 |none=>exact B9 _
 |some x=>
  have:=hb.b x (A7 hh)
  show x.natAbs<=4294967296
  omega
theorem ZT {fl:List F8} {np p:Int} {now:List Int} (h:aJ fl np p now) {v u:Nat} (hv:v<now.length) (hu:u<now.length):IB (2^32) (eqM now.length (mR fl p) (dR fl p now) v u):=by
 rw[<-h.coef hv hu];exact B4d h hv
theorem aug_eb {fl:List F8} {np p:Int} {now:List Int} (h:aJ fl np p now) {b:List Rat} {Q:Nat} (hQ:∀v,v<now.length->IB (2^440) ((Q:Rat)*b.getD v 0)):
 EB now.length (qN now.length Q) (bN now.length 0) (2^aE 0) (2^eE 0) (ent (fA (bD fl p now) b)) 1:=by
 have one:((1:Nat):Rat)=1:=rfl
 refine⟨by decide,by decide,by decide,λc hc=>⟨by unfold qN;rw[if_neg (by omega)],by unfold bN;rw[if_pos hc];exact B1 _⟩,λi c=> ?_⟩
 by_cases hi:i<now.length
 ·unfold qN bN
  by_cases hc:c<now.length
  ·rw[if_pos hc,if_neg (Nat.ne_of_lt hc),one,BN h hi hc]
   rw[OV,OV];exact ZT h hi hc
  ·by_cases hcn:c=now.length
   ·subst hcn
    rw[if_pos rfl,if_neg (by omega),one,Rat.mul_one,OC hi];rw[show bE 0=440 from rfl];exact hQ i hi
   ·rw[if_neg hcn,if_neg hc,one,OV,OV]
    exact(A5j hi (by omega)).mono xI
 ·rw[A5k (by omega),FN]
  exact IB.zero.mono (B9 _)
theorem A6h {fl:List F8} {np p:Int} {now:List Int} (h:aJ fl np p now) {b:List Rat} {Q:Nat} (hQ0:0<Q) (hQl:Q<=2^400) (hQ:∀v,v<now.length->IB (2^440) ((Q:Rat)*b.getD v 0)):
 (∀j rows piv q,j<now.length->T4 (fA (bD fl p now) b) j rows piv->rI piv j rows=some q->CL (2^2048) q j (now.length+1+now.length) now.length rows)/\
 (∀j rows piv,j<now.length->T4 (fA (bD fl p now) b) j rows piv->∃q,rI piv j rows=some q):=by
 have hw:=AF (b:=b) (hJ fl p now)
 refine⟨λj rows piv q hj he hq=> ?_,λj rows piv hj he=>he.next (n:=now.length) hw hj λx hx=>VQ h hx j hj⟩
 obtain⟨d,hd⟩:=he.eb (n:=now.length) (Q:=Q) hw (by omega) (aug_eb h hQ)
 have h4:=h.n4
 exact A3v (k:=j) (by omega) hQ0 hQl hj hd (mS hq).2.2
theorem KH {fl:List F8} {np p:Int} {now:List Int} (h:aJ fl np p now) (b:List Rat):∃rows piv,T4 (fA (bD fl p now) b) now.length rows piv:=
 T4.exists (AF (b:=b) (hJ fl p now)) (λx hx j hj=>VQ h hx j hj) _ (B1 _)
theorem B4t {fl:List F8} {np p:Int} {now:List Int} (h:aJ fl np p now) {b:List Rat} {rows:List (List Rat)} {piv:List Nat} (he:T4 (fA (bD fl p now) b) now.length rows piv):
 wW now.length (mR fl p) (dR fl p now) (λv=>b.getD v 0) (λj=>(sV now.length rows piv).getD j 0):=by
 have hs:=(B3d h).1 (he.sol (AF (b:=b) (hJ fl p now)))
 intro v hv
 rw[<-hs v hv]
 refine M9 λu hu=> ?_
 congr 1
 show(sV now.length rows piv).getD u 0=ent rows (piv.getD u 0) now.length
 unfold sV
 rw[A5,A8,F2 hu];rfl
theorem TU {n:Nat} {f:Nat->Rat}:∀(m:Nat),n<=m->(∀u,n<=u->u<m->f u=0)->L8 m f=L8 n f
 |0,h,_=>by rw[show n=0 by omega]
 |m+1,h,hf=>by
  by_cases e:n=m+1
  ·rw[e]
  ·show L8 m f+f m=_
   rw[hf m (by omega) (by omega),TU m (by omega) (λu h1 h2=>hf u h1 (by omega)),Rat.add_zero]
def jR (n:Nat) (E:Nat->Nat->Rat) (v u:Nat):Rat:=if v<n then(if u<n then E v u else if u=4 then E v n else 0) else if u=v then 1 else 0
def A8t (n:Nat) (x:Nat->Rat) (u:Nat):Rat:=if u<n then x u else 0
theorem UT {n:Nat} {E:Nat->Nat->Rat} {x:Nat->Rat} {v:Nat} (hn:n<=4) (hv:v<n):L8 4 (λu=>jR n E v u*x u)=L8 n (λu=>E v u*x u):=by
 rw[TU 4 hn (λu h1 h2=>by unfold jR;rw[if_pos hv,if_neg (by omega),if_neg (by omega),Rat.zero_mul])]
 exact M9 λu hu=>by unfold jR;rw[if_pos hv,if_pos hu]
theorem NA {n:Nat} {E:Nat->Nat->Rat} {x:Nat->Rat} {v:Nat} (hv:¬v<n) (h4:v<4):L8 4 (λu=>jR n E v u*x u)=x v:=by
 rw[kO h4 (λu _ hne=>by unfold jR;rw[if_neg hv,if_neg hne,Rat.zero_mul])]
 unfold jR;rw[if_neg hv,if_pos rfl,OV]
theorem A8u {n:Nat} {E:Nat->Nat->Rat} {x:Nat->Rat} (hn:n<=4) (h:∀v,v<n->L8 n (λu=>E v u*x u)=E v n):Sat 4 4 (jR n E) (A8t n x):=by
 intro v hv
 by_cases hvn:v<n
 ·rw[UT hn hvn]
  have:jR n E v 4=E v n:=by unfold jR;rw[if_pos hvn,if_neg (by omega),if_pos rfl]
  rw[this,<-h v hvn]
  exact M9 λu hu=>by unfold A8t;rw[if_pos hu]
 ·rw[NA hvn hv]
  unfold A8t jR;rw[if_neg hvn,if_neg hvn,if_neg (by omega)]
def YY (n:Nat) (E:Nat->Nat->Rat):List (List Rat):=(List.range 4).map λv=>(List.range 5).map λu=>jR n E v u
theorem HN (n:Nat) (E:Nat->Nat->Rat):Wid 4 5 (YY n E):=⟨by unfold YY;simp,λr hr=>by
 unfold YY at hr
 obtain⟨v,_,rfl⟩:=K4.1 hr
 simp⟩
theorem US {n:Nat} {E:Nat->Nat->Rat} {v u:Nat} (hv:v<4) (hu:u<5):ent (YY n E) v u=jR n E v u:=by
 have e:(YY n E).getD v []=(List.range 5).map λu=>jR n E v u:=by
  unfold YY
  rw[A5,A8,F2 hv];rfl
 unfold ent
 rw[e]
 rw[A5,A8,F2 hu];rfl
theorem OE {M N:Nat->Nat->Rat} (h:∀v u,v<4->u<4->M v u=N v u):det4 M=det4 N:=by
 unfold det4 det3
 simp only[h _ _ (show 0<4 by decide) (show 0<4 by decide),h _ _ (show 0<4 by decide) (show 1<4 by decide),h _ _ (show 0<4 by decide) (show 2<4 by decide),h _ _ (show 0<4 by decide) (show 3<4 by decide),
  h _ _ (show 1<4 by decide) (show 0<4 by decide),h _ _ (show 1<4 by decide) (show 1<4 by decide),h _ _ (show 1<4 by decide) (show 2<4 by decide),h _ _ (show 1<4 by decide) (show 3<4 by decide),
  h _ _ (show 2<4 by decide) (show 0<4 by decide),h _ _ (show 2<4 by decide) (show 1<4 by decide),h _ _ (show 2<4 by decide) (show 2<4 by decide),h _ _ (show 2<4 by decide) (show 3<4 by decide),
  h _ _ (show 3<4 by decide) (show 0<4 by decide),h _ _ (show 3<4 by decide) (show 1<4 by decide),h _ _ (show 3<4 by decide) (show 2<4 by decide),h _ _ (show 3<4 by decide) (show 3<4 by decide)]
theorem B0r {w j:Nat} {rows0 rows:List (List Rat)} {piv:List Nat} (hw:Wid 4 w rows0) (h:T4 rows0 j rows piv) (hd:det4 (ent rows)≠0):det4 (ent rows0)≠0:=by
 induction h with
 |zero=>exact hd
 | @succ j rows piv q h hq ih=>
   have ho:=h.ok (n:=0) hw
   obtain⟨h1,h2,h3⟩:=mS hq
   rw[ho.wid.len] at h1
   rw[uO ho.wid h1] at hd
   refine ih ?_
   rw[<-A5p h1 h3]
   intro e
   rcases Rat.mul_eq_zero.1 e with e|e
   ·exact hd e
   ·exact h3 e
theorem det_ne {n:Nat} {E:Nat->Nat->Rat} (hn:n<=4) (hk:∀x:Nat->Rat,(∀v,v<n->L8 n (λu=>E v u*x u)=0)->∀v,v<n->x v=0):det4 (jR n E)≠0:=by
 rw[<-OE (M:=ent (YY n E)) (λv u hv hu=>US hv (by omega))]
 obtain⟨rows,piv,he⟩:=T4.exists (HN n E) (λx hx j hj=>by
  have hrow:∀v,v<4->L8 4 (λu=>jR n E v u*x u)=0:=λv hv=>by
   rw[<-hx v hv];exact M9 λu hu=>by rw[US hv (by omega)]
  by_cases hjn:j<n
  ·exact hk x (λv hv=>by rw[<-UT hn hv];exact hrow v (by omega)) j hjn
  ·have:=hrow j hj;rwa[NA hjn hj] at this) 4 (B1 _)
 exact B0r (HN n E) he (A5q (he.ok (n:=4) (HN n E)).clean)
def BO (n:Nat) (E:Nat->Nat->Rat):Nat:=(det4 (jR n E)).num.natAbs
theorem A2v {n:Nat} {E:Nat->Nat->Rat} (h:∀v u,v<n->u<n->IB (2^32) (E v u)):BO n E<=2^133/\(BO n E:Rat)=det4 (jR n E)∨BO n E<=2^133/\(BO n E:Rat)= -det4 (jR n E):=by
 have hi:IB (24*(2^32*2^32*2^32*2^32)) (det4 (jR n E)):=IB.det4 λv u hu=>by
  unfold jR
  split
  ·split
   ·rename_i h1 h2;exact h v u h1 h2
   ·rw[if_neg (by omega)];exact IB.zero.mono (B9 _)
  ·split
   ·exact⟨1,rfl,by decide⟩
   ·exact IB.zero.mono (B9 _)
 obtain⟨z,hz,hl⟩:=hi
 have hnum:(det4 (jR n E)).num=z:=by rw[hz];rfl
 unfold BO
 rw[hnum]
 have hle:z.natAbs<=2^133:=F5 hl (by decide)
 rcases Int.natAbs_eq z with h1|h1
 ·exact .inl ⟨hle,by rw[hz,<-P6,<-h1]⟩
 ·refine .inr ⟨hle,?_⟩
  rw[hz,<-P6,<-mN];congr 1;omega
theorem B0z {n:Nat} {E:Nat->Nat->Rat} (hn:n<=4) (hk:∀x:Nat->Rat,(∀v,v<n->L8 n (λu=>E v u*x u)=0)->∀v,v<n->x v=0):0<BO n E:=by
 have:=det_ne hn hk
 unfold BO
 have h2:(det4 (jR n E)).num≠0:=λe=>this (KW.1 e)
 omega
theorem B3a {n Q:Nat} {E:Nat->Nat->Rat} {x:Nat->Rat} (hn:n<=4) (h:∀v u,v<n->u<n->IB (2^32) (E v u)) (hb:∀v,v<n->∃z:Int,(Q:Rat)*E v n=(z:Rat))
 (hs:∀v,v<n->L8 n (λu=>E v u*x u)=E v n):∀v,v<n->∃z:Int,((Q*BO n E:Nat):Rat)*x v=(z:Rat):=by
 intro v hv
 obtain⟨z,hz⟩:=A0i (m:=2^32) (Q:=Q) (A8u hn hs) (λi c hc=>by
  unfold jR
  split
  ·split
   ·rename_i h1 h2;exact h i c h1 h2
   ·rw[if_neg (by omega)];exact IB.zero.mono (B9 _)
  ·split
   ·exact⟨1,rfl,by decide⟩
   ·exact IB.zero.mono (B9 _)) (λi=>by
  unfold jR
  by_cases hi:i<n
  ·rw[if_pos hi,if_neg (by omega),if_pos rfl];exact hb i hi
  ·rw[if_neg hi]
   split
   ·exact⟨Q,by rw[Rat.mul_one];rfl⟩
   ·exact⟨0,by rw[FN];rfl⟩) v (by omega)
 have hx:A8t n x v=x v:=by unfold A8t;rw[if_pos hv]
 rw[hx] at hz
 rcases A2v h with⟨_,e⟩|⟨_,e⟩
 ·exact⟨z,by rw[KX,e,<-hz];grind⟩
 ·exact⟨-z,by rw[KX,e,mN,<-hz];grind⟩
def zZ (rows0:List (List Rat)):Nat->List (List Rat)×List Nat
 |0=>(rows0,[])
 |j+1=>match rI (zZ rows0 j).2 j (zZ rows0 j).1 with
  |some p=>(jG p j (zZ rows0 j).1,(zZ rows0 j).2++[p])
  |none=>zZ rows0 j
theorem WM {rows0 rows:List (List Rat)} {j:Nat} {piv:List Nat} (h:T4 rows0 j rows piv):zZ rows0 j=(rows,piv):=by
 induction h with
 |zero=>rfl
 |succ h hp ih=>rw[zZ,ih];simp only[hp]
def YO (A:List (List Rat)) (b:List Rat):List Rat:=sV A.length (zZ (fA A b) A.length).1 (zZ (fA A b) A.length).2
def CV (fl:List F8) (p:Int) (now:List Int) (s:Int) (x:List Rat):List Rat:=YO (bD fl p now) (fL fl p now s x)
def W4 (h:V8) (p:Nat):List Int:=(h.op::W0 h).getD p []
def x0 (n:Nat) (s:Int):List Rat:=(List.range n).map λv:Nat=>if(v:Int)=s then 1 else 0
def xAt (h:V8) (s:Int):Nat->List Rat
 |0=>x0 h.op.length s
 |p+1=>CV h.fl p (W4 h p) s (xAt h s p)
def U3 (h:V8) (s:Int):List (List Rat):=(List.range h.per.toNat).map λp=>xAt h s (p+1)
def B0y (fl:List F8) (p:Int) (now:List Int):Nat:=BO now.length (eqM now.length (mR fl p) (dR fl p now))
def WO (h:V8):Nat->Nat
 |0=>1
 |p+1=>WO h p*B0y h.fl p (W4 h p)
structure XOk (n Q:Nat) (x:List Rat):Prop where
 len:x.length=n
 r:∀v,v<n->0<=x.getD v 0/\x.getD v 0<=1
 int:∀v,v<n->∃z:Int,(Q:Rat)*x.getD v 0=(z:Rat)
theorem A0h {n:Nat} {E F:Nat->Nat->Rat} (h:∀v u,v<n->u<n->E v u=F v u):BO n E=BO n F:=by
 unfold BO
 rw[OE (M:=jR n E) (N:=jR n F) λv u hv hu=>by
  unfold jR
  split
  ·split
   ·rename_i h1 h2;exact h v u h1 h2
   ·rw[if_neg (by omega),if_neg (by omega)]
  ·rfl]
theorem B2u {l:List F8} {c:F8->Bool} (h:∀f∈l,0<=f.amt) {f:F8} (hf:f∈l) (hc:c f=true):f.amt<=dC l c:=by
 induction l with
 |nil=>cases hf
 |cons g l ih=>
  have hg:=h g (.head _)
  have hn:=U2 (l:=l) (c:=c) λx hx=>h x (.tail _ hx)
  rw[dC]
  rcases J0.1 hf with rfl|hf
  ·rw[if_pos hc];omega
  ·have:=ih (λx hx=>h x (.tail _ hx)) hf
   split<;>omega
theorem inS_le {fl:List F8} {p s:Int} {v:Nat} (h:∀f∈fl,0<=f.amt):0<=inS fl p v s/\inS fl p v s<=inI fl p v:=by
 have h0:0<=inI fl p v:=U2 h
 unfold inS
 split
 ·rename_i f hf
  have hm:=A7 hf
  split
  ·rename_i hc
   exact⟨h f hm,B2u h hm (by simp only[F3];exact⟨hc.2.1,hc.2.2.1,hc.2.2.2⟩)⟩
  ·exact⟨M7 _,h0⟩
 ·exact⟨M7 _,h0⟩
theorem QK {a b:Int} (h:a<=b):(a:Rat)<=(b:Rat):=gK.2 h
theorem TP (fl:List F8) (p:Int) (now:List Int) (s:Int) (x:List Rat):(fL fl p now s x).length=now.length:=by unfold fL;simp
theorem TQ {fl:List F8} {p:Int} {now:List Int} {s:Int} {x:List Rat} {v:Nat} (hv:v<now.length):(fL fl p now s x).getD v 0=mY fl p now s x v:=by
 unfold fL;rw[A5,A8,F2 hv];rfl
theorem A1t {fl:List F8} {np p s:Int} {now:List Int} {Q:Nat} {x:List Rat} (h:aJ fl np p now) (hx:XOk now.length Q x) {v:Nat} (hv:v<now.length):
 IB (Q*2^32) ((Q:Rat)*mY fl p now s x v)/\0<=mY fl p now s x v/\(tot now.length (mR fl p) (dR fl p now) v=0->mY fl p now s x v=0)/\(tot now.length (mR fl p) (dR fl p now) v≠0->mY fl p now s x v<=dR fl p now v):=by
 have ha:∀f∈fl,0<=f.amt:=λf hf=>(h.amt f hf).1
 obtain⟨i0,i1⟩:=inS_le (p:=p) (s:=s) (v:=v) ha
 have hb:=h.at v
 have hi:inI fl p v<=1048576*64:=by
  have h1:=B2t (c:=λf=>decide (f.per=p/\f.kind=1/\f.dst=v)) h.amt (by decide)
  have h2:=h.f64
  unfold inI;omega
 obtain⟨r0,r1⟩:=hx.r v hv
 obtain⟨z,hz⟩:=hx.int v hv
 have hq0:(0:Rat)<=(Q:Rat):=Rat.natCast_nonneg
 have hz0:0<=z:=by
  have:((0:Int):Rat)<=(z:Rat):=by rw[<-hz];exact Rat.mul_nonneg hq0 r0
  exact gK.1 this
 have hz1:z<=Q:=by
  have:(z:Rat)<=((Q:Int):Rat):=by
   rw[<-hz,P6]
   have:=S6 r1 hq0
   rwa[Rat.mul_one] at this
  exact gK.1 this
 unfold mY
 by_cases hnz:lR fl p now v
 ·have ht:=(h.nz_iff hv).1 hnz
  rw[if_pos hnz]
  have hn0:(0:Rat)<=((now.getD v 0:Int):Rat):=QK hb.1
  refine⟨⟨now.getD v 0*z+Q*inS fl p v s,?_,?_⟩,?_,λh0=>absurd h0 ht,λ_=> ?_⟩
  ·rw[X3,T6,T6,<-hz,P6];grind
  ·have e1:0<=now.getD v 0*z:=PB hb.1 hz0
   have e2:now.getD v 0*z<=2147483648*Q:=aZ hb.2 hz1 hz0 (by decide)
   have e3:0<=(Q:Int)*inS fl p v s:=PB (by omega) i0
   have e4:(Q:Int)*inS fl p v s<=Q*67108864:=sU (by omega) (by omega)
   have e5:(Q*2^32:Nat)=Q*4294967296:=rfl
   rw[e5]
   omega
  ·have:=Rat.mul_nonneg hn0 r0
   have h2:(0:Rat)<=((inS fl p v s:Int):Rat):=QK i0
   grind
  ·unfold dR
   rw[X3]
   have h1:=S6 r1 hn0
   have h2:((inS fl p v s:Int):Rat)<=((inI fl p v:Int):Rat):=QK i1
   grind
 ·have ht:tot now.length (mR fl p) (dR fl p now) v=0:=Decidable.byContradiction λhn=>hnz ((h.nz_iff hv).2 hn)
  rw[if_neg hnz]
  exact⟨by rw[FN];exact IB.zero.mono (B9 _),OW,λ_=>rfl,λh1=>absurd ht h1⟩
theorem ML {fl:List F8} {np p s:Int} {now:List Int} {x:List Rat} (h:aJ fl np p now):
 (CV fl p now s x).length=now.length/\wW now.length (mR fl p) (dR fl p now) (mY fl p now s x) (λv=>(CV fl p now s x).getD v 0):=by
 obtain⟨rows,piv,he⟩:=KH h (fL fl p now s x)
 have e:CV fl p now s x=sV now.length rows piv:=by
  unfold CV YO
  rw[(hJ fl p now).len,WM he]
 rw[e]
 refine⟨by unfold sV;simp,λv hv=> ?_⟩
 rw[B4t h he v hv];exact TQ hv
theorem A7l {fl:List F8} {np p s:Int} {now:List Int} {Q:Nat} {x:List Rat} (h:aJ fl np p now) (hx:XOk now.length Q x):XOk now.length (Q*B0y fl p now) (CV fl p now s x):=by
 obtain⟨hl,hs⟩:=ML (s:=s) (x:=x) h
 have hB:=λv hv=>A1t (s:=s) h hx (v:=v) hv
 refine⟨hl,λv hv=>⟨?_,?_⟩,?_⟩
 ·have:=PX (c:=0) h.move (A1z hs) (λv hv ht=>by have:=(hB v hv).2.1;grind) (λv hv ht=>by have:=(hB v hv).2.1;grind) v hv
  grind
 ·exact PX (c:=1) h.move hs (λv hv ht=>by rw[(hB v hv).2.2.1 ht];decide) (λv hv ht=>by have:=(hB v hv).2.2.2 ht;grind) v hv
 ·let E:Nat->Nat->Rat:=λv u=>if u<now.length then eqM now.length (mR fl p) (dR fl p now) v u else mY fl p now s x v
  have hE:∀v u,u<now.length->E v u=eqM now.length (mR fl p) (dR fl p now) v u:=λv u hu=>by show(if _ then _ else _)=_;rw[if_pos hu]
  have hEn:∀v,E v now.length=mY fl p now s x v:=λv=>by show(if _ then _ else _)=_;rw[if_neg (by omega)]
  have hd:B0y fl p now=BO now.length E:=A0h λv u _ hu=>(hE v u hu).symm
  rw[hd]
  exact B3a (n:=now.length) (Q:=Q) (E:=E) h.n4 (λv u hv hu=>by rw[hE v u hu];exact ZT h hv hu) (λv hv=>by rw[hEn];obtain⟨z,hz,_⟩:=(hB v hv).1;exact⟨z,hz⟩)
   (λv hv=>by rw[hEn,<-hs v hv];exact M9 λu hu=>by rw[hE v u hu])
theorem B4k {fl:List F8} {np p:Int} {now:List Int} (h:aJ fl np p now):0<B0y fl p now/\B0y fl p now<=2^133:=by
 refine⟨B0z h.n4 (λx hx=>GK h.move hx),?_⟩
 rcases A2v (n:=now.length) (E:=eqM now.length (mR fl p) (dR fl p now)) (λv u hv hu=>ZT h hv hu) with h|h
 ·exact h.1
 ·exact h.1
structure HOk (h:V8):Prop where
 ok:h.ok
 n1:0<h.op.length
 n4:h.op.length<=4
 p3:h.per<=3
 e:jK h=0
theorem yV {fl:List F8}:∀(k:Nat) (q:Int) (now:List Int) (acc:List (List Int)),GU fl k q now=some acc->acc.length=k/\
 ∀i,i<k->uS fl (q+i) ((now::acc).getD i [])/\(now::acc).getD (i+1) []=P0 fl (q+i) ((now::acc).getD i [])
 |0,q,now,acc,h=>by
  have:acc=[]:=by rw[GU] at h;exact(T7 h).symm
  subst this
  exact⟨rfl,λi hi=>by omega⟩
 |k+1,q,now,acc,h=>by
  by_cases hc:uS fl q now
  ·rw[AZ hc] at h
   obtain⟨acc',h1,rfl⟩:=F0.1 h
   obtain⟨i1,i2⟩:=yV k (q+1) (P0 fl q now) acc' h1
   refine⟨by rw[M2,i1],λi hi=> ?_⟩
   cases i with
   |zero=>exact⟨by simpa using hc,by simp⟩
   |succ i=>
    have:=i2 i (by omega)
    have e:q+1+(i:Int)=q+((i+1:Nat):Int):=by omega
    rw[e] at this
    exact this
  ·rw[MQ hc] at h;cases h
theorem HOk.run {h:V8} (hh:HOk h):(W0 h).length=h.per.toNat/\∀i:Nat,i<h.per.toNat->uS h.fl i (W4 h i)/\W4 h (i+1)=P0 h.fl i (W4 h i):=by
 have hok:=hh.ok
 have he:=hh.e
 unfold jK at he
 rw[if_pos hok] at he
 have hs:(sQ h).isSome:=by
  cases hq:(sQ h).isSome with
  |true=>rfl
  |false=>rw[hq] at he;exact absurd he (by decide)
 obtain⟨acc,hacc⟩:=mA.1 hs
 have hT:W0 h=acc:=by unfold W0;rw[if_pos hok,hacc];rfl
 obtain⟨h1,h2⟩:=yV _ _ _ _ hacc
 unfold W4
 rw[hT]
 refine⟨h1,λi hi=> ?_⟩
 have:=h2 i hi
 rw[Int.zero_add] at this
 exact this
theorem HOk.now {h:V8} (hh:HOk h):∀i:Nat,i<=h.per.toNat->(W4 h i).length=h.op.length/\∀x∈W4 h i,0<=x/\x<=1048576*(1+64*i)
 |0,_=>⟨rfl,λx hx=>by have:=hh.ok.op x hx;simp;omega⟩
 |i+1,hi=>by
  obtain⟨l,b⟩:=hh.now i (by omega)
  obtain⟨c,e⟩:=hh.run.2 i (by omega)
  have hf:=hh.ok.nf
  rw[e]
  refine⟨by rw[cD,l],λx hx=> ?_⟩
  have h1:=c.1 x hx
  have h2:=CE h.fl (p:=i) (l:=W4 h i) (B:=1048576*(1+64*(i:Int))) (by omega) (λn hn=>(b n hn).2) (λf hf=>by have:=hh.ok.fl f hf;unfold F8.ok at this;omega) x hx
  omega
theorem HOk.per {h:V8} (hh:HOk h) {i:Nat} (hi:i<h.per.toNat):aJ h.fl h.per i (W4 h i):=by
 obtain⟨l,b⟩:=hh.now i (by omega)
 have:=hh.p3
 exact⟨by rw[l];exact hh.n1,by rw[l];exact hh.n4,hh.ok.nf,by rw[l];exact hh.ok.fl,λx hx=>by have:=b x hx;omega,(hh.run.2 i hi).1⟩
theorem x0_ok (n:Nat) (s:Int):XOk n 1 (x0 n s):=by
 have hg:∀v,v<n->(x0 n s).getD v 0=if(v:Int)=s then 1 else 0:=λv hv=>by
  unfold x0;rw[A5,A8,F2 hv];rfl
 refine⟨by unfold x0;simp,λv hv=> ?_,λv hv=> ?_⟩
 ·rw[hg v hv];split<;>decide
 ·rw[hg v hv];split
  ·exact⟨1,by decide+kernel⟩
  ·exact⟨0,by decide+kernel⟩
theorem HOk.x {h:V8} (hh:HOk h) (s:Int):∀p:Nat,p<=h.per.toNat->XOk h.op.length (WO h p) (xAt h s p)/\0<WO h p/\WO h p<=2^(133*p)
 |0,_=>⟨x0_ok _ s,Nat.one_pos,B1 _⟩
 |p+1,hp=>by
  obtain⟨i1,i2,i3⟩:=hh.x s p (by omega)
  have hP:=hh.per (i:=p) (by omega)
  have hl:=(hh.now p (by omega)).1
  obtain⟨d1,d2⟩:=B4k hP
  refine⟨?_,aV i2 d1,?_⟩
  ·rw[<-hl] at i1 ⊢
   exact A7l hP i1
  ·have:=G6 i3 d2
   rw[<-H2] at this
   exact this
theorem RU {h:V8} (hh:HOk h) {p:Nat} (hp:p<=h.per.toNat):WO h p<=2^399:=by
 have h1:=(hh.x 0 p hp).2.2
 have h2:=hh.p3
 exact F5 h1 (pwr (i:=133*p) (j:=399) (by omega))
end Go.PM
namespace Go.PM
open Go.Proofs
theorem GO (h:V8) (hh:HOk h):C9 Tryz.prog 102 [.d h.d] (E5 [tabD (h.op::W0 h)]):=by
 have hok:=hh.ok
 have hw:B4z h:=⟨by have:=hok.nv;omega,by have:=hok.nf;omega⟩
 have hA:=pG h hw
 rw[hh.e] at hA
 have hl:=hh.run.1
 have hp:=hh.p3
 have hp0:=hok.np
 by_cases hz:W0 h=[]
 ·have ck:([]:List (List Int)).map jP=[]:=rfl
  rw[hz] at hA ⊢
  refine pU Tryz.func102 ?_
  repeat' ((conv=>whnf);first|refine MB.r (Chk.mk (by assumption) ?_)|refine sT ?_|refine sP ?_ ?_<;>intro _|refine cA hA ?_|refine cA iP ?_|fail)
  all_goals(conv=>whnf)
  all_goals first|exact DLe.full _ _ _
 ·have ck:([SL 1 (h.op.map I)]=[]∨(W0 h).map jP≠[])/\[SL 1 (h.op.map I)].length+((W0 h).map jP).length<=room:=
   ⟨.inr (λe=>hz (List.map_eq_nil_iff.1 e)),by rw[A6,hl];simp[room];omega⟩
  have hn:(([SL 1 (h.op.map I)]++(W0 h).map jP).drop 0).take ([SL 1 (h.op.map I)].length+((W0 h).map jP).length)=(h.op::W0 h).map jP:=whole (by simp;omega)
  refine pU Tryz.func102 ?_
  repeat' ((conv=>whnf);first|refine Chk.mk ck ?_|refine sT ?_|refine sP ?_ ?_<;>intro _|refine cA hA ?_|refine cA iP ?_|refine Nam.mk hn ?_|fail)
  all_goals exact fJ
theorem uH {a:Nat} (h:a<=2^1000):lim a:=I4 h (pwl (i:=1000) (j:=2048) (by decide))
theorem FC {N D:Nat} {q:Rat} (h:QB N D q) (hN:N<=2^1000) (hD:D<=2^1000):Z9 q:=⟨uH (F5 h.1 hN),uH (F5 h.2 hD)⟩
theorem YU {N:Nat} {a:Int} (h:a.natAbs<=N):QB N 1 (a:Rat):=⟨h,B1 _⟩
theorem XOk.ib {n Q:Nat} {x:List Rat} (h:XOk n Q x) {v:Nat} (hv:v<n):IB Q ((Q:Rat)*x.getD v 0):=by
 obtain⟨r0,r1⟩:=h.r v hv
 obtain⟨z,hz⟩:=h.int v hv
 have hq0:(0:Rat)<=(Q:Rat):=Rat.natCast_nonneg
 have hz0:0<=z:=by
  have:((0:Int):Rat)<=(z:Rat):=by rw[<-hz];exact Rat.mul_nonneg hq0 r0
  exact gK.1 this
 have hz1:z<=Q:=by
  have:(z:Rat)<=((Q:Int):Rat):=by
   rw[<-hz,P6]
   have:=S6 r1 hq0
   rwa[Rat.mul_one] at this
  exact gK.1 this
 exact⟨z,hz,by omega⟩
theorem HJ {Q a b:Nat} (h:Q<=2^a) (hab:a+b<=1000):Q*2^b<=2^1000:=by
 have:=D6 (2^b) h
 rw[<-H2] at this
 exact F5 this (pwr (i:=a+b) (j:=1000) hab)
theorem A8o {x y a b c:Nat} (h1:x<=2^a) (h2:y<=2^b) (h:a+b<=c):x*y<=2^c:=by
 have:=G6 h1 h2
 rw[<-H2] at this
 exact F5 this (pwr (i:=a+b) (j:=c) h)
theorem padd {x y a b c:Nat} (h1:x<=2^a) (h2:y<=2^b) (hb:b<=a) (hc:a+1<=c):x+y<=2^c:=by
 have:=Nat.add_le_add h1 (F5 h2 (pwr (i:=b) (j:=a) hb))
 rw[<-Nat.two_mul,<-Nat.pow_succ'] at this
 exact F5 this (pwr (i:=a+1) (j:=c) hc)
theorem YV {Q a:Nat} (h:Q<=2^a) (ha:a<=1000):Q<=2^1000:=F5 h (pwr (i:=a) (j:=1000) ha)
theorem A8g (h:V8) (hok:h.ok) (p s:Int) (now:List Int) (x:List Rat) (Q:Nat) (hl:now.length=h.op.length) (hP:aJ h.fl h.per p now) (hX:XOk now.length Q x) (hQ0:0<Q) (hQ:Q<=2^399) (hs:0<=s/\s<4096) (v:Nat) (hv:v<h.op.length) (hnz:lR h.fl p now v):
 C9 Tryz.prog 151 [.d (A5i h p s now x),.d (I v)] (E5 [rD (mY h.fl p now s x v)]):=by
 have hvn:v<now.length:=by omega
 have hxl:=hX.len
 have hb:=hP.at v
 have ha:∀f∈h.fl,0<=f.amt:=λf hf=>(hP.amt f hf).1
 have hin:=RA (p:=p) (v:=v) (s:=s) (i:=h.fl.length) hok.fl
 rw[IZ] at hin
 have ha1:now[v]? =some (now.getD v 0):=by rw[A5,A3 hvn];rfl
 have hx1:x[v]? =some (x.getD v 0):=by rw[A5,A3 (by omega)];rfl
 have q1:QB Q Q (x.getD v 0):=MW hQ0 (hX.ib hvn)
 have q2:QB (2^32) 1 ((now.getD v 0:Int):Rat):=YU (by have:(2^32:Nat)=4294967296:=rfl;omega)
 have q3:QB (2^32) 1 ((inS h.fl p v s:Int):Rat):=YU (by have:(2^32:Nat)=4294967296:=rfl;omega)
 have q4:QB (2^32*Q) (1*Q) (((now.getD v 0:Int):Rat)*x.getD v 0):=A8k q2 q1
 rw[C6,V4] at q4
 have b1:Q*2^32<=2^1000:=HJ hQ (by decide)
 have b3:Q*2^33<=2^1000:=HJ hQ (by decide)
 have b2:Q<=2^1000:=YV hQ (by decide)
 have b4:(2^32:Nat)<=2^1000:=pwr (i:=32) (j:=1000) (by decide)
 have b5:(1:Nat)<=2^1000:=xI (n:=1000)
 have r:=PZ h p s now x v (now.getD v 0) (x.getD v 0) hok hv hs ha1 hx1 (by omega) (FC q1 b2 b2)
  (uH (F5 (by rw[C6 Q];exact G6 q2.1 q1.1) b1))
  (uH (F5 (G6 q2.2 q1.2) (by rw[V4];exact b2)))
  (uH (F5 (Nat.add_le_add (G6 q4.1 q3.2) (G6 q3.1 q4.2)) (by
    rw[L2,C6 (2^32) Q]
    have:Q*2^33=Q*2^32+Q*2^32:=by rw[U8,<-I2];omega
    rw[<-this];exact b3)))
  (uH (F5 (G6 q4.2 q3.2) (by rw[L2];exact b2)))
  (FC q2 b4 b5)
 unfold mY
 rw[if_pos hnz]
 exact r
theorem A3p (h:V8) (hh:HOk h) (s:Int) (hs:0<=s/\s<4096) (p:Nat) (hp:p<h.per.toNat):
 C9 Tryz.prog 107 [.d (A5i h p s (W4 h p) (xAt h s p))] (E5 [SL 1 (K1 (bD h.fl p (W4 h p))),bF (fL h.fl p (W4 h p) s (xAt h s p))]):=by
 have hP:=hh.per hp
 obtain⟨hl,hb⟩:=hh.now p (by omega)
 obtain⟨x1,x2,x3⟩:=hh.x s p (by omega)
 have hQ:=RU hh (p:=p) (by omega)
 rw[<-hl] at x1
 exact LK h p s (W4 h p) (xAt h s p) hh.ok ⟨hl,λy hy=>by have:=hP.b y hy;omega⟩ λv hv hnz=>A8g h hh.ok p s (W4 h p) (xAt h s p) (WO h p) hl hP x1 x2 hQ hs v hv hnz
theorem A8i {fl:List F8} {np p:Int} {now:List Int} (h:aJ fl np p now):∀r∈bD fl p now,∀q∈r,Z9 q:=λr hr q hq=>by
 unfold bD at hr
 obtain⟨v,hv,rfl⟩:=K4.1 hr
 unfold cF at hq
 obtain⟨c,hc,rfl⟩:=K4.1 hq
 have:=(WT h (K2.1 hv)).b c hc
 exact FC (YU (N:=2^32) (by have:(2^32:Nat)=4294967296:=rfl;omega)) (pwr (i:=32) (j:=1000) (by decide)) (xI (n:=1000))
theorem A7t (h:V8) (hh:HOk h) (s:Int) (p:Nat) (hp:p<h.per.toNat):
 C9 Tryz.prog 108 [.d (SL 1 (K1 (bD h.fl p (W4 h p)))),.d (bF (fL h.fl p (W4 h p) s (xAt h s p)))] (E5 [I 1,bF (xAt h s (p+1)),.sl 0 true [],I 0]):=by
 have hP:=hh.per hp
 obtain⟨hl,hb⟩:=hh.now p (by omega)
 obtain⟨x1,x2,x3⟩:=hh.x s p (by omega)
 have hQ:=RU hh (p:=p) (by omega)
 rw[<-hl] at x1
 have hr:=λv hv=>(A1t (s:=s) hP x1 (v:=v) hv).1
 have hIB:∀v,v<(W4 h p).length->IB (2^440) ((WO h p:Rat)*(fL h.fl p (W4 h p) s (xAt h s p)).getD v 0):=λv hv=>by
  rw[TQ hv]
  exact(hr v hv).mono (A8o (a:=399) (b:=32) (c:=440) hQ (B1 _) (by decide))
 obtain⟨hst,hnx⟩:=A6h hP x2 (F5 hQ (pwr (i:=399) (j:=400) (by decide))) hIB
 obtain⟨rows,piv,he⟩:=KH hP (fL h.fl p (W4 h p) s (xAt h s p))
 have e:xAt h s (p+1)=sV (W4 h p).length rows piv:=by
  show CV h.fl p (W4 h p) s (xAt h s p)=_
  unfold CV YO
  rw[(hJ h.fl p (W4 h p)).len,WM he]
 rw[e]
 exact IH (W4 h p).length 0 _ _ (hJ h.fl p (W4 h p)) hP.n1 (by have:=hP.n4;omega) (TP _ _ _ _ _) (A8i hP) (λq hq=>by
  obtain⟨v,hv⟩:=D9.1 hq
  have hvl:v<(W4 h p).length:=by have:=(A4.1 hv).1;rwa[TP] at this
  have hg:(fL h.fl p (W4 h p) s (xAt h s p)).getD v 0=q:=by rw[A5,hv];rfl
  have h1:=hIB v hvl
  rw[hg] at h1
  exact FC (MW x2 h1) (pwr (i:=440) (j:=1000) (by decide)) (YV hQ (by decide))) rows piv hst hnx he false
theorem x0_get {n v:Nat} {s:Int} (hv:v<n):(x0 n s)[v]? =some (if(v:Int)=s then 1 else 0):=by
 unfold x0;rw[A8,F2 hv];rfl
def nT (n i:Nat) (s:Int):List D:=((x0 n s).take i).map rD++List.replicate (n-i) cE
theorem dL {n i:Nat} {s:Int} (hi:i<n):(((x0 n s).take i).map rD).length=i:=by
 rw[A6,D0];unfold x0;rw[A6,M6];omega
theorem A5d {n i:Nat} {s:Int} (hi:i<n):(nT n i s)[0+((i:Nat):Int).toNat]? =some cE:=by
 obtain⟨k,hk⟩:∃k,n-i=k+1:=⟨n-i-1,by omega⟩
 unfold nT
 rw[C1,B0,B3 (by rw[dL hi];exact B1 _),dL hi,G2,hk,M1];rfl
theorem OB {n i:Nat} {s:Int} (hi:i<n) (y:D):(nT n i s).set (0+((i:Nat):Int).toNat) y=((x0 n s).take i).map rD++y::List.replicate (n-(i+1)) cE:=by
 obtain⟨k,hk⟩:∃k,n-i=k+1:=⟨n-i-1,by omega⟩
 unfold nT
 rw[C1,B0,K8 _ _ (by rw[dL hi];exact B1 _),dL hi,G2,hk,M1,E9,show n-(i+1)=k by omega]
theorem WA {n i:Nat} {s:Int} (hi:i<n):0+((i:Nat):Int).toNat<(nT n i s).length:=by
 unfold nT;rw[B4,dL hi,K9];omega
theorem JO {n i:Nat} {s:Int} (hi:i<n) {q:Rat} (hq:(if(i:Int)=s then 1 else 0)=q):((x0 n s).take i).map rD++rD q::List.replicate (n-(i+1)) cE=nT n (i+1) s:=by
 unfold nT
 rw[D1,x0_get hi,hq,D2,D5];rfl
theorem A5e (n:Nat) (s:Int):nT n n s=(x0 n s).map rD:=by
 unfold nT;rw[G2,C7 (by unfold x0;simp)];simp
theorem PY (h:V8) (hh:HOk h) (s:Int) (hs:s∈EE h) (hsr:0<=s/\s<4096):C9 Tryz.prog 63 [.d h.d,.d (I s)] (E5 [SL 1 (K1 (U3 h s))]):=by
 have hok:=hh.ok
 have hnv:=hok.nv
 have hnf:=hok.nf
 have hp3:=hh.p3
 have hn4:=hh.n4
 have hA:=GO h hh
 have hS:=GM h (by omega) (by omega)
 have hlen:(EE h).length<2^40:=by
  unfold EE sM A9y
  have e1:=L0 (λi=>decide (0<h.op.getD i 0)) (List.range h.op.length)
  have e2:=L0 (λi=>decide ((h.fl.getD i ⟨0,0,0,0,0,0⟩).kind=1)) (List.range h.fl.length)
  rw[M6] at e1 e2
  rw[B4,A6,A6];omega
 have hC:=AX (EE h) s false hlen
 rw[C2 hs] at hC
 have hN0:=bW 0 (by decide)
 have hN1:=bW 1 (by decide)
 have m1:(h.op.map I).length=h.op.length:=A6 _
 refine pU Tryz.func63 ?_
 repeat' ((conv=>whnf);first|refine Nam.mk m1 ?_|refine sT ?_|refine sP ?_ ?_<;>intro _|refine cA hA ?_|refine cA hS ?_|refine cA hC ?_|refine cA EF ?_|fail)
 all_goals(conv=>whnf)
 refine lO (X:=Nat) (λi=>[(28,.d (I i))]) (λi=>[(1,.row 0 3 false (nT h.op.length i s))]) (λi=>i<=h.op.length) (λi=>h.op.length-i) 0 sam rfl (B9 _) ?_
 intro i hi
 by_cases hlt:i<h.op.length
 ·have g1:=A5d (s:=s) hlt
  by_cases his:(i:Int)=s
  ·have q2:(nT h.op.length i s).set (0+((i:Nat):Int).toNat) (rD ((0:Int):Rat))=((x0 h.op.length s).take i).map rD++rD ((0:Int):Rat)::List.replicate (h.op.length-(i+1)) cE:=OB hlt _
   have g2:(((x0 h.op.length s).take i).map rD++rD ((0:Int):Rat)::List.replicate (h.op.length-(i+1)) cE)[0+((i:Nat):Int).toNat]? =some (rD ((0:Int):Rat)):=by
    rw[C1,B0,B3 (by rw[dL hlt];exact B1 _),dL hlt,G2];rfl
   have q3:0+((i:Nat):Int).toNat<(((x0 h.op.length s).take i).map rD++rD ((0:Int):Rat)::List.replicate (h.op.length-(i+1)) cE).length:=by
    rw[B4,dL hlt,M2];omega
   have q4:(((x0 h.op.length s).take i).map rD++rD ((0:Int):Rat)::List.replicate (h.op.length-(i+1)) cE).set (0+((i:Nat):Int).toNat) (rD ((1:Int):Rat))=nT h.op.length (i+1) s:=by
    rw[C1,B0,K8 _ _ (by rw[dL hlt];exact B1 _),dL hlt,G2,E9]
    exact JO hlt (by rw[if_pos his];rfl)
   repeat' ((conv=>whnf);first|refine sT ?_|refine sP ?_ ?_<;>intro _|refine cA hN0 ?_|refine cA hN1 ?_|refine A9 g1 ?_|refine J6 (WA hlt) q2 ?_|refine A9 g2 ?_|refine J6 q3 q4 ?_|fail)
   all_goals(conv=>whnf)
   all_goals first|(exfalso;omega)|exact⟨i+1,wE,hlt,by omega⟩
  ·have q2:(nT h.op.length i s).set (0+((i:Nat):Int).toNat) (rD ((0:Int):Rat))=nT h.op.length (i+1) s:=by
    rw[OB hlt];exact JO hlt (by rw[if_neg his];rfl)
   repeat' ((conv=>whnf);first|refine sT ?_|refine sP ?_ ?_<;>intro _|refine cA hN0 ?_|refine A9 g1 ?_|refine J6 (WA hlt) q2 ?_|fail)
   all_goals(conv=>whnf)
   all_goals first|(exfalso;omega)|exact⟨i+1,wE,hlt,by omega⟩
 ·have hie:i=h.op.length:=by omega
  rw[hie,A5e]
  have lx:((x0 h.op.length s).map rD).length=h.op.length:=by rw[A6];unfold x0;simp
  repeat' ((conv=>whnf);first|refine sT ?_|refine sP ?_ ?_<;>intro _|fail)
  all_goals((conv=>whnf);try exact xO)
  refine L3.weak (Wk.liftTo (t:=6) (m:=1) ((x0 h.op.length s).map rD) rfl rfl (by rw[lx];simp) (whole (by rw[lx];rfl))) ?_
  refine L3.virt 4 0 1 false (by decide) rfl ?_
  conv=>whnf
  have hrun:=hh.run.1
  have hnp:(U3 h s).length=h.per.toNat:=by unfold U3;simp
  refine lO (X:=Nat) (λp=>[(45,.d (I p)),(4,.sref 2 p 0 p false),(6,.d (bF (xAt h s p)))]) (λp=>[(2,.row p 1 false (K1 ((U3 h s).take p)))]) (λp=>p<=h.per.toNat) (λp=>h.per.toNat-p) 0 sam rfl (B9 _) ?_
  intro p hp
  by_cases hpl:p<h.per.toNat
  ·have hSy:=A3p h hh s hsr p hpl
   have hSo:=A7t h hh s p hpl
   have g1:((h.op::W0 h).map jP)[((p:Nat):Int).toNat]? =some (jP (W4 h p)):=by
    rw[B0,A8,W4,A5,A3 (by rw[M2];omega)];rfl
   have kA:0+p=(K1 ((U3 h s).take p)).length:=by unfold K1;rw[A6,D0];omega
   have cR:p+1<=room:=by simp[room];omega
   have tA:K1 ((U3 h s).take p)++[bF (xAt h s (p+1))]=K1 ((U3 h s).take (p+1)):=by
    rw[D1];unfold U3;rw[A8,F2 hpl];unfold K1;rw[D2];rfl
   repeat' ((conv=>whnf);first|refine sT ?_|refine sP ?_ ?_<;>intro _|refine A9 g1 ?_|refine cA hSo ?_|refine cA hSy ?_|refine H6.of hSy ?_|refine cA iP ?_|refine Chk.mk ⟨rfl,kA,cR⟩ ?_|fail)
   all_goals((conv=>whnf);try exact xO)
   have e1:X1 (K1 ((U3 h s).take p)) 0++[bF (xAt h s (p+1))]=K1 ((U3 h s).take (p+1)):=tA
   rw[e1]
   exact⟨p+1,wE,hpl,by omega⟩
  ·have hpe:p=h.per.toNat:=by omega
   have lM:(K1 (U3 h s)).length=h.per.toNat:=by unfold K1;rw[A6,hnp]
   rw[hpe,show(U3 h s).take h.per.toNat=U3 h s from C7 (by omega)]
   repeat' ((conv=>whnf);first|refine Nam.mk (whole lM.symm) ?_|refine sT ?_|refine sP ?_ ?_<;>intro _|fail)
   all_goals exact fI
section
variable [CN] {P:Program}
theorem M4.trim {f:FuncId} {args:List V} {H:Hp} {r:List D} {k0:Hp->Prop} (hc:M4 P f args H λv h=>bL v h λds h'=>VLe (nG v ds) (E5 r)/\(h'.take H.length).all (okB H.length)=true/\k0 (h'.take H.length)):
 M4 P f args H λv h'=>v=E5 r/\h'.length=H.length/\h'.all (okB H.length)=true/\k0 h':=by
 intro w S β argv hr hv
 have hc:=hc w S β argv hr hv
 have key:∀(cv:Value) (w':World),(∃v h' S' β',(bL v h' λds h'=>VLe (nG v ds) (E5 r)/\(h'.take H.length).all (okB H.length)=true/\k0 (h'.take H.length))/\HR w' S' h' β'/\VR w' S' h' β' v cv/\F7 w S H β w' S' h' β')->
  ∃v h' S' β',(v=E5 r/\h'.length=H.length/\h'.all (okB H.length)=true/\k0 h')/\HR w' S' h' β'/\VR w' S' h' β' v cv/\F7 w S H β w' S' h' β':=λcv w' ⟨v,h',S',β',hk,hr',hv',hE'⟩=>by
  obtain⟨ds,h2,⟨hd,ho,ht⟩,hh⟩:=iV hk
  obtain⟨S2,r2,e2,d2⟩:=hh w' S' β' cv hr' hv'
  have hle:H.length<=h2.length:=(hE'.trans e2).len
  have r3:=r2.drop (n:=H.length) (C5.2 λb hb=>dQ (C5.1 ho b hb))
  have e3:=(hE'.trans e2).drop (n:=H.length) (B1 _) r2.len
  exact⟨E5 r,h2.take H.length,S2,_,⟨rfl,by rw[D0];omega,ho,ht⟩,r3,hd.vr (d2 _ _),e3⟩
 rcases hc with⟨h1,h2⟩|⟨v,w',h1,h2⟩
 ·exact .inl ⟨h1,λcs=>by
   obtain⟨e,w',fr,⟨v,he,hk⟩,r⟩:=h2 cs
   exact⟨e,w',fr,⟨v,he,key v w' hk⟩,r⟩⟩
 ·exact .inr ⟨v,w',h1,key v w' h2⟩
end
theorem GN (h:V8) (hh:HOk h) (s:Int) (hs:s∈EE h) (hsr:0<=s/\s<4096):
 let H:Hp:=[.vard h.d.cells,.vard [I s],.vard [.sl 0 true []]]
 M4 Tryz.prog 61 [.fn 62 [.ptr 0 0 0 0,.ptr 1 0 0 0,.ptr 2 0 0 0]] H λv h'=>v=E5 [I 0]/\h'.length=H.length/\h'.all (okB H.length)=true/\h'=[.vard h.d.cells,.vard [I s],.vard [SL 1 (K1 (U3 h s))]]:=by
 intro H
 have hS:=PY h hh s hs hsr
 refine M4.trim (Z3 (T:=tt) T5 Tryz.func61 (by rfl) rfl (B5 rfl) ?_)
 (conv=>whnf)
 refine wQ ?_
 repeat' ((conv=>whnf);first|refine sT ?_|refine sP ?_ ?_<;>intro _|fail)
 (conv=>whnf)
 refine DWP.deferAt (E:=(P9 Tryz.prog tt Tryz.f61.ntmps)) (I6 T5 mixed) 1 rfl rfl rfl rfl rfl ?_
 repeat' ((conv=>whnf);first|refine sT ?_|refine sP ?_ ?_<;>intro _|fail)
 refine wO ?_
 repeat' ((conv=>whnf);first|refine sT ?_|refine sP ?_ ?_<;>intro _|refine bO Tryz.func62 ?_|refine cA hS ?_|fail)
 all_goals(conv=>whnf)
 refine A6k _ _ ?_
 repeat' ((conv=>whnf);first|refine sT ?_|refine sP ?_ ?_<;>intro _|fail)
 all_goals(conv=>whnf)
 exact⟨DLe.refl _,rfl,rfl⟩
theorem kC (h:V8) (hh:HOk h) (s:Int) (hs:s∈EE h) (hsr:0<=s/\s<4096):C9 Tryz.prog 29 [.d h.d,.d (I s)] (E5 [SL 1 (K1 (U3 h s)),I 0]):=by
 have hA:=GN h hh s hs hsr
 have hA2:∀{hp:Hp} (h0:hp[0]? =some (.vard h.d.cells)) (h1:hp[1]? =some (.vard [I s])) (h2:hp[2]? =some (.vard [.sl 0 true []])) {k:V->Hp->Prop}
  (hk:k (E5 [I 0]) (((hp.set 0 (.vard h.d.cells)).set 1 (.vard [I s])).set 2 (.vard [SL 1 (K1 (U3 h s))]))),E6 Tryz.prog 61 [.fn 62 [.ptr 0 0 0 0,.ptr 1 0 0 0,.ptr 2 0 0 0]] hp k:=λh0 h1 h2 k hk=>by
  refine E6.upd rfl rfl hA [0,1,2] (by decide) rfl rfl (λi m hi=> ?_) ?_
  ·match i,hi with
   |0,hi=>simp at hi;subst hi;rw[h0];rfl
   |1,hi=>simp at hi;subst hi;rw[h1];rfl
   |2,hi=>simp at hi;subst hi;rw[h2];rfl
  ·rintro _ rfl _
   exact⟨_,WkH.refl _,hk⟩
 refine pU Tryz.func29 ?_
 repeat' ((conv=>whnf);first|refine sT ?_|refine sP ?_ ?_<;>intro _|refine hA2 rfl rfl rfl ?_|fail)
 all_goals exact fJ
def GP (h:V8) (s:Int) (p v:Nat):Rat:=(xAt h s (p+1)).getD v 0
def DG (a:Int) (f:F8):Bool:=decide (f.kind=3/\f.label=a)
def xZ (h:V8) (s a:Int):D×Int:=match h.fl.find? (DG a) with
 |some f=>(rD (GP h s f.per.toNat f.src.toNat),0)
 |none=>(cE,1)
theorem CW {h:V8} {s:Int} {p:Nat} (hp:p<h.per.toNat):(K1 (U3 h s))[p]? =some (bF (xAt h s (p+1))):=by
 unfold K1 U3;rw[A8,A8,F2 hp];rfl
theorem A1n {h:V8} (hh:HOk h) {s:Int} {p v:Nat} (hp:p<h.per.toNat) (hv:v<h.op.length):((xAt h s (p+1)).map rD)[v]? =some (rD (GP h s p v)):=by
 have hl:=(hh.x s (p+1) hp).1.len
 unfold GP
 rw[A8,A5,A3 (by omega)];rfl
theorem uL {α:Type} {l:List α} {p:α->Bool} (h:∀x∈l,p x=false):l.find? p=none:=by
 rw[cV];intro x hx;rw[h x hx];decide
theorem B4f {α:Type} {l:List α} {p:α->Bool} {i:Nat} {x:α} (h:∀y∈l.take i,p y=false) (hx:l[i]? =some x) (hp:p x=true):l.find? p=some x:=by
 have hd:l=l.take i++x::l.drop (i+1):=by
  obtain⟨hlt,rfl⟩:=A4.1 hx
  rw[List.getElem_cons_drop,Z4]
 rw[hd,List.find?_append,uL h]
 simp[hp]
theorem QA (h:V8) (hh:HOk h) (s a:Int) (hs:s∈EE h) (hsr:0<=s/\s<4096):C9 Tryz.prog 217 [.d h.d,.d (I s),.d (I a)] (E5 [(xZ h s a).1,I (xZ h s a).2]):=by
 have hS:=kC h hh s hs hsr
 have hok:=hh.ok
 have hp3:=hh.p3
 have hn4:=hh.n4
 have hnf:=hok.nf
 have hnp:=hok.np
 have m2:(h.fl.map F8.d).length=h.fl.length:=A6 _
 refine pU Tryz.func217 ?_
 repeat' ((conv=>whnf);first|refine Nam.mk m2 ?_|refine sT ?_|refine sP ?_ ?_<;>intro _|refine cA hS ?_|fail)
 all_goals(conv=>whnf)
 refine lO (X:=Nat) (λi=>[(24,.d (I i))]) (λ_=>[]) (λi=>i<=h.fl.length/\∀f∈h.fl.take i,DG a f=false) (λi=>h.fl.length-i) 0 sam rfl ⟨B9 _,λf hf=>by simp at hf⟩ ?_
 rintro i ⟨hi,hn⟩
 by_cases hlt:i<h.fl.length
 ·obtain⟨f,hx⟩:∃f,h.fl[i]? =some f:=⟨_,A3 hlt⟩
  have hfo:=hok.fl f (A7 hx)
  unfold F8.ok at hfo
  by_cases hk:f.kind=3
  ·by_cases hla:f.label=a
   ·have hf:=B4f hn hx (by unfold DG;exact C2 ⟨hk,hla⟩)
    have hr:xZ h s a=(rD (GP h s f.per.toNat f.src.toNat),0):=by unfold xZ;rw[hf]
    rw[hr]
    have g1:(K1 (U3 h s))[f.per.toNat]? =some (bF (xAt h s (f.per.toNat+1))):=CW (by omega)
    have g2:=A1n hh (s:=s) (p:=f.per.toNat) (v:=f.src.toNat) (by omega) (by omega)
    repeat' ((conv=>whnf);first|refine sT ?_|refine sP ?_ ?_<;>intro _|refine A9 (D4 hx) ?_|refine A9 g1 ?_|refine A9 g2 ?_|fail)
    all_goals exact fI
   ·repeat' ((conv=>whnf);first|refine sT ?_|refine sP ?_ ?_<;>intro _|refine A9 (D4 hx) ?_|fail)
    all_goals(conv=>whnf)
    all_goals first|(exfalso;omega)|exact⟨i+1,wE,⟨hlt,V9 hx (by unfold DG;exact B6 λh=>hla h.2) hn⟩,by omega⟩
  ·repeat' ((conv=>whnf);first|refine sT ?_|refine sP ?_ ?_<;>intro _|refine A9 (D4 hx) ?_|fail)
   all_goals(conv=>whnf)
   all_goals first|(exfalso;omega)|exact⟨i+1,wE,⟨hlt,V9 hx (by unfold DG;exact B6 λh=>hk h.1) hn⟩,by omega⟩
 ·rw[C7 (by omega)] at hn
  have hr:xZ h s a=(cE,1):=by unfold xZ;rw[uL hn]
  rw[hr]
  repeat' ((conv=>whnf);first|refine sT ?_|refine sP ?_ ?_<;>intro _|fail)
  all_goals exact fI
theorem PW (q:Rat):(str (qn q)).toList=(⟨#[]⟩:ByteArray).toList↔q=0:=by rw[<-fP,LH];exact zC
def AB (h:V8) (s v p:Int):Bool×Int:=
 if p= -1 then match h.fl.find? (DG v) with
  |some f=>(decide (GP h s f.per.toNat f.src.toNat≠0),0)
  |none=>(false,1)
 else if p<0∨p≥h.per∨v<0∨v≥h.op.length then(false,1)
 else(decide (GP h s p.toNat v.toNat≠0),0)
theorem EG (h:V8) (hh:HOk h) (s v p:Int) (hs:s∈EE h) (hsr:0<=s/\s<4096):
 C9 Tryz.prog 205 [.d h.d,.d (I s),.d (.agg [I v,I p])] (E5 [.b (AB h s v p).1,I (AB h s v p).2]):=by
 have hS:=kC h hh s hs hsr
 have hL:=QA h hh s v hs hsr
 have hok:=hh.ok
 have hp3:=hh.p3
 have hn4:=hh.n4
 have hnp:=hok.np
 have m1:(h.op.map I).length=h.op.length:=A6 _
 by_cases hp:p= -1
 ·subst hp
  have hc:AB h s v (-1)=match h.fl.find? (DG v) with
   |some f=>(decide (GP h s f.per.toNat f.src.toNat≠0),0)
   |none=>(false,1):=by unfold AB;rw[if_pos rfl]
  rw[hc]
  unfold xZ at hL
  cases hf:h.fl.find? (DG v) with
  |none=>
   rw[hf] at hL
   dsimp only at hL ⊢
   refine pU Tryz.func205 ?_
   repeat' ((conv=>whnf);first|refine sT ?_|refine sP ?_ ?_<;>intro _|refine cA hL ?_|fail)
   all_goals exact fI
  |some f=>
   rw[hf] at hL
   dsimp only at hL ⊢
   generalize GP h s f.per.toNat f.src.toNat=q at*
   by_cases hq:q=0
   ·rw[B6 (λh=>h hq)]
    refine pU Tryz.func205 ?_
    repeat' ((conv=>whnf);first|refine Dec.t ((PW q).2 hq) ?_|refine sT ?_|refine sP ?_ ?_<;>intro _|refine cA hL ?_|fail)
    all_goals exact fI
   ·rw[C2 hq]
    refine pU Tryz.func205 ?_
    repeat' ((conv=>whnf);first|refine Dec.f (λe=>hq ((PW q).1 e)) ?_|refine sT ?_|refine sP ?_ ?_<;>intro _|refine cA hL ?_|fail)
    all_goals exact fI
 ·by_cases hr:p<0∨p≥h.per∨v<0∨v≥h.op.length
  ·have hc:AB h s v p=(false,1):=by unfold AB;rw[if_neg hp,if_pos hr]
   rw[hc]
   refine pU Tryz.func205 ?_
   repeat' ((conv=>whnf);first|refine Nam.mk m1 ?_|refine sT ?_|refine sP ?_ ?_<;>intro _|refine cA hS ?_|fail)
   all_goals exact fI
  ·have hc:AB h s v p=(decide (GP h s p.toNat v.toNat≠0),0):=by unfold AB;rw[if_neg hp,if_neg hr]
   rw[hc]
   have g1:(K1 (U3 h s))[p.toNat]? =some (bF (xAt h s (p.toNat+1))):=CW (by omega)
   have g2:=A1n hh (s:=s) (p:=p.toNat) (v:=v.toNat) (by omega) (by omega)
   generalize GP h s p.toNat v.toNat=q at*
   by_cases hq:q=0
   ·rw[B6 (λh=>h hq)]
    refine pU Tryz.func205 ?_
    repeat' ((conv=>whnf);first|refine Dec.t ((PW q).2 hq) ?_|refine Nam.mk m1 ?_|refine sT ?_|refine sP ?_ ?_<;>intro _|refine cA hS ?_|refine A9 g1 ?_|refine A9 g2 ?_|fail)
    all_goals exact fI
   ·rw[C2 hq]
    refine pU Tryz.func205 ?_
    repeat' ((conv=>whnf);first|refine Dec.f (λe=>hq ((PW q).1 e)) ?_|refine Nam.mk m1 ?_|refine sT ?_|refine sP ?_ ?_<;>intro _|refine cA hS ?_|refine A9 g1 ?_|refine A9 g2 ?_|fail)
    all_goals exact fI
structure Rec where
 f:F8
 kind:Int
 n:Int
 oth:Int
def Rec.d (r:Rec):D:=.agg [I r.f.kind,I r.f.per,I r.f.src,I r.f.dst,I r.f.amt,I r.f.label,I r.kind,I r.n,I r.oth]
structure D7 where
 op:List Int
 per:Int
 recs:List Rec
def D7.d (b:D7):D:=.agg [SL 1 (b.op.map I),I b.per,SL 9 (b.recs.map Rec.d)]
structure SmB (b:D7):Prop where
 o:b.op.length<1000000
 p:0<=b.per/\b.per<=1000
 r:b.recs.length<1000000
theorem K6 (n lo hi:Int):C9 Tryz.prog 23 [.d (I n),.d (I lo),.d (I hi)] (E5 [.b (decide (lo<=n/\n<=hi))]):=by
 refine pU Tryz.func23 ?_
 repeat' ((conv=>whnf);first|refine sT ?_|refine sP ?_ ?_<;>intro _|fail)
 all_goals(conv=>whnf)
 all_goals try simp only[F3,K3] at*
 all_goals first|(rw[C2 (by omega)];exact DLe.refl _)|(rw[B6 (by omega)];exact DLe.refl _)
theorem wN (b:D7) (f:F8) (hb:SmB b):C9 Tryz.prog 128 [.d b.d,.d f.d] (E5 [.b (decide (f.ok b.op.length b.per))]):=by
 obtain⟨h1,h2,h3⟩:=hb
 refine pU Tryz.func128 ?_
 repeat' ((conv=>whnf);first|refine sT ?_|refine sP ?_ ?_<;>intro _|refine E6.ofB (K6 _ _ _) (λ_=> ?_) (λ_=> ?_)|refine H6.ofB (K6 _ _ _) (λ_=> ?_) (λ_=> ?_)|refine bO Tryz.func173 ?_|fail)
 all_goals(conv=>whnf)
 all_goals try simp only[F3,K3] at*
 all_goals first|(rw[C2 (by unfold F8.ok;omega)];exact DLe.refl _)|(rw[B6 (by unfold F8.ok;omega)];exact DLe.refl _)
def F8.okC (nv:Nat) (np:Int) (f:F8):Prop:=f.kind=0/\f.dst=0/\f.label=0/\(0<=f.src/\f.src<=(nv:Int)-1)/\(0<=f.per/\f.per<=np-1)/\(0<=f.amt/\f.amt<=1048576)
instance (nv:Nat) (np:Int) (f:F8):Decidable (f.okC nv np):=by unfold F8.okC;infer_instance
theorem tU (b:D7) (f:F8) (hb:SmB b):C9 Tryz.prog 127 [.d b.d,.d f.d] (E5 [.b (decide (f.okC b.op.length b.per))]):=by
 obtain⟨h1,h2,h3⟩:=hb
 refine pU Tryz.func127 ?_
 repeat' ((conv=>whnf);first|refine sT ?_|refine sP ?_ ?_<;>intro _|refine E6.ofB (K6 _ _ _) (λ_=> ?_) (λ_=> ?_)|refine H6.ofB (K6 _ _ _) (λ_=> ?_) (λ_=> ?_)|fail)
 all_goals(conv=>whnf)
 all_goals try simp only[F3,K3] at*
 all_goals first|(rw[C2 (by unfold F8.okC;omega)];exact DLe.refl _)|(rw[B6 (by unfold F8.okC;omega)];exact DLe.refl _)
def lQ (f:F8):Prop:=f.kind=1∨f.kind=2
instance (f:F8):Decidable (lQ f):=by unfold lQ;infer_instance
theorem iR (f:F8):C9 Tryz.prog 172 [.d f.d] (E5 [.b (decide (lQ f))]):=by
 refine pU Tryz.func172 ?_
 repeat' ((conv=>whnf);first|refine sT ?_|refine sP ?_ ?_<;>intro _|fail)
 all_goals(conv=>whnf)
 all_goals try simp only[F3,K3] at*
 all_goals first|(rw[C2 (by unfold lQ;omega)];exact DLe.refl _)|(rw[B6 (by unfold lQ;omega)];exact DLe.refl _)
def jJ (b:D7) (i:Nat) (r:Rec):Prop:=
 if r.kind≠3/\r.kind≠5 then r.oth=0 else
 (0<=r.oth/\r.oth<=(b.recs.length:Int)-1)/\r.oth≠i/\
 match b.recs[r.oth.toNat]? with
 |some o=>if r.kind=3 then o.kind=0 else lQ r.f/\lQ o.f/\o.kind≠5
 |none=>False
instance (b:D7) (i:Nat) (r:Rec):Decidable (jJ b i r):=by
 unfold jJ
 have:Decidable (match b.recs[r.oth.toNat]? with
  |some o=>if r.kind=3 then o.kind=0 else lQ r.f/\lQ o.f/\o.kind≠5
  |none=>False):=by
  cases b.recs[r.oth.toNat]? <;>dsimp only<;>infer_instance
 infer_instance
theorem wL (b:D7) (i:Nat) (r:Rec) (hb:SmB b) (hr:b.recs[i]? =some r):C9 Tryz.prog 126 [.d b.d,.d (I i)] (E5 [.b (decide (jJ b i r))]):=by
 obtain⟨h1,h2,h3⟩:=hb
 have hi:=(A4.1 hr).1
 have m1:(b.recs.map Rec.d).length=b.recs.length:=A6 _
 by_cases hk:r.kind≠3/\r.kind≠5
 ·have e:jJ b i r↔r.oth=0:=by unfold jJ;rw[if_pos hk]
  obtain⟨k1,k2⟩:=hk
  refine pU Tryz.func126 ?_
  repeat' ((conv=>whnf);first|refine Nam.mk m1 ?_|refine sT ?_|refine sP ?_ ?_<;>intro _|refine A9 (D4 hr) ?_|fail)
  all_goals((conv=>whnf);try exact xO)
  all_goals try simp only[F3,K3] at*
  all_goals first|(rw[C2 (e.2 (by assumption))];exact DLe.refl _)|(rw[B6 (λh=>absurd (e.1 h) (by assumption))];exact DLe.refl _)
 ·by_cases hq:(0<=r.oth/\r.oth<=(b.recs.length:Int)-1)/\r.oth≠i
  ·obtain⟨o,ho⟩:∃o,b.recs[r.oth.toNat]? =some o:=⟨_,A3 (by omega)⟩
   have e:jJ b i r↔if r.kind=3 then o.kind=0 else lQ r.f/\lQ o.f/\o.kind≠5:=by
    unfold jJ;rw[if_neg hk,ho];simp only;exact⟨λh=>h.2.2,λh=>⟨hq.1,hq.2,h⟩⟩
   have hG:=iR r.f
   have hG2:=iR o.f
   have hB:C9 Tryz.prog 23 [.d (I r.oth),.d (I 0),.d (I ((b.recs.length:Int)-1))] (E5 [B true]):=by
    have:=K6 r.oth 0 ((b.recs.length:Int)-1)
    rwa[C2 hq.1] at this
   by_cases k3:r.kind=3
   ·rw[if_pos k3] at e
    have ed:decide (jJ b i r)=decide (o.kind=0):=W1.2 e
    rw[ed]
    clear e ed
    refine pU Tryz.func126 ?_
    repeat' ((conv=>whnf);first|refine Nam.mk m1 ?_|refine sT ?_|refine sP ?_ ?_<;>intro _|refine A9 (D4 hr) ?_|refine A9 (D4 ho) ?_|refine cA hB ?_|fail)
    all_goals((conv=>whnf);try exact xO)
    all_goals try simp only[F3,K3] at*
    all_goals first|exact DLe.refl _|(rw[C2 (by omega)];exact DLe.refl _)|(rw[B6 (by omega)];exact DLe.refl _)
   ·rw[if_neg k3] at e
    have ed:decide (jJ b i r)=decide (lQ r.f/\lQ o.f/\o.kind≠5):=W1.2 e
    rw[ed]
    clear e ed
    by_cases i1:lQ r.f<;>by_cases i2:lQ o.f
    all_goals simp only[i1,i2,decide_true,decide_false,true_and,false_and] at hG hG2 ⊢
    all_goals(
     refine pU Tryz.func126 ?_
     repeat' ((conv=>whnf);first|refine Nam.mk m1 ?_|refine sT ?_|refine sP ?_ ?_<;>intro _|refine A9 (D4 hr) ?_|refine A9 (D4 ho) ?_|refine cA hB ?_|refine cA hG ?_|refine cA hG2 ?_|fail)
     all_goals((conv=>whnf);try exact xO)
     all_goals try simp only[F3,K3] at*
     all_goals first|exact DLe.refl _|(rw[C2 (by omega)];exact DLe.refl _)|(rw[B6 (by omega)];exact DLe.refl _))
  ·have e:¬jJ b i r:=by unfold jJ;rw[if_neg hk];exact λh=>hq ⟨h.1,h.2.1⟩
   rw[B6 e]
   clear e
   refine pU Tryz.func126 ?_
   repeat' ((conv=>whnf);first|refine Nam.mk m1 ?_|refine sT ?_|refine sP ?_ ?_<;>intro _|refine A9 (D4 hr) ?_|refine E6.ofB (K6 _ _ _) (λ_=> ?_) (λ_=> ?_)|refine H6.ofB (K6 _ _ _) (λ_=> ?_) (λ_=> ?_)|fail)
   all_goals(conv=>whnf)
   all_goals try simp only[F3,K3] at*
   all_goals first|(exfalso;omega)|exact DLe.refl _
def eJ (r:Rec):Int:=if r.kind=1∨r.kind=6 then 8 else 0
def sL (b:D7) (i:Nat) (r:Rec):Prop:=
 ((0<=r.kind/\r.kind<=6)/\(0<=r.n/\r.n<=eJ r))/\jJ b i r/\(if r.kind=6 then r.f.okC b.op.length b.per else r.f.ok b.op.length b.per)
instance (b:D7) (i:Nat) (r:Rec):Decidable (sL b i r):=by unfold sL;infer_instance
theorem tT (b:D7) (i:Nat) (r:Rec) (hb:SmB b) (hr:b.recs[i]? =some r):C9 Tryz.prog 84 [.d b.d,.d (I i)] (E5 [.b (decide (sL b i r))]):=by
 have hO:=wL b i r hb hr
 have hF:=wN b r.f hb
 have hC:=tU b r.f hb
 obtain⟨h1,h2,h3⟩:=hb
 have hi:=(A4.1 hr).1
 have m1:(b.recs.map Rec.d).length=b.recs.length:=A6 _
 have hK:=K6 r.kind 0 6
 have hN:=K6 r.n 0 (eJ r)
 by_cases ho:jJ b i r
 ·rw[C2 ho] at hO
  by_cases k6:r.kind=6
  ·have e:sL b i r↔(0<=r.n/\r.n<=8)/\r.f.okC b.op.length b.per:=by unfold sL eJ;rw[if_pos k6,if_pos (.inr k6)];exact⟨λh=>⟨h.1.2,h.2.2⟩,λh=>⟨⟨by omega,h.1⟩,ho,h.2⟩⟩
   have ed:decide (sL b i r)=decide ((0<=r.n/\r.n<=8)/\r.f.okC b.op.length b.per):=W1.2 e
   rw[ed];clear e ed
   have hM:eJ r=8:=by unfold eJ;rw[if_pos (.inr k6)]
   rw[hM] at hN
   rw[C2 (by omega:0<=r.kind/\r.kind<=6)] at hK
   by_cases hn:0<=r.n/\r.n<=8
   ·rw[C2 hn] at hN
    have ed:decide ((0<=r.n/\r.n<=8)/\r.f.okC b.op.length b.per)=decide (r.f.okC b.op.length b.per):=W1.2 ⟨λh=>h.2,λh=>⟨hn,h⟩⟩
    rw[ed];clear ed
    refine pU Tryz.func84 ?_
    repeat' ((conv=>whnf);first|refine Nam.mk m1 ?_|refine sT ?_|refine sP ?_ ?_<;>intro _|refine A9 (D4 hr) ?_|refine cA hO ?_|refine cA hK ?_|refine cA hN ?_|refine cA hC ?_|fail)
    all_goals exact fI
   ·rw[B6 hn] at hN
    rw[B6 (λh=>hn h.1)]
    refine pU Tryz.func84 ?_
    repeat' ((conv=>whnf);first|refine Nam.mk m1 ?_|refine sT ?_|refine sP ?_ ?_<;>intro _|refine A9 (D4 hr) ?_|refine cA hO ?_|refine cA hK ?_|refine cA hN ?_|refine cA hC ?_|fail)
    all_goals exact fI
  ·by_cases hk:0<=r.kind/\r.kind<=6
   ·by_cases hn:0<=r.n/\r.n<=eJ r
    ·have ed:decide (sL b i r)=decide (r.f.ok b.op.length b.per):=W1.2 (by unfold sL;rw[if_neg k6];exact⟨λh=>h.2.2,λh=>⟨⟨hk,hn⟩,ho,h⟩⟩)
     rw[ed];clear ed
     rw[C2 hn] at hN
     rw[C2 hk] at hK
     unfold eJ at hN
     by_cases k1:r.kind=1
     ·rw[if_pos (.inl k1)] at hN
      refine pU Tryz.func84 ?_
      repeat' ((conv=>whnf);first|refine Nam.mk m1 ?_|refine sT ?_|refine sP ?_ ?_<;>intro _|refine A9 (D4 hr) ?_|refine cA hO ?_|refine cA hK ?_|refine cA hN ?_|refine cA hF ?_|fail)
      all_goals exact fI
     ·rw[if_neg (by omega)] at hN
      refine pU Tryz.func84 ?_
      repeat' ((conv=>whnf);first|refine Nam.mk m1 ?_|refine sT ?_|refine sP ?_ ?_<;>intro _|refine A9 (D4 hr) ?_|refine cA hO ?_|refine cA hK ?_|refine cA hN ?_|refine cA hF ?_|fail)
      all_goals exact fI
    ·rw[B6 (λh=>hn h.1.2)]
     rw[B6 hn] at hN
     rw[C2 hk] at hK
     unfold eJ at hN
     by_cases k1:r.kind=1
     ·rw[if_pos (.inl k1)] at hN
      refine pU Tryz.func84 ?_
      repeat' ((conv=>whnf);first|refine Nam.mk m1 ?_|refine sT ?_|refine sP ?_ ?_<;>intro _|refine A9 (D4 hr) ?_|refine cA hO ?_|refine cA hK ?_|refine cA hN ?_|fail)
      all_goals exact fI
     ·rw[if_neg (by omega)] at hN
      refine pU Tryz.func84 ?_
      repeat' ((conv=>whnf);first|refine Nam.mk m1 ?_|refine sT ?_|refine sP ?_ ?_<;>intro _|refine A9 (D4 hr) ?_|refine cA hO ?_|refine cA hK ?_|refine cA hN ?_|fail)
      all_goals exact fI
   ·rw[B6 (λh=>hk h.1.1)]
    rw[B6 hk] at hK
    refine pU Tryz.func84 ?_
    repeat' ((conv=>whnf);first|refine Nam.mk m1 ?_|refine sT ?_|refine sP ?_ ?_<;>intro _|refine A9 (D4 hr) ?_|refine cA hK ?_|fail)
    all_goals exact fI
 ·rw[B6 ho] at hO
  rw[B6 (λh=>ho h.2.1)]
  refine pU Tryz.func84 ?_
  repeat' ((conv=>whnf);first|refine Nam.mk m1 ?_|refine sT ?_|refine sP ?_ ?_<;>intro _|refine A9 (D4 hr) ?_|refine cA hO ?_|refine E6.ofB (K6 _ _ _) (λ_=> ?_) (λ_=> ?_)|refine H6.ofB (K6 _ _ _) (λ_=> ?_) (λ_=> ?_)|fail)
  all_goals(conv=>whnf)
  all_goals first|exact DLe.refl _|(exfalso;omega)
structure D7.ok (b:D7):Prop where
 o:b.op.length<=16
 p:0<=b.per/\b.per<=16
 r:b.recs.length<=64
 op:∀n∈b.op,0<=n/\n<=1048576
 rs:∀i r,b.recs[i]? =some r->sL b i r
noncomputable instance (b:D7):Decidable b.ok:=Classical.propDecidable _
structure EW (b:D7):Prop where
 o:b.op.length<1000000
 r:b.recs.length<1000000
theorem HB (b:D7) (hb:EW b):C9 Tryz.prog 47 [.d b.d] (E5 [.b (decide b.ok)]):=by
 obtain⟨h1,h3⟩:=hb
 have m0:(b.op.map I).length=b.op.length:=A6 _
 have m1:(b.recs.map Rec.d).length=b.recs.length:=A6 _
 by_cases hq:b.op.length<=16/\(0<=b.per/\b.per<=16)/\b.recs.length<=64
 ·obtain⟨q1,q2,q3⟩:=hq
  have hP:=K6 b.per 0 16
  rw[C2 q2] at hP
  refine pU Tryz.func47 ?_
  repeat' ((conv=>whnf);first|refine Nam.mk m0 ?_|refine Nam.mk m1 ?_|refine sT ?_|refine sP ?_ ?_<;>intro _|refine cA hP ?_|fail)
  all_goals((conv=>whnf);try exact xO)
  refine lO (X:=Nat) (λi=>[(25,.d (I i))]) (λ_=>[]) (λi=>i<=b.op.length/\∀n∈b.op.take i,0<=n/\n<=1048576) (λi=>b.op.length-i) 0 sam rfl ⟨B9 _,λf hf=>by simp at hf⟩ ?_
  rintro i ⟨hi,hn⟩
  by_cases hlt:i<b.op.length
  ·obtain⟨x,hx⟩:∃x,b.op[i]? =some x:=⟨_,A3 hlt⟩
   have hX:=K6 x 0 1048576
   by_cases hx2:0<=x/\x<=1048576
   ·rw[C2 hx2] at hX
    repeat' ((conv=>whnf);first|refine sT ?_|refine sP ?_ ?_<;>intro _|refine A9 (D4 hx) ?_|refine cA hX ?_|fail)
    all_goals(conv=>whnf)
    all_goals first|(exfalso;omega)|exact⟨i+1,wE,⟨hlt,V9 hx hx2 hn⟩,by omega⟩
   ·rw[B6 hx2] at hX
    rw[B6 (λh:b.ok=>hx2 (h.op x (A7 hx)))]
    repeat' ((conv=>whnf);first|refine sT ?_|refine sP ?_ ?_<;>intro _|refine A9 (D4 hx) ?_|refine cA hX ?_|fail)
    all_goals exact fI
  ·rw[C7 (by omega)] at hn
   repeat' ((conv=>whnf);first|refine Nam.mk m1 ?_|refine sT ?_|refine sP ?_ ?_<;>intro _|fail)
   all_goals((conv=>whnf);try exact xO)
   have hop:=hn
   clear hn hi hlt
   refine lO (X:=Nat) (λi=>[(36,.d (I i))]) (λ_=>[]) (λi=>i<=b.recs.length/\∀j r,j<i->b.recs[j]? =some r->sL b j r) (λi=>b.recs.length-i) 0 sam rfl ⟨B9 _,λj r hj=>by omega⟩ ?_
   rintro i ⟨hi,hn⟩
   by_cases hlt:i<b.recs.length
   ·obtain⟨x,hx⟩:∃x,b.recs[i]? =some x:=⟨_,A3 hlt⟩
    have hX:=tT b i x ⟨by omega,by omega,by omega⟩ hx
    by_cases hx2:sL b i x
    ·rw[C2 hx2] at hX
     repeat' ((conv=>whnf);first|refine sT ?_|refine sP ?_ ?_<;>intro _|refine cA hX ?_|fail)
     all_goals(conv=>whnf)
     all_goals first|(exfalso;omega)|exact⟨i+1,wE,⟨hlt,λj r hj hr=>by
      by_cases e:j=i
      ·subst e;rw[hx] at hr;injection hr with hr;subst hr;exact hx2
      ·exact hn j r (by omega) hr⟩,by omega⟩
    ·rw[B6 hx2] at hX
     rw[B6 (λh:b.ok=>hx2 (h.rs i x hx))]
     repeat' ((conv=>whnf);first|refine sT ?_|refine sP ?_ ?_<;>intro _|refine cA hX ?_|fail)
     all_goals exact fI
   ·rw[C2 (show b.ok from⟨q1,q2,q3,hop,λj r hr=>hn j r (by have:=(A4.1 hr).1;omega) hr⟩)]
    repeat' ((conv=>whnf);first|refine sT ?_|refine sP ?_ ?_<;>intro _|fail)
    all_goals exact fI
 ·rw[B6 (λh:b.ok=>hq ⟨h.o,h.p,h.r⟩)]
  refine pU Tryz.func47 ?_
  repeat' ((conv=>whnf);first|refine Nam.mk m0 ?_|refine Nam.mk m1 ?_|refine sT ?_|refine sP ?_ ?_<;>intro _|refine E6.ofB (K6 _ _ _) (λ_=> ?_) (λ_=> ?_)|refine H6.ofB (K6 _ _ _) (λ_=> ?_) (λ_=> ?_)|fail)
  all_goals(conv=>whnf)
  all_goals try simp only[F3,K3] at*
  all_goals first|(exfalso;omega)|exact DLe.refl _
def dbt (r:Rec):Bool:=decide (r.kind≠0/\r.kind≠6)
def Y1 (b:D7) (i:Nat):List Nat:=(List.range i).filter λk=>match b.recs[k]? with
 |some r=>dbt r
 |none=>false
def N6 (b:D7):List Nat:=Y1 b b.recs.length
theorem jW {b:D7} {i:Nat} {r:Rec} (h:b.recs[i]? =some r):Y1 b (i+1)=Y1 b i++if dbt r then [i] else []:=by
 unfold Y1
 rw[Q4,L6]
 congr 1
 simp only[List.filter,h]
 cases dbt r<;>rfl
theorem BP (b:D7) (i:Nat):(Y1 b i).length<=i:=by
 unfold Y1
 refine F5 (L0 _ _) ?_
 rw[M6];exact B1 _
theorem iS (b:D7) (hb:EW b):C9 Tryz.prog 48 [.d b.d] (E5 [SL 1 ((N6 b).map λi=>I (i:Nat))]):=by
 obtain⟨h1,h3⟩:=hb
 have m1:(b.recs.map Rec.d).length=b.recs.length:=A6 _
 refine pU Tryz.func48 ?_
 repeat' ((conv=>whnf);first|refine Nam.mk m1 ?_|refine sT ?_|refine sP ?_ ?_<;>intro _|fail)
 all_goals(conv=>whnf)
 refine L3.virt 2 0 1 false (by decide) rfl ?_
 conv=>whnf
 refine lO (X:=XS) (λx=>[(8,.d (I x.i)),(2,.sref 1 x.v 0 x.n false)]) (λx=>[(1,.row x.v 1 false x.dr)]) (λx=>x.i<=b.recs.length/\x.n=x.dr.length/\x.dr=(Y1 b x.i).map λi=>I (i:Nat)) (λx=>b.recs.length-x.i) ⟨0,0,0,[]⟩ sam rfl ⟨B9 _,rfl,rfl⟩ ?_
 rintro⟨i,v,n,dr⟩ ⟨hi,hn,hd⟩
 dsimp only at hi hn hd
 have hnl:n<=i:=by rw[hn,hd,A6];exact BP _ _
 dsimp only
 by_cases hlt:i<b.recs.length
 ·obtain⟨r,hx⟩:∃r,b.recs[i]? =some r:=⟨_,A3 hlt⟩
  have hst:=jW hx
  have ck1:0+n=dr.length:=by omega
  have ck2:n+1<=room:=by simp[room];omega
  by_cases hk:r.kind≠0/\r.kind≠6
  ·have hdb:dbt r=true:=C2 hk
   rw[hdb,if_pos rfl] at hst
   obtain⟨k1,k2⟩:=hk
   repeat' ((conv=>whnf);first|refine Nam.mk m1 ?_|refine sT ?_|refine sP ?_ ?_<;>intro _|refine A9 (D4 hx) ?_|refine Chk.mk ⟨rfl,ck1,ck2⟩ ?_|fail)
   all_goals(conv=>whnf)
   all_goals first|(exfalso;omega)|exact⟨⟨i+1,v+1,n+1,dr++[I i]⟩,wE,⟨hlt,by simp[hn],by simp only;rw[hst,D2,hd];rfl⟩,by simp only;omega⟩
  ·have hdb:dbt r=false:=B6 hk
   rw[hdb,if_neg (by decide),I3] at hst
   repeat' ((conv=>whnf);first|refine Nam.mk m1 ?_|refine sT ?_|refine sP ?_ ?_<;>intro _|refine A9 (D4 hx) ?_|fail)
   all_goals(conv=>whnf)
   all_goals first|(exfalso;omega)|exact⟨⟨i+1,v,n,dr⟩,wE,⟨hlt,hn,by simp only;rw[hst,hd]⟩,by simp only;omega⟩
 ·have hie:i=b.recs.length:=by omega
  subst hie
  repeat' ((conv=>whnf);first|refine Nam.mk (whole hn) ?_|refine sT ?_|refine sP ?_ ?_<;>intro _|fail)
  all_goals(conv=>whnf)
  all_goals first|(exfalso;omega)|(rw[hd];exact DLe.refl _)
def lU (r:Rec):Int:=if r.kind=1 then 2*r.n+1 else if r.kind=2/\r.f.per=0 then 1 else 2
theorem wM (r:Rec) (hn:0<=r.n/\r.n<=1000):C9 Tryz.prog 49 [.d r.d] (E5 [I (lU r)]):=by
 unfold lU
 by_cases k1:r.kind=1
 ·rw[if_pos k1]
  refine pU Tryz.func49 ?_
  repeat' ((conv=>whnf);first|refine sT ?_|refine sP ?_ ?_<;>intro _|fail)
  all_goals exact fI
 ·rw[if_neg k1]
  by_cases k2:r.kind=2
  ·by_cases k3:r.f.per=0
   ·rw[if_pos ⟨k2,k3⟩]
    refine pU Tryz.func49 ?_
    repeat' ((conv=>whnf);first|refine sT ?_|refine sP ?_ ?_<;>intro _|fail)
    all_goals exact fI
   ·rw[if_neg (λh=>k3 h.2)]
    refine pU Tryz.func49 ?_
    repeat' ((conv=>whnf);first|refine sT ?_|refine sP ?_ ?_<;>intro _|fail)
    all_goals exact fI
  ·rw[if_neg (λh=>k2 h.1)]
   refine pU Tryz.func49 ?_
   repeat' ((conv=>whnf);first|refine sT ?_|refine sP ?_ ?_<;>intro _|fail)
   all_goals exact fI
def recAt (b:D7) (i:Nat):Rec:=b.recs.getD i ⟨⟨0,0,0,0,0,0⟩,0,0,0⟩
def G0 (b:D7):List Int:=(N6 b).map λi=>lU (recAt b i)
def U6:List Int->Int
 |[]=>1
 |x::l=>x*U6 l
theorem HH (l:List Int) (x:Int):U6 (l++[x])=U6 l*x:=by
 induction l with
 |nil=>simp[U6]
 |cons y l ih=>simp only[I1,U6,ih,Int.mul_assoc]
noncomputable def jF (b:D7):Int:=if b.ok then(if(N6 b).length>8 then 2 else if U6 (G0 b)>4096 then 2 else 0) else 360
noncomputable def pE (b:D7):List Int:=if jF b=0 then G0 b else []
theorem mL {b:D7} {i:Nat} (h:i∈N6 b):∃r,b.recs[i]? =some r/\dbt r=true:=by
 unfold N6 Y1 at h
 rw[bS] at h
 have h1:=K2.1 h.1
 rw[A3 h1] at h
 exact⟨_,A3 h1,h.2⟩
theorem HD {b:D7} {i:Nat} {r:Rec} (h:sL b i r):1<=lU r/\lU r<=17:=by
 have:=h.1
 unfold eJ at this
 unfold lU
 split
 ·split at this<;>omega
 ·split<;>omega
theorem UQ:∀(l:List Int),(∀x∈l,1<=x/\x<=17)->1<=U6 l/\U6 l<=17^l.length
 |[],_=>⟨M7 _,M7 _⟩
 |x::l,h=>by
  obtain⟨i1,i2⟩:=UQ l λy hy=>h y (.tail _ hy)
  obtain⟨h1,h2⟩:=h x (.head _)
  refine⟨?_,?_⟩
  ·show 1<=x*U6 l
   have:=aZ h1 i1 (by decide) (by omega)
   omega
  ·show x*U6 l<=17^(l.length+1)
   have:=aZ h2 i2 (by omega) (by decide)
   rw[Int.pow_succ,Int.mul_comm (17^l.length)];exact this
structure XM where
 i:Nat
 v:Nat
 n:Nat
 dr:List D
 q:Int
theorem kD (b:D7) (hb:EW b):C9 Tryz.prog 19 [.d b.d] (E5 [SL 1 ((pE b).map I),I (jF b)]):=by
 have hV:=HB b hb
 have hD:=iS b hb
 obtain⟨h1,h3⟩:=hb
 have m1:(b.recs.map Rec.d).length=b.recs.length:=A6 _
 have m2:((N6 b).map λi=>I (i:Nat)).length=(N6 b).length:=A6 _
 have hdl:(N6 b).length<=b.recs.length:=BP b _
 by_cases hok:b.ok
 ·rw[C2 hok] at hV
  by_cases h8:(N6 b).length>8
  ·have e:jF b=2:=by unfold jF;rw[if_pos hok,if_pos h8]
   have e2:pE b=[]:=by unfold pE;rw[if_neg (by omega)]
   rw[e,e2]
   refine pU Tryz.func19 ?_
   repeat' ((conv=>whnf);first|refine Nam.mk m2 ?_|refine sT ?_|refine sP ?_ ?_<;>intro _|refine cA hV ?_|refine cA hD ?_|fail)
   all_goals(conv=>whnf)
   all_goals first|(exfalso;omega)|exact⟨DLe.nil _ _ _,DLe.refl _,rfl⟩
  ·have hmem:∀x∈G0 b,1<=x/\x<=17:=λx hx=>by
    unfold G0 at hx
    obtain⟨i,hi,rfl⟩:=K4.1 hx
    obtain⟨r,hr,_⟩:=mL hi
    have:recAt b i=r:=by unfold recAt;rw[A5,hr];rfl
    rw[this];exact HD (hok.rs i r hr)
   have hml:(G0 b).length=(N6 b).length:=by unfold G0;rw[A6]
   have e:jF b=if U6 (G0 b)>4096 then 2 else 0:=by unfold jF;rw[if_pos hok,if_neg h8]
   refine pU Tryz.func19 ?_
   repeat' ((conv=>whnf);first|refine Nam.mk m2 ?_|refine sT ?_|refine sP ?_ ?_<;>intro _|refine cA hV ?_|refine cA hD ?_|fail)
   all_goals((conv=>whnf);try exact xO)
   refine L3.virt 2 0 1 false (by decide) rfl ?_
   conv=>whnf
   refine lO (X:=XM) (λx=>[(18,.d (I x.i)),(2,.sref 1 x.v 0 x.n false),(5,.d (I x.q))]) (λx=>[(1,.row x.v 1 false x.dr)]) (λx=>x.i<=(N6 b).length/\x.n=x.i/\x.dr=((G0 b).take x.i).map I/\x.q=U6 ((G0 b).take x.i)) (λx=>(N6 b).length-x.i) ⟨0,0,0,[],1⟩ sam rfl ⟨B9 _,rfl,rfl,rfl⟩ ?_
   rintro⟨i,v,n,dr,q⟩ ⟨hi,hn,hd,hq⟩
   dsimp only at hi hn hd hq
   subst hn
   dsimp only
   have hdrl:dr.length=n:=by rw[hd,A6,D0];omega
   by_cases hlt:n<(N6 b).length
   ·obtain⟨k,hk⟩:∃k,(N6 b)[n]? =some k:=⟨_,A3 hlt⟩
    obtain⟨r,hr,hdb⟩:=mL (A7 hk)
    have hrA:recAt b k=r:=by unfold recAt;rw[A5,hr];rfl
    have hmk:(G0 b)[n]? =some (lU r):=by unfold G0;rw[A8,hk];simp[hrA]
    have hro:=hok.rs k r hr
    have hrl:=HD hro
    have hR:=wM r (by have:=hro.1;unfold eJ at this;split at this<;>omega)
    have g1:((N6 b).map λi=>I (i:Nat))[((n:Nat):Int).toNat]? =some (I (k:Nat)):=by rw[B0,A8,hk];rfl
    have ck1:0+n=dr.length:=by omega
    have ck2:n+1<=room:=by simp[room];omega
    have hpl:=UQ ((G0 b).take n) λx hx=>hmem x (List.mem_of_mem_take hx)
    rw[<-hq] at hpl
    have hp8:(17:Int)^((G0 b).take n).length<=17^8:=by
     have:((G0 b).take n).length<=8:=by rw[D0];omega
     have:=M3 (n:=17) (by decide) this
     exact_mod_cast this
    have hq8:1<=q/\q<=6975757441:=⟨hpl.1,Int.le_trans hpl.2 hp8⟩
    have hqr1:1<=q*lU r:=by have:=aZ hq8.1 hrl.1 (by decide) (by omega);omega
    have hqr2:q*lU r<=6975757441*17:=aZ hq8.2 hrl.2 (by omega) (by decide)
    clear hpl hp8
    have hw:((n+[I (lU r)].length:Nat):Int)-1=(n:Int):=by simp
    have g3:(X1 dr 0++[I (lU r)])[0+(((n+[I (lU r)].length:Nat):Int)-1).toNat]? =some (I (lU r)):=by
     rw[hw,C1,B0,show X1 dr 0=dr from rfl,B3 (by omega),hdrl,G2];rfl
    repeat' ((conv=>whnf);first|refine Nam.mk m2 ?_|refine sT ?_|refine sP ?_ ?_<;>intro _|refine A9 g1 ?_|refine A9 (D4 hr) ?_|refine cA hR ?_|refine Chk.mk ⟨rfl,ck1,ck2⟩ ?_|refine A9 g3 ?_|fail)
    all_goals((conv=>whnf);try exact xO)
    have tk:(G0 b).take (n+1)=(G0 b).take n++[lU r]:=by rw[D1,hmk];rfl
    exact⟨⟨n+1,v+1,n+1,dr++[I (lU r)],q*lU r⟩,wE,⟨hlt,rfl,by simp only;rw[tk,D2,<-hd];rfl,by simp only;rw[tk,HH,<-hq]⟩,by simp only;omega⟩
   ·have hie:n=(N6 b).length:=by omega
    rw[C7 (by omega)] at hd hq
    by_cases hbig:U6 (G0 b)>4096
    ·have e2:pE b=[]:=by unfold pE;rw[e,if_pos hbig,if_neg (by decide)]
     rw[e,if_pos hbig,e2]
     repeat' ((conv=>whnf);first|refine sT ?_|refine sP ?_ ?_<;>intro _|fail)
     all_goals(conv=>whnf)
     all_goals first|(exfalso;omega)|exact⟨DLe.nil _ _ _,DLe.refl _,rfl⟩
    ·have e2:pE b=G0 b:=by unfold pE;rw[e,if_neg hbig,if_pos rfl]
     rw[e,if_neg hbig,e2,<-hd]
     repeat' ((conv=>whnf);first|refine Nam.mk (whole hdrl.symm) ?_|refine sT ?_|refine sP ?_ ?_<;>intro _|fail)
     all_goals exact fI
 ·rw[B6 hok] at hV
  have e:jF b=360:=by unfold jF;rw[if_neg hok]
  have e2:pE b=[]:=by unfold pE;rw[if_neg (by omega)]
  rw[e,e2]
  refine pU Tryz.func19 ?_
  repeat' ((conv=>whnf);first|refine sT ?_|refine sP ?_ ?_<;>intro _|refine cA hV ?_|fail)
  all_goals(conv=>whnf)
  all_goals first|(exfalso;omega)|exact⟨DLe.nil _ _ _,DLe.refl _,rfl⟩
theorem tV (b:D7) (hb:EW b):C9 Tryz.prog 6 [.d b.d] (E5 [I (jF b)]):=by
 have hM:=kD b hb
 refine pU Tryz.func6 ?_
 repeat' ((conv=>whnf);first|refine sT ?_|refine sP ?_ ?_<;>intro _|refine cA hM ?_|fail)
 all_goals exact fJ
theorem kE (b:D7) (hb:EW b):C9 Tryz.prog 7 [.d b.d] (E5 [SL 1 ((pE b).map I),I (jF b)]):=by
 have hM:=kD b hb
 refine pU Tryz.func7 ?_
 repeat' ((conv=>whnf);first|refine sT ?_|refine sP ?_ ?_<;>intro _|refine cA hM ?_|fail)
 all_goals exact fJ
def W7 (c m:List Int):Prop:=c.length<=m.length/\∀(i:Nat) (x y:Int),c[i]? =some x->m[i]? =some y->0<=x/\x<=y-1
noncomputable instance (c m:List Int):Decidable (W7 c m):=Classical.propDecidable _
theorem kV (c m:List Int) (f1 f2:Bool) (hc:c.length<1000000) (hm:m.length<1000000) (hy:∀y∈m,0<=y/\y<=1000000):C9 Tryz.prog 50 [.d (.sl 1 f1 (c.map I)),.d (.sl 1 f2 (m.map I))] (E5 [.b (decide (W7 c m))]):=by
 have m1:(c.map I).length=c.length:=A6 _
 have m2:(m.map I).length=m.length:=A6 _
 by_cases hl:c.length<=m.length
 ·refine pU Tryz.func50 ?_
  repeat' ((conv=>whnf);first|refine Nam.mk m1 ?_|refine Nam.mk m2 ?_|refine sT ?_|refine sP ?_ ?_<;>intro _|fail)
  all_goals((conv=>whnf);try exact xO)
  refine lO (X:=Nat) (λi=>[(14,.d (I i))]) (λ_=>[]) (λi=>i<=c.length/\∀(j:Nat) (x y:Int),j<i->c[j]? =some x->m[j]? =some y->0<=x/\x<=y-1) (λi=>c.length-i) 0 sam rfl ⟨B9 _,λj x y hj=>by omega⟩ ?_
  rintro i ⟨hi,hn⟩
  by_cases hlt:i<c.length
  ·obtain⟨x,hx⟩:∃x,c[i]? =some x:=⟨_,A3 hlt⟩
   obtain⟨y,hym⟩:∃y,m[i]? =some y:=⟨_,A3 (by omega)⟩
   have hyb:=hy y (A7 hym)
   have hX:=K6 x 0 (y-1)
   by_cases hx2:0<=x/\x<=y-1
   ·rw[C2 hx2] at hX
    repeat' ((conv=>whnf);first|refine sT ?_|refine sP ?_ ?_<;>intro _|refine A9 (D4 hx) ?_|refine A9 (D4 hym) ?_|refine cA hX ?_|fail)
    all_goals(conv=>whnf)
    all_goals first|(exfalso;omega)|exact⟨i+1,wE,⟨hlt,λj x' y' hj h1 h2=>by
     by_cases e:j=i
     ·subst e;rw[hx] at h1;rw[hym] at h2;injection h1 with h1;injection h2 with h2;subst h1;subst h2;exact hx2
     ·exact hn j x' y' (by omega) h1 h2⟩,by omega⟩
   ·rw[B6 hx2] at hX
    rw[B6 (λh:W7 c m=>hx2 (h.2 i x y hx hym))]
    repeat' ((conv=>whnf);first|refine sT ?_|refine sP ?_ ?_<;>intro _|refine A9 (D4 hx) ?_|refine A9 (D4 hym) ?_|refine cA hX ?_|fail)
    all_goals exact fI
  ·rw[C2 (show W7 c m from⟨hl,λj x y h1 h2=>hn j x y (by have:=(A4.1 h1).1;omega) h1 h2⟩)]
   repeat' ((conv=>whnf);first|refine sT ?_|refine sP ?_ ?_<;>intro _|fail)
   all_goals exact fI
 ·rw[B6 (λh:W7 c m=>hl h.1)]
  refine pU Tryz.func50 ?_
  repeat' ((conv=>whnf);first|refine Nam.mk m1 ?_|refine Nam.mk m2 ?_|refine sT ?_|refine sP ?_ ?_<;>intro _|fail)
  all_goals exact fI
noncomputable def iL (b:D7) (c:List Int):Int:=if jF b≠0 then jF b else if c.length≠(pE b).length∨¬W7 c (pE b) then 1 else 0
theorem bZ {b:D7} (h:jF b=0):b.ok/\pE b=G0 b/\(G0 b).length=(N6 b).length/\(N6 b).length<=8/\∀x∈G0 b,1<=x/\x<=17:=by
 have e2:pE b=G0 b:=by unfold pE;rw[if_pos h]
 unfold jF at h
 by_cases hok:b.ok
 ·rw[if_pos hok] at h
  by_cases h8:(N6 b).length>8
  ·rw[if_pos h8] at h;exact absurd h (by decide)
  ·refine⟨hok,e2,by unfold G0;rw[A6],by omega,λx hx=> ?_⟩
   unfold G0 at hx
   obtain⟨i,hi,rfl⟩:=K4.1 hx
   obtain⟨r,hr,_⟩:=mL hi
   have:recAt b i=r:=by unfold recAt;rw[A5,hr];rfl
   rw[this];exact HD (hok.rs i r hr)
 ·rw[if_neg hok] at h;exact absurd h (by decide)
theorem tS (b:D7) (c:List Int) (f:Bool) (hb:EW b) (hc:c.length<1000000):C9 Tryz.prog 20 [.d b.d,.d (.sl 1 f (c.map I))] (E5 [I (iL b c)]):=by
 have hM:=kD b hb
 have m1:(c.map I).length=c.length:=A6 _
 have m2:((pE b).map I).length=(pE b).length:=A6 _
 by_cases he:jF b=0
 ·obtain⟨k1,k2,k3,k4,k5⟩:=bZ he
  have hB:=kV c (pE b) f false hc (by rw[k2];omega) (λy hy=>by rw[k2] at hy;have:=k5 y hy;omega)
  have hml:(pE b).length<=8:=by rw[k2];omega
  rw[he] at hM
  by_cases hl:c.length=(pE b).length
  ·by_cases hbg:W7 c (pE b)
   ·rw[C2 hbg] at hB
    have e:iL b c=0:=by unfold iL;rw[if_neg (by omega),if_neg (by rintro(h|h);exact h hl;exact h hbg)]
    rw[e]
    refine pU Tryz.func20 ?_
    repeat' ((conv=>whnf);first|refine Nam.mk m1 ?_|refine Nam.mk m2 ?_|refine sT ?_|refine sP ?_ ?_<;>intro _|refine cA hM ?_|refine cA hB ?_|fail)
    all_goals exact fI
   ·rw[B6 hbg] at hB
    have e:iL b c=1:=by unfold iL;rw[if_neg (by omega),if_pos (.inr hbg)]
    rw[e]
    refine pU Tryz.func20 ?_
    repeat' ((conv=>whnf);first|refine Nam.mk m1 ?_|refine Nam.mk m2 ?_|refine sT ?_|refine sP ?_ ?_<;>intro _|refine cA hM ?_|refine cA hB ?_|fail)
    all_goals exact fI
  ·have e:iL b c=1:=by unfold iL;rw[if_neg (by omega),if_pos (.inl hl)]
   rw[e]
   clear hB
   refine pU Tryz.func20 ?_
   repeat' ((conv=>whnf);first|refine Nam.mk m1 ?_|refine Nam.mk m2 ?_|refine sT ?_|refine sP ?_ ?_<;>intro _|refine cA hM ?_|fail)
   all_goals exact fI
 ·have e:iL b c=jF b:=by unfold iL;rw[if_pos he]
  rw[e]
  refine pU Tryz.func20 ?_
  repeat' ((conv=>whnf);first|refine Nam.mk m1 ?_|refine Nam.mk m2 ?_|refine sT ?_|refine sP ?_ ?_<;>intro _|refine cA hM ?_|fail)
  all_goals exact fI
section
variable [CN] {P:Program}
theorem H6.upd {f:FuncId} {args:List V} {H H':Hp} {r:List D} (hH:H.all (okB H.length)=true) (ha:args.all (okV H.length)=true)
 (hc:M4 P f args H λv h'=>v=E5 r/\h'.length=H.length/\h'.all (okB H.length)=true/\h'=H') (ns:List Nat) (hnd:ns.Nodup) (hq:ns.length=H.length) {args':List V} (he:args'=args.map (bG ns)) {h:Hp} (hpre:∀(i m:Nat),ns[i]? =some m->h[m]? =(H[i]?).map (P4 ns))
 {k:Res->Prop} (hk:k (.upd ns (H'.map (P4 ns)) (E5 r))):H6 P f args' h k:=
 ⟨_,hk,λbs hl hb w S h1 β argv hp hr hv=>by
   subst he
   have h2:=NS hH ha hc hnd hq (h:=h1) (λi m hi=>by rw[hp i m hi,<-hb i m hi];exact hpre i m hi) (k:=λv h'=>v=E5 r/\h'=J5 h1 ns (H'.map (P4 ns)))
    (λH1 e _=>⟨rfl,by rw[e,pV]⟩)
   rcases h2 w S β argv hr hv with⟨h1,h2⟩|⟨cv,w',h1,v',h',S',β',⟨rfl,rfl⟩,g1,g2,g3⟩
   ·refine .inl ⟨h1,λcs=> ?_⟩
    obtain⟨e,w',fr,⟨cv,he,v',h',S',β',⟨rfl,rfl⟩,g1,g2,g3⟩,r⟩:=h2 cs
    exact⟨e,w',fr,⟨cv,he,S',β',g1,g2,g3⟩,r⟩
   ·exact .inr ⟨cv,w',h1,S',β',g1,g2,g3⟩⟩
end
structure D8 where
 f:F8
 live:Bool
def D8.d (s:D8):D:=.agg [I s.f.kind,I s.f.per,I s.f.src,I s.f.dst,I s.f.amt,I s.f.label,.b s.live]
def O5:D8:=⟨⟨0,0,0,0,0,0⟩,false⟩
def modS (W:List D8) (i:Nat) (g:D8->D8):List D8:=W.set i (g (W.getD i O5))
def tD (r:Rec) (c:Int) (s:D8):D8:=⟨{s.f with amt:=s.f.amt+(c-r.n)},if s.f.amt+(c-r.n)=0 then false else s.live⟩
def LV (c:Int) (s:D8):D8:=⟨{s.f with per:=s.f.per-c},s.live⟩
def gone (s:D8):D8:=⟨s.f,false⟩
def dP (x:Int) (s:D8):D8:=⟨{s.f with dst:=x},s.live⟩
def ES (W:List D8) (i j:Nat):List D8:=modS (modS W i (dP (W.getD j O5).f.dst)) j (dP (W.getD i O5).f.dst)
def bI (W:List D8) (r:Rec) (i:Nat) (c:Int):List D8:=
 if r.kind=1 then modS W i (tD r c) else if r.kind=2 then modS W i (LV c) else if r.kind=3 then(if c=0 then modS W r.oth.toNat gone else W)
 else if r.kind=4 then(if c=1 then modS W i gone else W) else if r.kind=5 then(if c=1 then ES W i r.oth.toNat else W) else W
theorem UZ (W:List D8) (i:Nat) (g:D8->D8):(modS W i g).length=W.length:=L5 ..
theorem vG {W:List D8} {i:Nat} (h:i<W.length):∃s,W[i]? =some s/\W.getD i O5=s:=⟨W[i],A3 h,by rw[A5,A3 h];rfl⟩
theorem A4a {W:List D8} {i:Nat} {s:D8} (h:W[i]? =some s):(W.map D8.d)[0+((i:Nat):Int).toNat]? =some s.d:=by rw[C1,B0,A8,h];rfl
theorem X6 {W:List D8} {i:Nat} {s:D8} {x:Int} (hx:x.toNat=i) (h:W[i]? =some s):(W.map D8.d)[0+x.toNat]? =some s.d:=by rw[C1,hx,A8,h];rfl
theorem iO {W:List D8} {i:Nat} {x:Int} (hx:x.toNat=i) (h:i<W.length):0+x.toNat<(W.map D8.d).length:=by rw[C1,hx,A6];exact h
theorem bJ {W:List D8} {i:Nat} {s:D8} {x:Int} (hx:x.toNat=i):(W.map D8.d).set (0+x.toNat) s.d=(W.set i s).map D8.d:=by rw[C1,hx,O7]
theorem UO (W:List D8) (r:Rec) (i ver:Nat) (c:Int) (hi:i<W.length) (hb:∀s∈W,-100000<=s.f.amt/\s.f.amt<=4194304) (hc:0<=c/\c<=1000) (hn:0<=r.n/\r.n<=1000):
 let H:Hp:=[.row ver 7 false (W.map D8.d)]
 let H':Hp:=[.row ver 7 false ((modS W i (tD r c)).map D8.d)]
 M4 Tryz.prog 132 [.sref 0 ver 0 W.length false,.d r.d,.d (I i),.d (I c)] H λv h'=>v=E5 []/\h'.length=H.length/\h'.all (okB H.length)=true/\h'=H':=by
 intro H H'
 obtain⟨s,hs,hsD⟩:=vG hi
 have hsb:=hb s (A7 hs)
 have g1:=X6 (x:=(i:Int)) (by omega) hs
 have l1:=iO (W:=W) (x:=(i:Int)) (i:=i) (by omega) hi
 have hm:modS W i (tD r c)=W.set i (tD r c s):=by unfold modS;rw[hsD]
 by_cases hz:s.f.amt+(c-r.n)=0
 ·have q1:(W.map D8.d).set (0+((i:Nat):Int).toNat) (D8.d ⟨{s.f with amt:=s.f.amt+(c-r.n)},s.live⟩)=(W.set i ⟨{s.f with amt:=s.f.amt+(c-r.n)},s.live⟩).map D8.d:=bJ (by omega)
  have g2:((W.set i ⟨{s.f with amt:=s.f.amt+(c-r.n)},s.live⟩).map D8.d)[0+((i:Nat):Int).toNat]? =some (D8.d ⟨{s.f with amt:=s.f.amt+(c-r.n)},s.live⟩):=X6 (by omega) (G1 hi)
  have l2:0+((i:Nat):Int).toNat<((W.set i ⟨{s.f with amt:=s.f.amt+(c-r.n)},s.live⟩).map D8.d).length:=iO (i:=i) (x:=(i:Int)) (by omega) (by rw[L5];exact hi)
  have q2:((W.set i ⟨{s.f with amt:=s.f.amt+(c-r.n)},s.live⟩).map D8.d).set (0+((i:Nat):Int).toNat) (D8.d ⟨{s.f with amt:=s.f.amt+(c-r.n)},false⟩)=(modS W i (tD r c)).map D8.d:=by
   rw[bJ (i:=i) (by omega),List.set_set,hm];unfold tD;rw[if_pos hz]
  refine uP Tryz.func132 ?_
  repeat' ((conv=>whnf);first|refine sT ?_|refine sP ?_ ?_<;>intro _|refine A9 g1 ?_|refine J6 l1 q1 ?_|refine A9 g2 ?_|refine J6 l2 q2 ?_|fail)
  all_goals(conv=>whnf)
  all_goals first|(exfalso;omega)|(refine⟨rfl,rfl,?_⟩;first|exact rfl|exact hH.symm)
 ·have q1:(W.map D8.d).set (0+((i:Nat):Int).toNat) (D8.d ⟨{s.f with amt:=s.f.amt+(c-r.n)},s.live⟩)=(modS W i (tD r c)).map D8.d:=by
   rw[bJ (i:=i) (by omega),hm];unfold tD;rw[if_neg hz]
  have g2:((modS W i (tD r c)).map D8.d)[0+((i:Nat):Int).toNat]? =some (D8.d ⟨{s.f with amt:=s.f.amt+(c-r.n)},s.live⟩):=X6 (i:=i) (by omega) (by rw[hm,G1 hi];unfold tD;rw[if_neg hz])
  refine uP Tryz.func132 ?_
  repeat' ((conv=>whnf);first|refine sT ?_|refine sP ?_ ?_<;>intro _|refine A9 g1 ?_|refine J6 l1 q1 ?_|refine A9 g2 ?_|fail)
  all_goals(conv=>whnf)
  all_goals first|(exfalso;omega)|(refine⟨rfl,rfl,?_⟩;first|exact rfl|exact hH.symm)
theorem UN (W:List D8) (r:Rec) (i ver:Nat) (c:Int) (hi:i<W.length) (hb:∀s∈W,-100000<=s.f.per/\s.f.per<=4194304) (hc:0<=c/\c<=1000):
 let H:Hp:=[.row ver 7 false (W.map D8.d)]
 let H':Hp:=[.row ver 7 false ((modS W i (LV c)).map D8.d)]
 M4 Tryz.prog 133 [.sref 0 ver 0 W.length false,.d r.d,.d (I i),.d (I c)] H λv h'=>v=E5 []/\h'.length=H.length/\h'.all (okB H.length)=true/\h'=H':=by
 intro H H'
 obtain⟨s,hs,hsD⟩:=vG hi
 have hsb:=hb s (A7 hs)
 have g1:=X6 (x:=(i:Int)) (by omega) hs
 have l1:=iO (W:=W) (x:=(i:Int)) (i:=i) (by omega) hi
 have q1:(W.map D8.d).set (0+((i:Nat):Int).toNat) (D8.d ⟨{s.f with per:=s.f.per-c},s.live⟩)=(modS W i (LV c)).map D8.d:=by
  rw[bJ (i:=i) (by omega)];unfold modS LV;rw[hsD]
 refine uP Tryz.func133 ?_
 repeat' ((conv=>whnf);first|refine sT ?_|refine sP ?_ ?_<;>intro _|refine A9 g1 ?_|refine J6 l1 q1 ?_|fail)
 all_goals(conv=>whnf)
 all_goals first|(exfalso;omega)|(refine⟨rfl,rfl,?_⟩;first|exact rfl|exact hH.symm)
theorem UM (W:List D8) (r:Rec) (i ver:Nat) (c:Int) (hj:0<=r.oth/\r.oth<=(W.length:Int)-1) (hl:W.length<1000000):
 let H:Hp:=[.row ver 7 false (W.map D8.d)]
 let H':Hp:=[.row ver 7 false ((if c=0 then modS W r.oth.toNat gone else W).map D8.d)]
 M4 Tryz.prog 134 [.sref 0 ver 0 W.length false,.d r.d,.d (I i),.d (I c)] H λv h'=>v=E5 []/\h'.length=H.length/\h'.all (okB H.length)=true/\h'=H':=by
 intro H H'
 obtain⟨s,hs,hsD⟩:=vG (W:=W) (i:=r.oth.toNat) (by omega)
 have g1:=X6 (x:=r.oth) rfl hs
 have l1:=iO (W:=W) (x:=r.oth) rfl (by omega)
 have q1:(W.map D8.d).set (0+r.oth.toNat) (D8.d ⟨s.f,false⟩)=(modS W r.oth.toNat gone).map D8.d:=by
  rw[bJ rfl];unfold modS gone;rw[hsD]
 by_cases hc:c=0
 ·have hH:H'=[.row ver 7 false ((modS W r.oth.toNat gone).map D8.d)]:=by show [_]=_;rw[if_pos hc]
  refine uP Tryz.func134 ?_
  repeat' ((conv=>whnf);first|refine sT ?_|refine sP ?_ ?_<;>intro _|refine A9 g1 ?_|refine J6 l1 q1 ?_|fail)
  all_goals(conv=>whnf)
  all_goals first|(exfalso;omega)|(refine⟨rfl,rfl,?_⟩;first|exact rfl|exact hH.symm)
 ·have hH:H'=[.row ver 7 false (W.map D8.d)]:=by show [_]=_;rw[if_neg hc]
  refine uP Tryz.func134 ?_
  repeat' ((conv=>whnf);first|refine sT ?_|refine sP ?_ ?_<;>intro _|refine A9 g1 ?_|refine J6 l1 q1 ?_|fail)
  all_goals(conv=>whnf)
  all_goals first|(exfalso;omega)|(refine⟨rfl,rfl,?_⟩;first|exact rfl|exact hH.symm)
theorem UL (W:List D8) (r:Rec) (i ver:Nat) (c:Int) (hi:i<W.length) (hl:W.length<1000000):
 let H:Hp:=[.row ver 7 false (W.map D8.d)]
 let H':Hp:=[.row ver 7 false ((if c=1 then modS W i gone else W).map D8.d)]
 M4 Tryz.prog 135 [.sref 0 ver 0 W.length false,.d r.d,.d (I i),.d (I c)] H λv h'=>v=E5 []/\h'.length=H.length/\h'.all (okB H.length)=true/\h'=H':=by
 intro H H'
 obtain⟨s,hs,hsD⟩:=vG hi
 have g1:=X6 (x:=(i:Int)) (by omega) hs
 have l1:=iO (W:=W) (x:=(i:Int)) (i:=i) (by omega) hi
 have q1:(W.map D8.d).set (0+((i:Nat):Int).toNat) (D8.d ⟨s.f,false⟩)=(modS W i gone).map D8.d:=by
  rw[bJ (i:=i) (by omega)];unfold modS gone;rw[hsD]
 by_cases hc:c=1
 ·have hH:H'=[.row ver 7 false ((modS W i gone).map D8.d)]:=by show [_]=_;rw[if_pos hc]
  refine uP Tryz.func135 ?_
  repeat' ((conv=>whnf);first|refine sT ?_|refine sP ?_ ?_<;>intro _|refine A9 g1 ?_|refine J6 l1 q1 ?_|fail)
  all_goals(conv=>whnf)
  all_goals first|(exfalso;omega)|(refine⟨rfl,rfl,?_⟩;first|exact rfl|exact hH.symm)
 ·have hH:H'=[.row ver 7 false (W.map D8.d)]:=by show [_]=_;rw[if_neg hc]
  refine uP Tryz.func135 ?_
  repeat' ((conv=>whnf);first|refine sT ?_|refine sP ?_ ?_<;>intro _|refine A9 g1 ?_|refine J6 l1 q1 ?_|fail)
  all_goals(conv=>whnf)
  all_goals first|(exfalso;omega)|(refine⟨rfl,rfl,?_⟩;first|exact rfl|exact hH.symm)
theorem UK (W:List D8) (r:Rec) (i ver:Nat) (c:Int) (hi:i<W.length) (hj:0<=r.oth/\r.oth<=(W.length:Int)-1) (hij:r.oth≠i) (hl:W.length<1000000):
 let H:Hp:=[.row ver 7 false (W.map D8.d)]
 let H':Hp:=[.row ver 7 false ((if c=1 then ES W i r.oth.toNat else W).map D8.d)]
 M4 Tryz.prog 136 [.sref 0 ver 0 W.length false,.d r.d,.d (I i),.d (I c)] H λv h'=>v=E5 []/\h'.length=H.length/\h'.all (okB H.length)=true/\h'=H':=by
 intro H H'
 obtain⟨s,hs,hsD⟩:=vG hi
 obtain⟨t,ht,htD⟩:=vG (W:=W) (i:=r.oth.toNat) (by omega)
 have g1:=X6 (x:=(i:Int)) (by omega) hs
 have g2:=X6 (x:=r.oth) rfl ht
 have l1:=iO (W:=W) (x:=(i:Int)) (i:=i) (by omega) hi
 have q1:(W.map D8.d).set (0+((i:Nat):Int).toNat) (D8.d ⟨{s.f with dst:=t.f.dst},s.live⟩)=(modS W i (dP t.f.dst)).map D8.d:=by
  rw[bJ (i:=i) (by omega)];unfold modS dP;rw[hsD]
 have ht2:(modS W i (dP t.f.dst))[r.oth.toNat]? =some t:=by unfold modS;rw[C3 (by omega),ht]
 have g3:=X6 (x:=r.oth) rfl ht2
 have l2:=iO (W:=modS W i (dP t.f.dst)) (x:=r.oth) rfl (by rw[UZ];omega)
 have q2:((modS W i (dP t.f.dst)).map D8.d).set (0+r.oth.toNat) (D8.d ⟨{t.f with dst:=s.f.dst},t.live⟩)=(ES W i r.oth.toNat).map D8.d:=by
  rw[bJ rfl]
  unfold ES
  rw[hsD,htD]
  have e:(modS W i (dP t.f.dst)).getD r.oth.toNat O5=t:=by rw[A5,ht2];rfl
  show _=(List.set _ _ (dP s.f.dst ((modS W i (dP t.f.dst)).getD r.oth.toNat O5))).map D8.d
  rw[e];rfl
 by_cases hc:c=1
 ·have hH:H'=[.row ver 7 false ((ES W i r.oth.toNat).map D8.d)]:=by show [_]=_;rw[if_pos hc]
  refine uP Tryz.func136 ?_
  repeat' ((conv=>whnf);first|refine sT ?_|refine sP ?_ ?_<;>intro _|refine A9 g1 ?_|refine A9 g2 ?_|refine J6 l1 q1 ?_|refine A9 g3 ?_|refine J6 l2 q2 ?_|fail)
  all_goals(conv=>whnf)
  all_goals first|(exfalso;omega)|(refine⟨rfl,rfl,?_⟩;first|exact rfl|exact hH.symm)
 ·have hH:H'=[.row ver 7 false (W.map D8.d)]:=by show [_]=_;rw[if_neg hc]
  refine uP Tryz.func136 ?_
  repeat' ((conv=>whnf);first|refine sT ?_|refine sP ?_ ?_<;>intro _|fail)
  all_goals(conv=>whnf)
  all_goals first|(exfalso;omega)|(refine⟨rfl,rfl,?_⟩;first|exact rfl|exact hH.symm)
def nX (b:D7):List D8:=b.recs.map λr=>⟨r.f,decide (r.kind≠6)⟩
def I7 (b:D7) (c:List Int):Nat->List D8
 |0=>nX b
 |k+1=>bI (I7 b c k) (recAt b ((N6 b).getD k 0)) ((N6 b).getD k 0) (c.getD k 0)
def R8 (b:D7) (c:List Int):List D8:=I7 b c (N6 b).length
theorem B2i (W:List D8) (r:Rec) (i:Nat) (c:Int):(bI W r i c).length=W.length:=by
 unfold bI ES
 (repeat' split)<;>simp[UZ]
theorem U1 (b:D7) (c:List Int):∀k,(I7 b c k).length=b.recs.length
 |0=>A6 _
 |k+1=>by rw[I7,B2i,U1 b c k]
def qO (k:Int) (W:List D8):Prop:=∀s∈W,(-(1000*k)<=s.f.amt/\s.f.amt<=1048576+1000*k)/\(-(1000*k)<=s.f.per/\s.f.per<=1000+1000*k)
theorem A7w {k:Int} {W:List D8} (h:qO k W) (hk:0<=k):∀s∈O5::W,(-(1000*k)<=s.f.amt/\s.f.amt<=1048576+1000*k)/\(-(1000*k)<=s.f.per/\s.f.per<=1000+1000*k):=λs hs=>by
 rcases J0.1 hs with rfl|hs
 ·simp only[O5];omega
 ·exact h s hs
theorem qO.mono {k k':Int} {W:List D8} (h:qO k W) (hk:k<=k'):qO k' W:=λs hs=>by have:=h s hs;omega
theorem qO.modS {k k':Int} {W:List D8} (h:qO k W) (hk:0<=k) (hkk:k<=k') (i:Nat) (g:D8->D8)
 (hg:∀s,(-(1000*k)<=s.f.amt/\s.f.amt<=1048576+1000*k)/\(-(1000*k)<=s.f.per/\s.f.per<=1000+1000*k)->(-(1000*k')<=(g s).f.amt/\(g s).f.amt<=1048576+1000*k')/\(-(1000*k')<=(g s).f.per/\(g s).f.per<=1000+1000*k')):qO k' (modS W i g):=λs hs=>by
 have ha:=A7w h hk
 unfold Go.PM.modS at hs
 rcases S9 hs with hs|rfl
 ·have:=h s hs;omega
 ·refine hg _ (ha _ ?_)
  rw[A5]
  cases hh:W[i]? with
  |none=>exact .head _
  |some t=>exact .tail _ (A7 hh)
theorem qO.act {k:Int} {W:List D8} (h:qO k W) (hk:0<=k) {r:Rec} (hn:0<=r.n/\r.n<=8) {c:Int} (hc:0<=c/\c<=100) (i:Nat):qO (k+1) (bI W r i c):=by
 have up:qO (k+1) W:=h.mono (by omega)
 unfold bI
 split
 ·exact h.modS hk (by omega) i _ λs hs=>by simp only[tD];omega
 ·split
  ·exact h.modS hk (by omega) i _ λs hs=>by simp only[LV];omega
  ·split
   ·split
    ·exact h.modS hk (by omega) _ _ λs hs=>by simp only[gone];omega
    ·exact up
   ·split
    ·split
     ·exact h.modS hk (by omega) _ _ λs hs=>by simp only[gone];omega
     ·exact up
    ·split
     ·split
      ·exact(h.modS (k':=k) hk (by omega) _ _ λs hs=>by simp only[dP];omega).modS hk (by omega) _ _ λs hs=>by simp only[dP];omega
      ·exact up
     ·exact up
theorem B1w {b:D7} (hb:b.ok):qO 1 (nX b):=λs hs=>by
 unfold nX at hs
 obtain⟨r,hr,rfl⟩:=K4.1 hs
 obtain⟨i,hi⟩:=D9.1 hr
 have h:=(hb.rs i r hi).2.2
 have hp:=hb.p
 simp only
 split at h
 ·unfold F8.okC at h;omega
 ·unfold F8.ok at h;omega
theorem rH {b:D7} (hb:b.ok) {c:List Int} (hc:∀x∈c,0<=x/\x<=100):∀k:Nat,qO (1+k) (I7 b c k)
 |0=>B1w hb
 |k+1=>by
  have ih:=rH hb hc k
  have hn:0<=(recAt b ((N6 b).getD k 0)).n/\(recAt b ((N6 b).getD k 0)).n<=8:=by
   unfold recAt
   rw[A5]
   cases hh:b.recs[(N6 b).getD k 0]? with
   |none=>exact⟨by decide,by decide⟩
   |some r=>have:=(hb.rs _ r hh).1;unfold eJ at this;simp only[O0];split at this<;>omega
  have hcc:0<=c.getD k 0/\c.getD k 0<=100:=by
   rw[A5]
   cases hh:c[k]? with
   |none=>exact⟨by decide,by decide⟩
   |some x=>exact hc x (A7 hh)
  have:=ih.act (by omega) hn hcc ((N6 b).getD k 0)
  rw[I7]
  exact this.mono (by omega)
def xT (k:FuncId):D:=.k (.func (.func k) #[] #[])
def xS:List D:=[.k .nilFunc,xT 132,xT 133,xT 134,xT 135,xT 136,.k .nilFunc]
theorem pM:C9 Tryz.prog 92 [] (E5 [.agg xS]):=by
 refine pU Tryz.func92 ?_
 repeat' ((conv=>whnf);first|refine sT ?_|refine sP ?_ ?_<;>intro _|fail)
 all_goals exact fJ
theorem cJ {h:Hp} {a:Nat} {x:Blk} (hx:h[a]? =some x) (hr:P4 [a] x=x):∀(i m:Nat),[a][i]? =some m->h[m]? =([x][i]?).map (P4 [a])
 |0,m,e=>by simp at e;subst e;rw[hx];show some x=some (P4 [a] x);rw[hr]
 |i+1,m,e=>by simp at e
theorem B1v {b:D7} {i:Nat} {r:Rec} (h:b.recs[i]? =some r):(nX b)[i]? =some ⟨r.f,decide (r.kind≠6)⟩:=by unfold nX;rw[A8,h];rfl
def pQ (b:D7) (W:List D8) (i:Nat):List D8:=(nX b).take i++W.drop i
theorem HZ {b:D7} {i:Nat} (hi:i<=b.recs.length):((nX b).take i).length=i:=by rw[D0,nX,A6];omega
theorem IA {b:D7} {W:List D8} {i:Nat} (hW:W.length=b.recs.length) (hi:i<=b.recs.length):(pQ b W i).length=b.recs.length:=by
 unfold pQ;rw[B4,HZ hi,aA];omega
theorem VD {b:D7} {W:List D8} {i:Nat} (hW:W.length=b.recs.length) (hi:i<b.recs.length):∃s,(pQ b W i)[i]? =some s:=⟨_,A3 (by rw[IA hW (by omega)];exact hi)⟩
theorem NF {b:D7} {W:List D8} {i:Nat} {r:Rec} (hW:W.length=b.recs.length) (h:b.recs[i]? =some r):(pQ b W i).set i ⟨r.f,decide (r.kind≠6)⟩=pQ b W (i+1):=by
 have hi:=(A4.1 h).1
 unfold pQ
 rw[K8 _ _ (by rw[HZ (by omega)];exact B1 _),HZ (by omega),G2,D1,B1v h]
 have:W.drop i=W[i]'(by omega)::W.drop (i+1):=(List.getElem_cons_drop (h:=by omega)).symm
 rw[this,E9];simp
theorem VE {b:D7} {W:List D8} (hW:W.length=b.recs.length):pQ b W b.recs.length=nX b:=by
 unfold pQ
 rw[C7 (by unfold nX;simp),pA (by omega),I3]
theorem BB (b:D7) (hb:b.ok) (hd:(N6 b).length<=8) (W:List D8) (hW:W.length=b.recs.length) (ver:Nat) (c:List Int) (f:Bool) (hc:c.length=(N6 b).length) (hcx:∀x∈c,0<=x/\x<=100):
 let H:Hp:=[.vard b.d.cells,.var [.sref 4 ver 0 b.recs.length false],.vard [SL 1 ((N6 b).map λi=>I (i:Nat))],.vard xS,.row ver 7 false (W.map D8.d)]
 let H':Hp:=[.vard b.d.cells,.var [.sref 4 ver 0 b.recs.length false],.vard [SL 1 ((N6 b).map λi=>I (i:Nat))],.vard xS,.row ver 7 false ((R8 b c).map D8.d)]
 M4 Tryz.prog 93 [.d (.sl 1 f (c.map I)),.ptr 0 0 0 0,.ptr 1 0 0 0,.ptr 2 0 0 0,.ptr 3 0 0 0] H λv h'=>okV H.length v=true/\h'.length=H.length/\h'.all (okB H.length)=true/\(v=.sref 4 ver 0 b.recs.length false/\h'=H'):=by
 intro H H'
 have hr64:=hb.r
 have m1:(b.recs.map Rec.d).length=b.recs.length:=A6 _
 have m2:((N6 b).map λi=>I (i:Nat)).length=(N6 b).length:=A6 _
 refine mI (E:=P9 Tryz.prog tt Tryz.f93.ntmps) (I6 T5 mixed) Tryz.func93 (by rfl) rfl (B5 rfl) ?_
 repeat' ((conv=>whnf);first|refine Nam.mk m1 ?_|refine sT ?_|refine sP ?_ ?_<;>intro _|fail)
 all_goals(conv=>whnf)
 refine lO (X:=Nat) (λi=>[(15,.d (I i))]) (λi=>[(4,.row ver 7 false ((pQ b W i).map D8.d))]) (λi=>i<=b.recs.length) (λi=>b.recs.length-i) 0 sam rfl (B9 _) ?_
 intro i hi
 by_cases hlt:i<b.recs.length
 ·obtain⟨r,hr⟩:∃r,b.recs[i]? =some r:=⟨_,A3 hlt⟩
  obtain⟨s,hs⟩:=VD hW hlt
  have hnx:=NF hW hr
  have g1:=X6 (x:=(i:Int)) (by omega) hs
  have l1:=iO (W:=pQ b W i) (x:=(i:Int)) (i:=i) (by omega) (by rw[IA hW hi];exact hlt)
  by_cases k6:r.kind=6
  ·have q1:((pQ b W i).map D8.d).set (0+((i:Nat):Int).toNat) (D8.d ⟨r.f,false⟩)=(pQ b W (i+1)).map D8.d:=by
    rw[bJ (i:=i) (by omega),<-hnx,B6 (λh=>h k6)]
   repeat' ((conv=>whnf);first|refine Nam.mk m1 ?_|refine sT ?_|refine sP ?_ ?_<;>intro _|refine A9 (D4 hr) ?_|refine A9 g1 ?_|refine J6 l1 q1 ?_|fail)
   all_goals(conv=>whnf)
   all_goals first|(exfalso;omega)|exact⟨i+1,wE,hlt,by omega⟩
  ·have q1:((pQ b W i).map D8.d).set (0+((i:Nat):Int).toNat) (D8.d ⟨r.f,true⟩)=(pQ b W (i+1)).map D8.d:=by
    rw[bJ (i:=i) (by omega),<-hnx,C2 k6]
   repeat' ((conv=>whnf);first|refine Nam.mk m1 ?_|refine sT ?_|refine sP ?_ ?_<;>intro _|refine A9 (D4 hr) ?_|refine A9 g1 ?_|refine J6 l1 q1 ?_|fail)
   all_goals(conv=>whnf)
   all_goals first|(exfalso;omega)|exact⟨i+1,wE,hlt,by omega⟩
 ·have hie:i=b.recs.length:=by omega
  rw[hie,VE hW]
  repeat' ((conv=>whnf);first|refine Nam.mk m2 ?_|refine sT ?_|refine sP ?_ ?_<;>intro _|fail)
  all_goals((conv=>whnf);try exact xO)
  clear hi hlt hie
  refine lO (X:=Nat) (λk=>[(32,.d (I k))]) (λk=>[(4,.row ver 7 false ((I7 b c k).map D8.d))]) (λk=>k<=(N6 b).length) (λk=>(N6 b).length-k) 0 sam rfl (B9 _) ?_
  intro k hk
  by_cases hlt:k<(N6 b).length
  ·obtain⟨i,hi⟩:∃i,(N6 b)[k]? =some i:=⟨_,A3 hlt⟩
   obtain⟨r,hr,hdb⟩:=mL (A7 hi)
   obtain⟨x,hx⟩:∃x,c[k]? =some x:=⟨_,A3 (by omega)⟩
   have hxb:=hcx x (A7 hx)
   have hil:=(A4.1 hr).1
   have hro:=hb.rs i r hr
   have hoth:=hro.2.1
   have hrn:0<=r.n/\r.n<=8:=by have:=hro.1;unfold eJ at this;split at this<;>omega
   have hkr:=hro.1.1
   have hnd:r.kind≠0/\r.kind≠6:=G4 hdb
   have hiD:(N6 b).getD k 0=i:=by rw[A5,hi];rfl
   have hxD:c.getD k 0=x:=by rw[A5,hx];rfl
   have hrA:recAt b i=r:=by unfold recAt;rw[A5,hr];rfl
   have hst:I7 b c (k+1)=bI (I7 b c k) r i x:=by rw[I7,hiD,hrA,hxD]
   have hbn:=rH hb hcx k
   have hlen:=U1 b c k
   have gk:((N6 b).map λi=>I (i:Nat))[((k:Nat):Int).toNat]? =some (I (i:Nat)):=by rw[B0,A8,hi];rfl
   have gc:(c.map I)[((k:Nat):Int).toNat]? =some (I x):=by rw[B0,A8,hx];rfl
   have hoj:r.kind=3∨r.kind=5->(0<=r.oth/\r.oth<=(b.recs.length:Int)-1)/\r.oth≠i:=λh=>by
    unfold jJ at hoth
    rw[if_neg (by omega)] at hoth
    exact⟨hoth.1,hoth.2.1⟩
   have hcs:r.kind=1∨r.kind=2∨r.kind=3∨r.kind=4∨r.kind=5:=by omega
   clear hoth hro hdb
   rcases hcs with hk1|hk2|hk3|hk4|hk5
   ·have hA:bI (I7 b c k) r i x=modS (I7 b c k) i (tD r x):=by unfold bI;rw[if_pos hk1]
    have hR:=UO (I7 b c k) r i ver x (by omega) (λs hs=>by have:=hbn s hs;omega) (by omega) (by omega)
    dsimp only at hR
    rw[U1,<-hA,<-hst] at hR
    have gf:xS[0+r.kind.toNat*1]? =some (xT 132):=by rw[hk1];rfl
    repeat' ((conv=>whnf);first|refine Nam.mk m2 ?_|refine sT ?_|refine sP ?_ ?_<;>intro _|refine A9 gk ?_|refine A9 (D4 hr) ?_|refine A9 gc ?_|refine A9 gf ?_|refine H6.upd rfl rfl hR [4] (by decide) rfl rfl (cJ rfl rfl) ?_|refine E6.upd rfl rfl hR [4] (by decide) rfl rfl (cJ rfl rfl) ?_|fail)
    all_goals(conv=>whnf)
    all_goals first|(exfalso;omega)|exact⟨k+1,wE,hlt,by omega⟩
   ·have hA:bI (I7 b c k) r i x=modS (I7 b c k) i (LV x):=by unfold bI;rw[if_neg (by omega),if_pos hk2]
    have hR:=UN (I7 b c k) r i ver x (by omega) (λs hs=>by have:=hbn s hs;omega) (by omega)
    dsimp only at hR
    rw[U1,<-hA,<-hst] at hR
    have gf:xS[0+r.kind.toNat*1]? =some (xT 133):=by rw[hk2];rfl
    repeat' ((conv=>whnf);first|refine Nam.mk m2 ?_|refine sT ?_|refine sP ?_ ?_<;>intro _|refine A9 gk ?_|refine A9 (D4 hr) ?_|refine A9 gc ?_|refine A9 gf ?_|refine H6.upd rfl rfl hR [4] (by decide) rfl rfl (cJ rfl rfl) ?_|refine E6.upd rfl rfl hR [4] (by decide) rfl rfl (cJ rfl rfl) ?_|fail)
    all_goals(conv=>whnf)
    all_goals first|(exfalso;omega)|exact⟨k+1,wE,hlt,by omega⟩
   ·have hA:bI (I7 b c k) r i x=(if x=0 then modS (I7 b c k) r.oth.toNat gone else I7 b c k):=by unfold bI;rw[if_neg (by omega),if_neg (by omega),if_pos hk3]
    have hR:=UM (I7 b c k) r i ver x (by have:=hoj (.inl hk3);omega) (by omega)
    dsimp only at hR
    rw[U1,<-hA,<-hst] at hR
    have gf:xS[0+r.kind.toNat*1]? =some (xT 134):=by rw[hk3];rfl
    repeat' ((conv=>whnf);first|refine Nam.mk m2 ?_|refine sT ?_|refine sP ?_ ?_<;>intro _|refine A9 gk ?_|refine A9 (D4 hr) ?_|refine A9 gc ?_|refine A9 gf ?_|refine H6.upd rfl rfl hR [4] (by decide) rfl rfl (cJ rfl rfl) ?_|refine E6.upd rfl rfl hR [4] (by decide) rfl rfl (cJ rfl rfl) ?_|fail)
    all_goals(conv=>whnf)
    all_goals first|(exfalso;omega)|exact⟨k+1,wE,hlt,by omega⟩
   ·have hA:bI (I7 b c k) r i x=(if x=1 then modS (I7 b c k) i gone else I7 b c k):=by unfold bI;rw[if_neg (by omega),if_neg (by omega),if_neg (by omega),if_pos hk4]
    have hR:=UL (I7 b c k) r i ver x (by omega) (by omega)
    dsimp only at hR
    rw[U1,<-hA,<-hst] at hR
    have gf:xS[0+r.kind.toNat*1]? =some (xT 135):=by rw[hk4];rfl
    repeat' ((conv=>whnf);first|refine Nam.mk m2 ?_|refine sT ?_|refine sP ?_ ?_<;>intro _|refine A9 gk ?_|refine A9 (D4 hr) ?_|refine A9 gc ?_|refine A9 gf ?_|refine H6.upd rfl rfl hR [4] (by decide) rfl rfl (cJ rfl rfl) ?_|refine E6.upd rfl rfl hR [4] (by decide) rfl rfl (cJ rfl rfl) ?_|fail)
    all_goals(conv=>whnf)
    all_goals first|(exfalso;omega)|exact⟨k+1,wE,hlt,by omega⟩
   ·have hA:bI (I7 b c k) r i x=(if x=1 then ES (I7 b c k) i r.oth.toNat else I7 b c k):=by unfold bI;rw[if_neg (by omega),if_neg (by omega),if_neg (by omega),if_neg (by omega),if_pos hk5]
    have hR:=UK (I7 b c k) r i ver x (by omega) (by have:=hoj (.inr hk5);omega) (hoj (.inr hk5)).2 (by omega)
    dsimp only at hR
    rw[U1,<-hA,<-hst] at hR
    have gf:xS[0+r.kind.toNat*1]? =some (xT 136):=by rw[hk5];rfl
    repeat' ((conv=>whnf);first|refine Nam.mk m2 ?_|refine sT ?_|refine sP ?_ ?_<;>intro _|refine A9 gk ?_|refine A9 (D4 hr) ?_|refine A9 gc ?_|refine A9 gf ?_|refine H6.upd rfl rfl hR [4] (by decide) rfl rfl (cJ rfl rfl) ?_|refine E6.upd rfl rfl hR [4] (by decide) rfl rfl (cJ rfl rfl) ?_|fail)
    all_goals(conv=>whnf)
    all_goals first|(exfalso;omega)|exact⟨k+1,wE,hlt,by omega⟩
  ·have hke:k=(N6 b).length:=by omega
   subst hke
   repeat' ((conv=>whnf);first|refine sT ?_|refine sP ?_ ?_<;>intro _|fail)
   all_goals(conv=>whnf)
   all_goals first|(exfalso;omega)|exact⟨rfl,rfl,rfl,rfl⟩
theorem B2a {h:Hp} {g:Blk->Blk}:∀(i m:Nat),([]:List Nat)[i]? =some m->h[m]? =(([]:Hp)[i]?).map g:=λi m h=>by simp at h
theorem wC {n:Nat} {ns:List Nat} {h H:Hp} {b:Blk} {g:Blk->Blk} (e:h[n]? =some (g b)) (r:∀(i m:Nat),ns[i]? =some m->h[m]? =(H[i]?).map g):∀(i m:Nat),(n::ns)[i]? =some m->h[m]? =((b::H)[i]?).map g:=λi m hi=>by
 cases i with
 |zero=>simp at hi;subst hi;exact e
 |succ i=>exact r i m (by simpa using hi)
theorem aN {ns:List Nat} {h H:Hp} {g:Blk->Blk} (e:∀(i m:Nat),ns[i]? =some m->h[m]? =(H[i]?).map g:=by repeat(first|exact B2a|refine wC rfl ?_)):∀(i m:Nat),ns[i]? =some m->h[m]? =(H[i]?).map g:=e
def T1 (b:D7) (c:List Int):V8:=⟨b.op,b.per,((R8 b c).filter D8.live).map D8.f⟩
theorem cI (b:D7) (c:List Int):(R8 b c).length=b.recs.length:=U1 b c _
theorem wY (xs:List Int) (h0:0<xs.length) (h:xs.length<1000000):T8 Tryz.prog 54 [.d (SL 1 (xs.map I))] 1 (xs.map I):=by
 have m1:(xs.map I).length=xs.length:=A6 _
 refine rO Tryz.func54 ?_
 repeat' ((conv=>whnf);first|refine Nam.mk m1 ?_|refine sT ?_|refine sP ?_ ?_<;>intro _|refine MA.both (λhz=> ?_) ?_|fail)
 all_goals(conv=>whnf)
 all_goals first|exact hz.symm|exact Nam.mk (whole (by simp)) rfl
def uM (b:D7) (c:List Int) (i:Nat):List D:=((((R8 b c).take i).filter D8.live).map D8.f).map F8.d
theorem VZ {b:D7} {c:List Int} {i:Nat} {s:D8} (h:(R8 b c)[i]? =some s):uM b c (i+1)=uM b c i++if s.live then [s.f.d] else []:=by
 unfold uM
 rw[D1,h,L6,D2,D2]
 congr 1
 cases hl:s.live<;>simp[hl]
theorem JN (b:D7) (c:List Int) (i:Nat):(uM b c i).length<=i:=by
 unfold uM
 rw[A6,A6]
 refine F5 (L0 _ _) ?_
 rw[D0];exact Nat.min_le_left _ _
theorem pN (b:D7) (hb:b.ok) (ho0:0<b.op.length) (hd:(N6 b).length<=8) (c:List Int) (f:Bool) (hc:c.length=(N6 b).length) (hcx:∀x∈c,0<=x/\x<=100):
 C9 Tryz.prog 22 [.d b.d,.d (.sl 1 f (c.map I))] (E5 [(T1 b c).d]):=by
 have hr64:=hb.r
 have ho16:=hb.o
 have hD:=iS b ⟨by omega,by omega⟩
 have hCl:C9 Tryz.prog 54 [.d (SL 1 (b.op.map I))] (E5 [SL 1 (b.op.map I)]):=bQ rfl (wY b.op ho0 (by omega))
 have m1:(b.recs.map Rec.d).length=b.recs.length:=A6 _
 have m3:((R8 b c).map D8.d).length=b.recs.length:=by rw[A6,cI]
 have hR:=BB b hb hd (List.replicate b.recs.length O5) (by simp) 0 c f hc hcx
 refine pU Tryz.func22 ?_
 repeat' ((conv=>whnf);first|refine Nam.mk m1 ?_|refine sT ?_|refine sP ?_ ?_<;>intro _|refine cA hCl ?_|refine bO Tryz.func55 ?_|refine cA pM ?_|refine cA hD ?_|fail)
 all_goals(conv=>whnf)
 refine E6.updV rfl rfl hR [2,6,4,3,5] (by decide) rfl rfl (wC rfl (wC rfl (wC rfl (wC rfl (wC ?_ B2a))))) ?_
 ·show some (Blk.row 0 7 false (List.replicate ((b.recs.length:Nat):Int).toNat O5.d))=some (Blk.row 0 7 false ((List.replicate b.recs.length O5).map D8.d))
  rw[M8];rfl
 ·rintro _ _ ⟨rfl,rfl⟩ _
  repeat' ((conv=>whnf);first|refine sT ?_|refine sP ?_ ?_<;>intro _|fail)
  all_goals(conv=>whnf)
  refine L3.virtC 1 2 0 6 false (by decide) rfl rfl ?_
  conv=>whnf
  refine lO (X:=XS) (λx=>[(19,.d (I x.i))]) (λx=>[(1,.var [.d (SL 1 (b.op.map I)),.d (I b.per),.sref 7 x.v 0 x.n false]),(7,.row x.v 6 false x.dr)]) (λx=>x.i<=b.recs.length/\x.n=x.dr.length/\x.dr=uM b c x.i) (λx=>b.recs.length-x.i) ⟨0,0,0,[]⟩ sam rfl ⟨B9 _,rfl,rfl⟩ ?_
  rintro⟨i,v,n,dr⟩ ⟨hi,hn,hdr⟩
  dsimp only at hi hn hdr
  dsimp only
  have hnl:n<=i:=by rw[hn,hdr];exact JN _ _ _
  by_cases hlt:i<b.recs.length
  ·obtain⟨s,hs⟩:∃s,(R8 b c)[i]? =some s:=⟨_,A3 (by rw[cI];exact hlt)⟩
   have g1:=X6 (x:=(i:Int)) (by omega) hs
   have hst:=VZ hs
   have ck1:0+n=dr.length:=by omega
   have ck2:n+1<=room:=by simp[room];omega
   obtain⟨sf,sl⟩:=s
   cases sl with
   |true=>
    rw[if_pos rfl] at hst
    repeat' ((conv=>whnf);first|refine sT ?_|refine sP ?_ ?_<;>intro _|refine A9 g1 ?_|refine Chk.mk ⟨rfl,ck1,ck2⟩ ?_|fail)
    all_goals(conv=>whnf)
    all_goals first|(exfalso;omega)|exact⟨⟨i+1,v+1,n+1,dr++[sf.d]⟩,wE,⟨hlt,by simp[hn],by simp only;rw[hst,<-hdr]⟩,by simp only;omega⟩
   |false=>
    rw[if_neg (λh=>Bool.noConfusion h),I3] at hst
    repeat' ((conv=>whnf);first|refine sT ?_|refine sP ?_ ?_<;>intro _|refine A9 g1 ?_|fail)
    all_goals(conv=>whnf)
    all_goals first|(exfalso;omega)|exact⟨⟨i+1,v,n,dr⟩,wE,⟨hlt,hn,by simp only;rw[hst,<-hdr]⟩,by simp only;omega⟩
  ·have hie:i=b.recs.length:=by omega
   subst hie
   repeat' ((conv=>whnf);first|refine sT ?_|refine sP ?_ ?_<;>intro _|fail)
   all_goals((conv=>whnf);try exact xO)
   refine Nam.mk (whole hn) ?_
   conv=>whnf
   have e:dr=(T1 b c).fl.map F8.d:=by
    rw[hdr];unfold uM T1
    rw[C7 (by rw[cI];exact B1 _)]
   rw[e]
   exact DLe.refl _
theorem jQ (b:D7) (hw:EW b) (ho0:0<b.op.length) (c:List Int) (f:Bool) (hc:iL b c=0) (hcl:c.length<1000000) (hd:(N6 b).length<=8) (hbk:b.ok) (hl:c.length=(N6 b).length) (hcx:∀x∈c,0<=x/\x<=100):
 C9 Tryz.prog 11 [.d b.d,.d (.sl 1 f (c.map I))] (E5 [(T1 b c).d,I 0]):=by
 have hW:=tS b c f hw hcl
 rw[hc] at hW
 have hH:=pN b hbk ho0 hd c f hl hcx
 refine pU Tryz.func11 ?_
 repeat' ((conv=>whnf);first|refine sT ?_|refine sP ?_ ?_<;>intro _|refine cA hW ?_|refine cA hH ?_|fail)
 all_goals exact fJ
def OJ (b:D7) (T:List (List Int)) (r:Rec):Prop:=r.kind=6->r.f.amt-r.n<=(T.getD r.f.per.toNat []).getD r.f.src.toNat 0/\(T.getD r.f.per.toNat []).getD r.f.src.toNat 0<=r.f.amt+r.n
instance (b:D7) (T:List (List Int)) (r:Rec):Decidable (OJ b T r):=by unfold OJ;infer_instance
def Y2 (b:D7) (c:List Int):Prop:=jK (T1 b c)=0/\∀r∈b.recs,OJ b (W0 (T1 b c)) r
instance (b:D7) (c:List Int):Decidable (Y2 b c):=by unfold Y2;infer_instance
theorem SF {h:V8} (he:jK h=0):h.ok/\(W0 h).length=h.per.toNat/\∀r∈W0 h,r.length=h.op.length:=by
 have hok:h.ok:=by
  by_cases hok:h.ok
  ·exact hok
  ·unfold jK at he;rw[if_neg hok] at he;exact absurd he (by decide)
 unfold jK at he
 rw[if_pos hok] at he
 have hs:(sQ h).isSome:=by
  cases hq:(sQ h).isSome with
  |true=>rfl
  |false=>rw[hq] at he;exact absurd he (by decide)
 obtain⟨acc,hacc⟩:=mA.1 hs
 have hT:W0 h=acc:=by unfold W0;rw[if_pos hok,hacc];rfl
 obtain⟨h1,h2⟩:=yV _ _ _ _ hacc
 have hlen:∀i,i<=h.per.toNat->((h.op::acc).getD i []).length=h.op.length:=λi=>by
  induction i with
  |zero=>intro _;rfl
  |succ i ih=>intro hi;rw[(h2 i (by omega)).2,cD,ih (by omega)]
 rw[hT]
 refine⟨hok,h1,λr hr=> ?_⟩
 obtain⟨i,hi⟩:=D9.1 hr
 have hil:=(A4.1 hi).1
 have:=hlen (i+1) (by omega)
 rw[A5,R6,hi] at this
 exact this
theorem fN (b:D7) (hw:EW b) (ho0:0<b.op.length) (c:List Int) (f:Bool) (hc:iL b c=0) (hcl:c.length<1000000) (hd:(N6 b).length<=8) (hbk:b.ok) (hl:c.length=(N6 b).length) (hcx:∀x∈c,0<=x/\x<=100):
 C9 Tryz.prog 10 [.d b.d,.d (.sl 1 f (c.map I))] (E5 [.b (decide (Y2 b c)),I 0]):=by
 have hW:=tS b c f hw hcl
 rw[hc] at hW
 have hH:=pN b hbk ho0 hd c f hl hcx
 have hr64:=hbk.r
 have hA:=pG (T1 b c) ⟨by have:=hbk.o;show b.op.length<_;omega,by
  have:=JN b c b.recs.length
  unfold uM at this
  rw[C7 (by rw[cI];exact B1 _),A6] at this
  show(((R8 b c).filter D8.live).map D8.f).length<_
  omega⟩
 have m1:(b.recs.map Rec.d).length=b.recs.length:=A6 _
 by_cases he:jK (T1 b c)=0
 ·rw[he] at hA
  obtain⟨a1,a2,a3⟩:=SF he
  refine pU Tryz.func10 ?_
  repeat' ((conv=>whnf);first|refine Nam.mk m1 ?_|refine sT ?_|refine sP ?_ ?_<;>intro _|refine cA hW ?_|refine cA hH ?_|refine cA hA ?_|fail)
  all_goals((conv=>whnf);try exact xO)
  refine lO (X:=Nat) (λi=>[(29,.d (I i))]) (λ_=>[]) (λi=>i<=b.recs.length/\∀r∈b.recs.take i,OJ b (W0 (T1 b c)) r) (λi=>b.recs.length-i) 0 sam rfl ⟨B9 _,λr hr=>by simp at hr⟩ ?_
  rintro i ⟨hi,hn⟩
  by_cases hlt:i<b.recs.length
  ·obtain⟨r,hr⟩:∃r,b.recs[i]? =some r:=⟨_,A3 hlt⟩
   by_cases k6:r.kind=6
   ·have hro:=(hbk.rs i r hr)
    have hof:=hro.2.2
    rw[if_pos k6] at hof
    have hrn:0<=r.n/\r.n<=8:=by have:=hro.1;unfold eJ at this;split at this<;>omega
    unfold F8.okC at hof
    have hpl:r.f.per.toNat<(W0 (T1 b c)).length:=by rw[a2];show _<b.per.toNat;omega
    obtain⟨w,hwv⟩:∃w,(W0 (T1 b c))[r.f.per.toNat]? =some w:=⟨_,A3 hpl⟩
    have hwl:=a3 w (A7 hwv)
    have hwl:w.length=b.op.length:=hwl
    obtain⟨x,hx⟩:∃x,w[r.f.src.toNat]? =some x:=⟨_,A3 (by omega)⟩
    have g1:((W0 (T1 b c)).map jP)[r.f.per.toNat]? =some (jP w):=by rw[A8,hwv];rfl
    have g2:(w.map I)[r.f.src.toNat]? =some (I x):=by rw[A8,hx];rfl
    have hX:((W0 (T1 b c)).getD r.f.per.toNat []).getD r.f.src.toNat 0=x:=by
     have e0:(W0 (T1 b c)).getD r.f.per.toNat []=w:=by rw[A5,hwv];rfl
     rw[e0,A5,hx];rfl
    have hB:=K6 x (r.f.amt-r.n) (r.f.amt+r.n)
    by_cases hq:r.f.amt-r.n<=x/\x<=r.f.amt+r.n
    ·rw[C2 hq] at hB
     have hok:OJ b (W0 (T1 b c)) r:=λ_=>by rw[hX];exact hq
     repeat' ((conv=>whnf);first|refine sT ?_|refine sP ?_ ?_<;>intro _|refine A9 (D4 hr) ?_|refine A9 g1 ?_|refine A9 g2 ?_|refine cA hB ?_|fail)
     all_goals(conv=>whnf)
     all_goals first|(exfalso;omega)|exact⟨i+1,wE,⟨hlt,V9 hr hok hn⟩,by omega⟩
    ·rw[B6 hq] at hB
     have hno:¬Y2 b c:=λh=>hq (by have:=h.2 r (A7 hr) k6;rwa[hX] at this)
     rw[B6 hno]
     repeat' ((conv=>whnf);first|refine sT ?_|refine sP ?_ ?_<;>intro _|refine A9 (D4 hr) ?_|refine A9 g1 ?_|refine A9 g2 ?_|refine cA hB ?_|fail)
     all_goals exact fI
   ·have hok:OJ b (W0 (T1 b c)) r:=λh=>absurd h k6
    repeat' ((conv=>whnf);first|refine sT ?_|refine sP ?_ ?_<;>intro _|refine A9 (D4 hr) ?_|fail)
    all_goals(conv=>whnf)
    all_goals first|(exfalso;omega)|exact⟨i+1,wE,⟨hlt,V9 hr hok hn⟩,by omega⟩
  ·rw[C7 (by omega)] at hn
   rw[C2 (show Y2 b c from⟨he,hn⟩)]
   repeat' ((conv=>whnf);first|refine sT ?_|refine sP ?_ ?_<;>intro _|fail)
   all_goals exact fI
 ·rw[B6 (λh:Y2 b c=>he h.1)]
  refine pU Tryz.func10 ?_
  repeat' ((conv=>whnf);first|refine sT ?_|refine sP ?_ ?_<;>intro _|refine cA hW ?_|refine cA hH ?_|refine cA hA ?_|fail)
  all_goals exact fI
end Go.PM

/- TopTrace: part 14 of the proof: for every input the law returns true, and its arguments read behind the call as they read before; where the library's table is as its own text lays it. -/
import Derived.Test.YtefjfjfcjihcpaaGreatDoorQ13
set_option maxRecDepth 10000
set_option maxHeartbeats 400000000
set_option linter.unusedSectionVars false
namespace Go.PM
open Go.Proofs
def CS (b:D7) (s:Int) (ver n:Nat):List V:=[.d (SL 1 (b.op.map I)),.d (I b.per),.d (SL 9 (b.recs.map Rec.d)),.d (I s),.d (.b true),.sref 4 ver 0 n false]
def LE (b:D7) (s:Int) (ver:Nat) (A:List Nat) (vs:List (Nat×List D)):Hp:=
 [.var [.ptr 3 0 0 0],.vard [SL 1 ((G0 b).map I)],.var [.fn 164 [.ptr 0 0 0 0,.ptr 1 0 0 0,.ptr 2 0 0 0]],.var (CS b s ver A.length),.row ver 1 false (A.map wP),.ar vs]
def ST (b:D7) (s:Int) (k:Nat) (c:List Int):Prop:=∀(ver:Nat) (A:List Nat) (vs:List (Nat×List D)),A.length+oG ((G0 b).drop c.length)<=100000->
 M4 Tryz.prog 164 [.d (chD c),.ptr 0 0 0 0,.ptr 1 0 0 0,.ptr 2 0 0 0] (LE b s ver A vs) λv h'=>okW 6 v=true/\h'.length=6/\h'.all (okA 6)=true/\
  (v=E5 []/\∃(ver':Nat) (A':List Nat),A'.length=(nN b s k c).length/\h'=LE b s ver' (A++A') (vs++A'.zip (nN b s k c)))
theorem chD_sl (c:List Int):∃z fl,chD c=.sl z fl (c.map I)/\((c=[]/\z=0/\fl=true)∨(0<c.length/\z=1/\fl=false)):=by
 cases c with
 |nil=>exact⟨_,_,rfl,.inl ⟨rfl,rfl,rfl⟩⟩
 |cons x c=>exact⟨_,_,rfl,.inr ⟨by simp,rfl,rfl⟩⟩
theorem B1k (c:List Int) (x:Int):chD (c++[x])=.sl 1 false ((c++[x]).map I):=by cases c<;>rfl
theorem A5u:T8 Tryz.prog 54 [.d HV] 1 []:=by
 refine rO Tryz.func54 ?_
 repeat' ((conv=>whnf);first|refine MA.both (λhz=> ?_) ?_|refine sT ?_|refine sP ?_ ?_<;>intro _|fail)
 all_goals(conv=>whnf)
 all_goals first|exact Nam.mk rfl rfl|exact rfl
theorem kX (c:List Int) (h:c.length<1000000):∃z fl,chD c=.sl z fl (c.map I)/\T8 Tryz.prog 54 [.d (.sl z fl (c.map I))] 1 (c.map I):=by
 cases c with
 |nil=>exact⟨_,_,rfl,A5u⟩
 |cons x c=>exact⟨_,_,rfl,wY (x::c) (by simp) h⟩
theorem visit0 {b:D7} (F:fO b) {s:Int} (hs:s∈Z8 b) {c:List Int} (hl:c.length=(G0 b).length) (hc:W7 c (G0 b)):ST b s 0 c:=by
 intro ver A vs hA
 obtain⟨hb,hM,hml,hd,hm⟩:=bZ F.e
 have hBr:=(rG b F.w F.e F.r8 c false hc).ch
 have hpp:=vN hm c.length
 have m1:((G0 b).map I).length=(G0 b).length:=A6 _
 have ck2:0+A.length=(A.map wP).length:=by simp
 have ck3:A.length+1<=room:=by simp[room];omega
 unfold KE at hBr
 unfold nN
 obtain⟨z,fl,hch,hzf⟩:=chD_sl c
 cases hbk:aM b c with
 |some vp=>
  obtain⟨v,p⟩:=vp
  rw[hbk,hch] at hBr
  dsimp only at hBr ⊢
  rw[hch]
  refine jA (E:=P9 Tryz.prog tt Tryz.f164.ntmps) (I6 T5 mixed) Tryz.func164 (by rfl) rfl (B5 rfl) ?_
  unfold LE
  repeat' ((conv=>whnf);first|(refine qP.mkS (WkS.arPut (t:=5) (n:=5) (m:=6) rfl rfl rfl) ?_;rintro _ _ ⟨a,rfl,rfl⟩)|refine sT ?_|refine sP ?_ ?_<;>intro _|refine cA hBr ?_|refine bO Tryz.func68 ?_|refine Chk.mk ⟨rfl,ck2,ck3⟩ ?_|fail)
  all_goals(conv=>whnf)
  refine⟨rfl,rfl,rfl,ver+1,[a],rfl,?_⟩
  unfold EQ
  rw[hch]
  simp[X1,CS]
 |none=>
  have hcb:=qL hc λx hx=>(hm x hx).2
  have hwh:=yN F.e hc hl
  have m5:(c.map I).length=c.length:=A6 _
  have hCo:=(fN b F.w F.o1 c false hwh (by omega) hd hb (by omega) hcb).ch
  have hHi:=(jQ b F.w F.o1 c false hwh (by omega) hd hb (by omega) hcb).ch
  have hSi:=(RD b hb s hs c false (by omega) hd hcb).ch3
  rw[hbk,hch] at hBr
  rw[hch] at hCo hHi hSi
  dsimp only at hBr ⊢
  rw[hch]
  unfold QW
  by_cases hcs:Y2 b c
  ·rw[C2 hcs] at hCo
   rw[if_pos hcs]
   refine jA (E:=P9 Tryz.prog tt Tryz.f164.ntmps) (I6 T5 mixed) Tryz.func164 (by rfl) rfl (B5 rfl) ?_
   unfold LE
   repeat' ((conv=>whnf);first|(refine qP.mkS (WkS.arPut (t:=5) (n:=5) (m:=6) rfl rfl rfl) ?_;rintro _ _ ⟨a,rfl,rfl⟩)|refine Nam.mk m1 ?_|refine Nam.mk m5 ?_|refine sT ?_|refine sP ?_ ?_<;>intro _|refine cA hBr ?_|refine cA hCo ?_|refine cA hHi ?_|refine cA hSi ?_|refine bO Tryz.func68 ?_|refine bO Tryz.func166 ?_|refine Chk.mk ⟨rfl,ck2,ck3⟩ ?_|fail)
   all_goals((conv=>whnf);try exact xO)
   refine⟨rfl,rfl,rfl,ver+1,[a],rfl,?_⟩
   unfold rU
   rw[hch]
   simp[X1,CS,T1]
  ·rw[B6 hcs] at hCo
   rw[if_neg hcs]
   refine jA (E:=P9 Tryz.prog tt Tryz.f164.ntmps) (I6 T5 mixed) Tryz.func164 (by rfl) rfl (B5 rfl) ?_
   unfold LE
   repeat' ((conv=>whnf);first|(refine qP.mkS (WkS.arPut (t:=5) (n:=5) (m:=6) rfl rfl rfl) ?_;rintro _ _ ⟨a,rfl,rfl⟩)|refine Nam.mk m1 ?_|refine Nam.mk m5 ?_|refine sT ?_|refine sP ?_ ?_<;>intro _|refine cA hBr ?_|refine cA hCo ?_|refine cA hHi ?_|refine cA hSi ?_|refine bO Tryz.func68 ?_|refine bO Tryz.func166 ?_|refine Chk.mk ⟨rfl,ck2,ck3⟩ ?_|fail)
   all_goals((conv=>whnf);try exact xO)
   refine⟨rfl,rfl,rfl,ver+1,[a],rfl,?_⟩
   unfold EQ
   rw[hch]
   simp[X1,CS]
structure XVi where
 i:Nat
 ver:Nat
 A:List Nat
 vs:List (Nat×List D)
theorem visitS {b:D7} (F:fO b) {s:Int} {k:Nat} {c:List Int} (hl:c.length+(k+1)=(G0 b).length) (hc:W7 c (G0 b))
 (ih:∀c,c.length+k=(G0 b).length->W7 c (G0 b)->ST b s k c):ST b s (k+1) c:=by
 intro ver A vs hA
 obtain⟨hb,hM,hml,hd,hm⟩:=bZ F.e
 have hBr:=(rG b F.w F.e F.r8 c false hc).ch
 have hpp:=vN hm c.length
 have m1:((G0 b).map I).length=(G0 b).length:=A6 _
 have ck2:0+A.length=(A.map wP).length:=by simp
 have ck3:A.length+1<=room:=by simp[room];omega
 unfold KE at hBr
 unfold nN
 obtain⟨z,fl,hch,hCl⟩:=kX c (by omega)
 cases hbk:aM b c with
 |some vp=>
  obtain⟨v,p⟩:=vp
  rw[hbk,hch] at hBr
  dsimp only at hBr ⊢
  rw[hch]
  refine jA (E:=P9 Tryz.prog tt Tryz.f164.ntmps) (I6 T5 mixed) Tryz.func164 (by rfl) rfl (B5 rfl) ?_
  unfold LE
  repeat' ((conv=>whnf);first|(refine qP.mkS (WkS.arPut (t:=5) (n:=5) (m:=6) rfl rfl rfl) ?_;rintro _ _ ⟨a,rfl,rfl⟩)|refine sT ?_|refine sP ?_ ?_<;>intro _|refine cA hBr ?_|refine bO Tryz.func68 ?_|refine Chk.mk ⟨rfl,ck2,ck3⟩ ?_|fail)
  all_goals(conv=>whnf)
  refine⟨rfl,rfl,rfl,ver+1,[a],rfl,?_⟩
  unfold EQ
  rw[hch]
  simp[X1,CS]
 |none=>
  obtain⟨y,hy⟩:∃y,(G0 b)[c.length]? =some y:=⟨_,A3 (by omega)⟩
  have hyD:(G0 b).getD c.length 0=y:=by rw[A5,hy];rfl
  have hyb:=hm y (A7 hy)
  have hpd:=HG hm hy
  have gy:((G0 b).map I)[((c.length:Nat):Int).toNat]? =some (I y):=by rw[B0,A8,hy];rfl
  have m5:(c.map I).length=c.length:=A6 _
  rw[hbk,hch] at hBr
  dsimp only at hBr ⊢
  rw[hyD,hch]
  refine jA (E:=P9 Tryz.prog tt Tryz.f164.ntmps) (I6 T5 mixed) Tryz.func164 (by rfl) rfl (B5 rfl) ?_
  unfold LE
  repeat' ((conv=>whnf);first|refine Nam.mk m1 ?_|refine Nam.mk m5 ?_|refine sT ?_|refine sP ?_ ?_<;>intro _|refine cA hBr ?_|refine bO Tryz.func68 ?_|refine A9 gy ?_|fail)
  all_goals((conv=>whnf);try exact xO)
  obtain⟨q,hq⟩:∃q,q=oG ((G0 b).drop (c.length+1)):=⟨_,rfl⟩
  rw[hpd,<-hq] at hA
  obtain⟨f,hf⟩:∃f:Nat->List (List D),f=λn=>nN b s k (c++[((n:Nat):Int)]):=⟨_,rfl⟩
  have hlf:∀n,(f n).length<=q:=λn=>by
   have:=pS hm s k (c++[((n:Nat):Int)]) (by rw[B4,F1];omega)
   rw[B4,F1,<-hq] at this
   rw[hf];exact this
  rw[<-hf]
  refine lO (X:=XVi) (λx=>[(31,.d (I x.i))]) (λx=>[(3,.var (CS b s x.ver x.A.length)),(4,.row x.ver 1 false (x.A.map wP)),(5,.ar x.vs)])
   (λx=>x.i<=y.toNat/\x.A.length+(y.toNat-x.i)*q<=100000/\∃A1,x.A=A++A1/\A1.length=((List.range x.i).flatMap f).length/\x.vs=vs++A1.zip ((List.range x.i).flatMap f)) (λx=>y.toNat-x.i) ⟨0,ver,A,vs⟩ sam rfl ⟨B9 _,hA,[],by simp,rfl,by simp⟩ ?_
  rintro⟨i,ver',A',vs'⟩ ⟨hi,hA',A1,hA1,hl1,hv1⟩
  dsimp only at hi hA' hA1 hl1 hv1
  simp only[J3,over,E9,H4]
  by_cases hlt:i<y.toNat
  ·have hIH:=ih (c++[((i:Nat):Int)]) (by rw[B4,F1];omega) (nW hc hy (by omega)) ver' A' vs' (by
    rw[B4,F1,<-hq]
    obtain⟨d,hd⟩:∃d,y.toNat-i=d+1:=⟨y.toNat-i-1,by omega⟩
    rw[hd,P3] at hA'
    have:=B9 (d*q)
    omega)
   rw[B1k] at hIH
   have ck4:0+(c.map I).length=(c.map I).length:=by omega
   have ck5:(c.map I).length+1<=room:=by rw[A6];simp[room];omega
   repeat' ((conv=>whnf);first|(refine qP.last _ _ Wk.refl ?_)|refine sT ?_|refine sP ?_ ?_<;>intro _|refine H6.ofRow hCl ?_|refine Chk.mk ⟨rfl,ck4,ck5⟩ ?_|fail)
   all_goals((conv=>whnf);try exact xO)
   refine E6.lift ?_
   conv=>whnf
   refine Chk.mk ⟨rfl,by simp[X1]⟩ ?_
   conv=>whnf
   refine Nam.mk (y:=(c++[((i:Nat):Int)]).map I) (by rw[D2];simp[X1];exact C7 (by simp)) ?_
   conv=>whnf
   refine E6.updA rfl ⟨5,vs',rfl⟩ rfl hIH [0,1,2,3,4,5] (by decide) rfl rfl aN ?_
   ·rintro _ _ ⟨rfl,ver2,A2,hA2,rfl⟩ _
    have hst:(List.range (i+1)).flatMap f=(List.range i).flatMap f++f i:=by rw[Q4,List.flatMap_append];simp
    have hfi:A2.length=(f i).length:=by rw[hA2,hf]
    have hli:=hlf i
    unfold LE
    have hin:(A'++A2).length+(y.toNat-(i+1))*q<=100000:=by
     obtain⟨d,hd⟩:∃d,y.toNat-i=d+1:=⟨y.toNat-i-1,by omega⟩
     rw[hd,P3] at hA'
     rw[show y.toNat-(i+1)=d by omega,B4]
     omega
    have hfe:f i=nN b s k (c++[((i:Nat):Int)]):=by rw[hf]
    repeat' ((conv=>whnf);first|refine sT ?_|refine sP ?_ ?_<;>intro _|fail)
    all_goals(conv=>whnf)
    exact⟨⟨i+1,ver2,A'++A2,vs'++A2.zip (nN b s k (c++[((i:Nat):Int)]))⟩,wE,⟨hlt,hin,A1++A2,by simp only;rw[hA1,D5],by rw[hst,B4,B4,hl1,hfi],by
     simp only
     rw[hst,List.zip_append hl1,<-D5,<-hv1,hfe]⟩,by simp only;omega⟩
  ·obtain rfl:i=y.toNat:=by omega
   subst hA1
   subst hv1
   repeat' ((conv=>whnf);first|refine sT ?_|refine sP ?_ ?_<;>intro _|fail)
   all_goals(conv=>whnf)
   all_goals first|(exfalso;omega)|exact⟨rfl,rfl,rfl,ver',A1,hl1,rfl⟩
theorem A6w {b:D7} (F:fO b) {s:Int} (hs:s∈Z8 b):∀(k:Nat) (c:List Int),c.length+k=(G0 b).length->W7 c (G0 b)->ST b s k c
 |0,c,hl,hc=>visit0 F hs (by omega) hc
 |k+1,c,hl,hc=>visitS F hl hc λc hl hc=>A6w F hs k c hl hc
end Go.PM
namespace Go.PM
theorem pO {g:D8->D8} (hg:∀s:D8,(g s).f.kind=s.f.kind) {W:List D8} {i j:Nat}:((modS W i g).getD j O5).f.kind=(W.getD j O5).f.kind:=by
 unfold modS
 by_cases e:i=j
 ·subst e
  by_cases hi:i<W.length
  ·rw[A5,G1 hi]
   exact hg _
  ·rw[AN (by omega)]
 ·rw[A5,C3 e,<-A5]
theorem B2h {W:List D8} {r:Rec} {i j:Nat} {c:Int}:((bI W r i c).getD j O5).f.kind=(W.getD j O5).f.kind:=by
 unfold bI ES
 (repeat' split)<;>first|rfl|exact pO (g:=tD r c) (λ_=>rfl)|exact pO (g:=LV c) (λ_=>rfl)|exact pO (g:=gone) (λ_=>rfl)|exact(pO (g:=dP _) (λ_=>rfl)).trans (pO (g:=dP _) (λ_=>rfl))
theorem BC {b:D7} {c:List Int} {i:Nat} {r:Rec} (hr:b.recs[i]? =some r):∀k,((I7 b c k).getD i O5).f.kind=r.f.kind
 |0=>by rw[I7,nX,A5,A8,hr];rfl
 |k+1=>by rw[I7,B2h];exact BC hr k
theorem A2r:∀{W:List D8} {k:Nat} {s:D8},W[k]? =some s->s.live=true->((W.filter D8.live).map D8.f)[((W.take k).filter D8.live).length]? =some s.f
 |w::W,0,s,h,hl=>by
  simp at h;subst h
  rw[oA hl];rfl
 |w::W,k+1,s,h,hl=>by
  have ih:=A2r (W:=W) (k:=k) (by simpa using h) hl
  rw[List.take_succ_cons]
  cases hw:w.live with
  |true=>
   rw[oA hw,oA hw]
   simpa using ih
  |false=>
   rw[DZ (by simp[hw]),DZ (by simp[hw])]
   exact ih
theorem OI (W:List D8) (k:Nat):AC ((W.map D8.live).take k)=((((W.take k).filter D8.live).length:Nat):Int):=by
 unfold AC
 rw[<-mB,List.filter_map,A6]
 congr 2
theorem AU {b:D7} {s:Int} (hs:s∈Z8 b) (ho:b.op.length<=16) {c:List Int} (h0:0<=Q8 b s c):Q8 b s c∈EE (T1 b c):=by
 unfold EE
 by_cases h16:s<16
 ·have e:Q8 b s c=s:=by unfold Q8;rw[if_pos h16]
  rw[e]
  unfold Z8 at hs
  rcases K0.1 hs with hs|hs
  ·exact O8 _ hs
  ·unfold HA at hs
   obtain⟨i,_,rfl⟩:=K4.1 hs
   omega
 ·rcases rB hs with⟨a1,a2,_⟩|⟨k,r,rfl,hr,hk⟩
  ·omega
  ·have ek:(16+((k:Nat):Int)-16).toNat=k:=by omega
   have hkl:=(A4.1 hr).1
   have hlen:=cI b c
   obtain⟨w,hw⟩:∃w,(R8 b c)[k]? =some w:=⟨_,A3 (by omega)⟩
   have hwD:(R8 b c).getD k O5=w:=by rw[A5,hw];rfl
   have hlD:(aU b c).getD k false=w.live:=by
    show((R8 b c).map D8.live).getD k false=_
    rw[A5,A8,hw];rfl
   have hwl:w.live=true:=by
    cases hq:w.live with
    |true=>rfl
    |false=>
     exfalso
     unfold Q8 at h0
     rw[if_neg h16,ek,hlD,if_pos hq] at h0
     omega
   have e:Q8 b (16+((k:Nat):Int)) c=16+(((((R8 b c).take k).filter D8.live).length:Nat):Int):=by
    unfold Q8
    rw[if_neg h16,ek,hlD,if_neg (by rw[hwl];exact λh=>Bool.noConfusion h)]
    show 16+AC (((R8 b c).map D8.live).take k)=_
    rw[OI]
   have hat:=A2r hw hwl
   have hkind:w.f.kind=1:=by rw[<-hwD,<-hk];exact BC hr _
   rw[e]
   refine dB _ ?_
   unfold A9y
   refine K4.2 ⟨(((R8 b c).take k).filter D8.live).length,?_,rfl⟩
   rw[bS]
   refine⟨K2.2 (A4.1 hat).1,?_⟩
   refine C2 ?_
   have:(T1 b c).fl[(((R8 b c).take k).filter D8.live).length]? =some w.f:=hat
   rw[A5,this]
   exact hkind
theorem GI {b:D7} {s:Int} (hs:s∈Z8 b) (h64:b.recs.length<=64) (c:List Int):Q8 b s c<4096:=by
 unfold Q8
 split
 ·omega
 ·split
  ·omega
  ·have h1:((aU b c).take (s-16).toNat).length<=b.recs.length:=by rw[D0,vS];omega
   have h2:(((aU b c).take (s-16).toNat).filter id).length<=((aU b c).take (s-16).toNat).length:=L0 _ _
   unfold AC;omega
theorem oN {b:D7} (F:fO b) {c:List Int} (h:Y2 b c):HOk (T1 b c):=⟨(SF h.1).1,F.o1,F.o4,F.p3,h.1⟩
end Go.PM
namespace Go.PM
open Go.Proofs
def oD (b:D7) (s:Int) (sp:S8) (c:List Int):Rat:=(xAt (T1 b c) (Q8 b s c) (sp.p.toNat+1)).getD sp.v.toNat 0
def nR (b:D7) (s:Int) (sp:S8) (c:List Int):Bool:=decide (0<=Q8 b s c/\oD b s sp c≠0)
theorem RZ (c:List Int):∃z fl,chD c=.sl z fl (c.map I):=by cases c<;>exact⟨_,_,rfl⟩
theorem MO {b:D7} (F:fO b) {s:Int} {sp:S8} (hsp:sp.ok b) {c:List Int} (hc:Y2 b c):
 (K1 (U3 (T1 b c) (Q8 b s c)))[sp.p.toNat]? =some (bF (xAt (T1 b c) (Q8 b s c) (sp.p.toNat+1)))/\((xAt (T1 b c) (Q8 b s c) (sp.p.toNat+1)).map rD)[sp.v.toNat]? =some (rD (oD b s sp c)):=by
 have hv:=hsp.v
 have hp:=hsp.p
 have hx:=(oN F hc).x (Q8 b s c) (sp.p.toNat+1) (by show sp.p.toNat+1<=b.per.toNat;omega)
 constructor
 ·unfold K1 U3
  rw[A8,A8,F2 (by show sp.p.toNat<b.per.toNat;omega)];rfl
 ·have hl:sp.v.toNat<(xAt (T1 b c) (Q8 b s c) (sp.p.toNat+1)).length:=by rw[hx.1.len];show sp.v.toNat<b.op.length;omega
  unfold oD
  rw[A8,A3 hl,A5,A3 hl];rfl
theorem zR {b:D7} (F:fO b) {s:Int} (hs:s∈Z8 b) {sp:S8} (hsp:sp.ok b) {c:List Int} (hc:Y2 b c) (kn:Bool):
 M4 Tryz.prog 122 (.ptr 0 0 0 0::[sp.d].map V.d) [.vard (rU b s c kn)] λv h'=>v=E5 [.b (nR b s sp c)]/\h'.length=1/\h'.all (okB 1)=true/\h'=[.vard (rU b s c (kn||decide (0<=Q8 b s c)))]:=by
 have hv:=hsp.v
 have hp:=hsp.p
 have ho16:b.op.length<=16:=by have:=F.o4;omega
 obtain⟨z,fl,hch⟩:=RZ c
 obtain⟨n,hn⟩:∃n,n=Q8 b s c:=⟨_,rfl⟩
 have hnl:=GI hs (by have:=F.r8;omega) c
 have hg:=MO F hsp hc (s:=s)
 have hmem:=AU hs ho16 (c:=c)
 unfold nR rU
 rw[hch,<-hn]
 rw[<-hn] at hg hmem hnl
 obtain⟨g1,g2⟩:=hg
 generalize oD b s sp c=q at g2 ⊢
 by_cases h0:0<=n
 ·have hSh:=kC (T1 b c) (oN F hc) n (hmem h0) ⟨h0,by omega⟩
  rw[C2 h0,wI]
  have hz:(str (qn q)).toList=(⟨#[]⟩:ByteArray).toList↔qn q=0:=by rw[<-fP,LH]
  have hq0:qn q=0↔q=0:=by
   unfold qn
   rw[Int.natAbs_eq_zero]
   exact KW
  by_cases hq:q=0
  ·have hq1:=hz.2 (hq0.2 hq)
   rw[B6 (show ¬(0<=n/\q≠0) from λh=>h.2 hq)]
   cases kn with
   |true=>
    refine uP Tryz.func122 ?_
    repeat' ((conv=>whnf);first|refine Dec.t hq1 ?_|refine sT ?_|refine sP ?_ ?_<;>intro _|refine A9 g1 ?_|refine A9 g2 ?_|refine bO Tryz.func68 ?_|fail)
    all_goals exact fI
   |false=>
    refine uP Tryz.func122 ?_
    repeat' ((conv=>whnf);first|refine Dec.t hq1 ?_|refine sT ?_|refine sP ?_ ?_<;>intro _|refine A9 g1 ?_|refine A9 g2 ?_|refine cA hSh ?_|refine bO Tryz.func68 ?_|fail)
    all_goals exact fI
  ·have hq1:=λh=>hq (hq0.1 (hz.1 h))
   rw[C2 (show 0<=n/\q≠0 from⟨h0,hq⟩)]
   cases kn with
   |true=>
    refine uP Tryz.func122 ?_
    repeat' ((conv=>whnf);first|refine Dec.f hq1 ?_|refine sT ?_|refine sP ?_ ?_<;>intro _|refine A9 g1 ?_|refine A9 g2 ?_|refine bO Tryz.func68 ?_|fail)
    all_goals exact fI
   |false=>
    refine uP Tryz.func122 ?_
    repeat' ((conv=>whnf);first|refine Dec.f hq1 ?_|refine sT ?_|refine sP ?_ ?_<;>intro _|refine A9 g1 ?_|refine A9 g2 ?_|refine cA hSh ?_|refine bO Tryz.func68 ?_|fail)
    all_goals exact fI
 ·rw[B6 (show ¬(0<=n/\q≠0) from λh=>h0 h.1),B6 h0,aQ]
  refine uP Tryz.func122 ?_
  repeat' ((conv=>whnf);first|refine sT ?_|refine sP ?_ ?_<;>intro _|fail)
  all_goals exact fI
inductive Lf where
 |brk (c:List Int) (v p:Int)
 |con (c:List Int)
noncomputable def EN (b:D7) (c:List Int):Lf:=if Y2 b c then .con c else .brk c (-1) (-1)
noncomputable def lfs (b:D7):Nat->List Int->List Lf
 |0,c=>match aM b c with
  |some (v,p)=>[.brk c v p]
  |none=>[EN b c]
 |k+1,c=>match aM b c with
  |some (v,p)=>[.brk c v p]
  |none=>(List.range ((G0 b).getD c.length 0).toNat).flatMap λn=>lfs b k (c++[((n:Nat):Int)])
def Lf.cells (b:D7) (s:Int) (vis:Bool):Lf->List D
 | .brk c v p=>EQ c v p
 | .con c=>rU b s c (vis&&decide (0<=Q8 b s c))
theorem iE (b:D7) (s:Int):∀(k:Nat) (c:List Int),nN b s k c=(lfs b k c).map (Lf.cells b s false)
 |0,c=>by
  unfold nN lfs
  cases aM b c with
  |some vp=>rfl
  |none=>
   show [QW b s c]=[EN b c].map _
   unfold QW EN
   by_cases h:Y2 b c
   ·rw[if_pos h,if_pos h];rfl
   ·rw[if_neg h,if_neg h];rfl
 |k+1,c=>by
  unfold nN lfs
  cases aM b c with
  |some vp=>rfl
  |none=>
   show(List.range _).flatMap _=((List.range _).flatMap _).map _
   rw[List.map_flatMap]
   congr 1
   funext n
   exact iE b s k _
noncomputable def L7 (b:D7):List Lf:=lfs b (G0 b).length []
theorem nM (b:D7):∀(k:Nat) (c d:List Int),Lf.con d∈lfs b k c->Y2 b d
 |0,c,d,h=>by
  unfold lfs at h
  split at h
  ·simp at h
  ·unfold EN at h
   split at h
   ·rw[H9] at h;cases h;assumption
   ·simp at h
 |k+1,c,d,h=>by
  unfold lfs at h
  split at h
  ·simp at h
  ·obtain⟨n,_,h⟩:=W3.1 h
   exact nM b k _ d h
def Lf.ch:Lf->List Int
 | .brk c _ _=>c
 | .con c=>c
def Lf.kind (b:D7) (s:Int) (sp:S8):Lf->Int
 | .brk _ _ _=>1
 | .con c=>if nR b s sp c then 2 else 3
def Lf.vp:Lf->Int×Int
 | .brk _ v p=>(v,p)
 | .con _=>(0,0)
def Lf.br (b:D7) (s:Int) (sp:S8) (l:Lf):D:=.agg [SL 1 (l.ch.map I),I (l.kind b s sp),I l.vp.1,I l.vp.2]
def cC (b:D7) (s:Int) (sp:S8) (k:Int) (l:List Lf):D:=match l.find? λx=>decide (x.kind b s sp=k) with
 |some x=>SL 1 (x.ch.map I)
 |none=>HV
def aS (b:D7) (s:Int) (sp:S8) (k:Int) (l:List Lf):Bool:=l.any λx=>decide (x.kind b s sp=k)
theorem OS (b:D7) (s:Int) (sp:S8) (k:Int) (l:List Lf) (x:Lf):aS b s sp k (l++[x])=(aS b s sp k l||decide (x.kind b s sp=k)):=by unfold aS;simp
theorem DL (b:D7) (s:Int) (sp:S8) (k:Int) (l:List Lf) (x:Lf):cC b s sp k (l++[x])=if aS b s sp k l=false/\x.kind b s sp=k then SL 1 (x.ch.map I) else cC b s sp k l:=by
 unfold cC aS
 rw[List.find?_append]
 cases hf:l.find? λx=>decide (x.kind b s sp=k) with
 |none=>
  have hn:(l.any λx=>decide (x.kind b s sp=k))=false:=by
   rw[AK]
   intro y hy
   have:=cV.1 hf y hy
   simpa using this
  rw[hn]
  by_cases hk:x.kind b s sp=k
  ·rw[if_pos ⟨rfl,hk⟩]
   simp[hk]
  ·rw[if_neg (λh=>hk h.2)]
   simp[hk]
 |some y=>
  have hy:(l.any λx=>decide (x.kind b s sp=k))=true:=by
   rw[aC]
   exact⟨y,lC hf,by have:=KZ hf;exact this⟩
  rw[hy,if_neg (λh=>Bool.noConfusion h.1)]
  rfl
noncomputable def iM (b:D7) (s:Int) (sp:S8):Int:=if aS b s sp 2 (L7 b)&&aS b s sp 3 (L7 b) then 2 else if aS b s sp 2 (L7 b) then 1 else 3
noncomputable def ED (b:D7) (s:Int) (sp:S8):D:=.agg [I (iM b s sp),cC b s sp 2 (L7 b),cC b s sp 3 (L7 b),SL 4 ((L7 b).map (Lf.br b s sp))]
def yK (b:D7) (s:Int) (A:List Nat) (L:List Lf) (vis:Nat->Bool) (vs:List (Nat×List D)):Prop:=vs.length=L.length/\A.length=L.length/\∀(j:Nat) (l:Lf),L[j]? =some l->vs[j]? =some (A.getD j 0,l.cells b s (vis j))
theorem yK.start {b:D7} {s:Int} {A:List Nat} {L:List Lf} (h:A.length=L.length):yK b s A L (λ_=>false) (A.zip (L.map (Lf.cells b s false))):=by
 refine⟨by simp[h],h,λj l hj=> ?_⟩
 have hjl:=(A4.1 hj).1
 have:A[j]? =some (A.getD j 0):=by rw[A5,A3 (by omega)];rfl
 rw[List.getElem?_zip_eq_some]
 exact⟨this,by rw[A8,hj];rfl⟩
theorem yK.set {b:D7} {s:Int} {A:List Nat} {L:List Lf} {vis vis':Nat->Bool} {vs:List (Nat×List D)} (h:yK b s A L vis vs) {i:Nat} {l:Lf} (hi:L[i]? =some l) (h1:vis' i=true) (h2:∀j,j≠i->vis' j=vis j):
 yK b s A L vis' (vs.set i (A.getD i 0,l.cells b s true)):=by
 obtain⟨a1,a2,a3⟩:=h
 have hil:=(A4.1 hi).1
 refine⟨by simpa using a1,a2,λj k hj=> ?_⟩
 by_cases e:i=j
 ·subst e
  rw[hi] at hj;cases hj
  rw[G1 (by omega),h1]
 ·rw[C3 e,a3 j k hj,h2 j (λh=>e h.symm)]
theorem yK.keep {b:D7} {s:Int} {A:List Nat} {L:List Lf} {vis vis':Nat->Bool} {vs:List (Nat×List D)} (h:yK b s A L vis vs) {i:Nat} {l:Lf} (hi:L[i]? =some l) (hb:∀v,l.cells b s v=l.cells b s true) (h2:∀j,j≠i->vis' j=vis j):yK b s A L vis' vs:=by
 obtain⟨a1,a2,a3⟩:=h
 refine⟨a1,a2,λj k hj=> ?_⟩
 by_cases e:i=j
 ·subst e
  rw[a3 i k hj]
  rw[hi] at hj;cases hj
  rw[hb,hb (vis' i)]
 ·rw[a3 j k hj,h2 j (λh=>e h.symm)]
theorem B3w {b:D7} {c:List Int} {i:Nat} (y z:Bool):((List.range i).map (λk=>B (lvF b c k))++B y::List.replicate (b.recs.length-(i+1)) (B false)).set (0+((i:Nat):Int).toNat) (B z)=(List.range i).map (λk=>B (lvF b c k))++B z::List.replicate (b.recs.length-(i+1)) (B false):=by
 rw[C1,B0,K8 _ _ (by rw[fX];exact B1 _),fX,G2,E9]
theorem B3x {b:D7} {c:List Int} {i:Nat} (y:Bool):((List.range i).map (λk=>B (lvF b c k))++B y::List.replicate (b.recs.length-(i+1)) (B false))[0+((i:Nat):Int).toNat]? =some (B y):=by
 rw[C1,B0,B3 (by rw[fX];exact B1 _),fX,G2];rfl
theorem lv_lt2 {b:D7} {c:List Int} {i:Nat} (y:Bool):0+((i:Nat):Int).toNat<((List.range i).map (λk=>B (lvF b c k))++B y::List.replicate (b.recs.length-(i+1)) (B false)).length:=by
 rw[B4,fX,M2];omega
theorem YJ (b:D7) (hb:b.ok) (c:List Int) (k:Nat) (f:Bool) (hc:c.length=(N6 b).length) (hcx:∀x∈c,0<=x/\x<=100) (hk:k<b.recs.length):
 C9 Tryz.prog 28 [.d b.d,.d (.sl 1 f (c.map I)),.d (I k)] (E5 [I (zE b c k),.b (lG b c k)]):=by
 have hr64:=hb.r
 have m1:(b.recs.map Rec.d).length=b.recs.length:=A6 _
 have m2:(c.map I).length=c.length:=A6 _
 refine pU Tryz.func28 ?_
 repeat' ((conv=>whnf);first|refine Nam.mk m1 ?_|refine sT ?_|refine sP ?_ ?_<;>intro _|fail)
 all_goals(conv=>whnf)
 refine lO (X:=Nat) (λi=>[(11,.d (I i)),(8,.d (I ((Y1 b i).length:Nat)))]) (λi=>[(1,.row 0 1 false ((sY b c i).map B)),(2,.row 0 1 false ((gV b c i).map B))]) (λi=>i<=b.recs.length) (λi=>b.recs.length-i) 0 sam (by
  show [_,Blk.row 0 1 false (List.replicate ((b.recs.length:Nat):Int).toNat (B false)),Blk.row 0 1 false (List.replicate ((b.recs.length:Nat):Int).toNat (B false))]=_
  rw[B0]
  have e1:(sY b c 0).map B=List.replicate b.recs.length (B false):=by rw[IL];rfl
  have e2:(gV b c 0).map B=List.replicate b.recs.length (B false):=by rw[gV,M8]
  rw[e1,e2];rfl) (B9 _) ?_
 intro i hi
 by_cases hlt:i<b.recs.length
 ·obtain⟨r,hr⟩:∃r,b.recs[i]? =some r:=⟨_,A3 hlt⟩
  have hrA:recAt b i=r:=by unfold recAt;rw[A5,hr];rfl
  have hro:=hb.rs i r hr
  have g1:=lv_get (c:=c) hlt
  have l1:=lv_lt (c:=c) hlt
  have m4:((gV b c i).map B).length=b.recs.length:=by rw[A6,qI]
  have hst:=jW hr
  by_cases h06:r.kind=0∨r.kind=6
  ·have hdb:dbt r=false:=by unfold dbt;exact B6 (by omega)
   rw[hdb,if_neg (λh=>Bool.noConfusion h),I3] at hst
   have hd1:gV b c (i+1)=gV b c i:=by rw[gV,hrA,if_neg (by omega)]
   have hstl:(Y1 b (i+1)).length=(Y1 b i).length:=by rw[hst]
   have hxo:xOf b c i=xOf b c i:=rfl
   by_cases k0:r.kind=0
   ·have hy:lvF b c i=true:=by unfold lvF;rw[hrA];simp[k0]
    have q1:=(IK (c:=c) hlt true).trans (zM hlt hy)
    repeat' ((conv=>whnf);first|refine Nam.mk m1 ?_|refine Nam.mk m2 ?_|refine Nam.mk m4 ?_|refine sT ?_|refine sP ?_ ?_<;>intro _|refine A9 (D4 hr) ?_|refine A9 g1 ?_|refine J6 l1 q1 ?_|fail)
    all_goals((conv=>whnf);try exact xO)
    all_goals first|(refine⟨i+1,?_,hlt,by omega⟩;rw[hstl,hd1];exact wE)
   ·have k6:r.kind=6:=by omega
    have hy:lvF b c i=false:=by unfold lvF;rw[hrA];simp[k6]
    have q1:=(IK (c:=c) hlt false).trans (zM hlt hy)
    repeat' ((conv=>whnf);first|refine Nam.mk m1 ?_|refine Nam.mk m2 ?_|refine Nam.mk m4 ?_|refine sT ?_|refine sP ?_ ?_<;>intro _|refine A9 (D4 hr) ?_|refine A9 g1 ?_|refine J6 l1 q1 ?_|fail)
    all_goals((conv=>whnf);try exact xO)
    all_goals first|(refine⟨i+1,?_,hlt,by omega⟩;rw[hstl,hd1];exact wE)
  ·have hdb:dbt r=true:=by unfold dbt;exact C2 (by omega)
   rw[hdb,if_pos rfl] at hst
   have hstl:(Y1 b (i+1)).length=(Y1 b i).length+1:=by rw[hst,B4];rfl
   have hjl:=B1b hr hdb
   obtain⟨x,hx⟩:∃x,c[(Y1 b i).length]? =some x:=⟨_,A3 (by omega)⟩
   have hxb:=hcx x (A7 hx)
   have hxo:xOf b c i=x:=by unfold xOf;rw[A5,hx];rfl
   have gc:(c.map I)[(((Y1 b i).length:Nat):Int).toNat]? =some (I x):=by rw[B0,A8,hx];rfl
   have hdl:(N6 b).length<=b.recs.length:=BP b _
   have hrn:0<=r.n/\r.n<=8:=by have:=hro.1;unfold eJ at this;split at this<;>omega
   have hkr:=hro.1.1
   have hfo:=hro.2.2
   rw[if_neg (by omega)] at hfo
   have hamt:1<=r.f.amt/\r.f.amt<=1048576:=by unfold F8.ok at hfo;omega
   have hoth:=hro.2.1
   clear hfo hro
   by_cases k3:r.kind=3/\x=0
   ·have ho:(0<=r.oth/\r.oth<=(b.recs.length:Int)-1):=by unfold jJ at hoth;rw[if_neg (by omega)] at hoth;exact hoth.1
    clear hoth
    have hd1:gV b c (i+1)=(gV b c i).set r.oth.toNat true:=by rw[gV,hrA,hxo,if_pos k3]
    obtain⟨k31,k32⟩:=k3
    have hy:lvF b c i=true:=by unfold lvF;rw[hrA,hxo];simp[k31]
    have q1:=(IK (c:=c) hlt true).trans (zM hlt hy)
    obtain⟨d,hd⟩:∃d,(gV b c i)[r.oth.toNat]? =some d:=⟨_,A3 (by rw[qI];omega)⟩
    have gd:((gV b c i).map B)[0+r.oth.toNat]? =some (B d):=by rw[C1,A8,hd];rfl
    have ld:0+r.oth.toNat<((gV b c i).map B).length:=by rw[A6,qI];omega
    have qd:((gV b c i).map B).set (0+r.oth.toNat) (B true)=((gV b c i).set r.oth.toNat true).map B:=by rw[C1,O7]
    repeat' ((conv=>whnf);first|refine Nam.mk m1 ?_|refine Nam.mk m2 ?_|refine Nam.mk m4 ?_|refine sT ?_|refine sP ?_ ?_<;>intro _|refine A9 (D4 hr) ?_|refine A9 g1 ?_|refine J6 l1 q1 ?_|refine A9 gc ?_|refine A9 gd ?_|refine J6 ld qd ?_|fail)
    all_goals((conv=>whnf);try exact xO)
    all_goals first|(refine⟨i+1,?_,hlt,by omega⟩;rw[hstl,hd1];exact wE)
   ·have hd1:gV b c (i+1)=gV b c i:=by rw[gV,hrA,hxo,if_neg k3]
    clear hoth
    by_cases hz:r.kind=4/\x=1∨r.kind=1/\r.f.amt+x=r.n
    ·have hy:lvF b c i=false:=by unfold lvF;rw[hrA,hxo,C2 hz];simp
     have q1:=IK (c:=c) hlt true
     have q2:=(B3w (b:=b) (c:=c) (i:=i) true false).trans (zM hlt hy)
     repeat' ((conv=>whnf);first|refine Nam.mk m1 ?_|refine Nam.mk m2 ?_|refine Nam.mk m4 ?_|refine sT ?_|refine sP ?_ ?_<;>intro _|refine A9 (D4 hr) ?_|refine A9 g1 ?_|refine J6 l1 q1 ?_|refine A9 gc ?_|refine A9 (B3x true) ?_|refine J6 (lv_lt2 true) q2 ?_|fail)
     all_goals((conv=>whnf);try exact xO)
     all_goals first|(refine⟨i+1,?_,hlt,by omega⟩;rw[hstl,hd1];exact wE)
    ·have hy:lvF b c i=true:=by unfold lvF;rw[hrA,hxo,B6 hz];simp;omega
     have q1:=(IK (c:=c) hlt true).trans (zM hlt hy)
     repeat' ((conv=>whnf);first|refine Nam.mk m1 ?_|refine Nam.mk m2 ?_|refine Nam.mk m4 ?_|refine sT ?_|refine sP ?_ ?_<;>intro _|refine A9 (D4 hr) ?_|refine A9 g1 ?_|refine J6 l1 q1 ?_|refine A9 gc ?_|fail)
     all_goals((conv=>whnf);try exact xO)
     all_goals first|(refine⟨i+1,?_,hlt,by omega⟩;rw[hstl,hd1];exact wE)
 ·have hie:i=b.recs.length:=by omega
  subst hie
  clear hlt hi
  have hLl:(sY b c b.recs.length).length=b.recs.length:=by unfold sY;simp
  have hDl:=qI b c b.recs.length
  have gl:∀j:Nat,j<b.recs.length->((sY b c b.recs.length).map B)[0+((j:Nat):Int).toNat]? =some (B ((sY b c b.recs.length).getD j false)):=λj hj=>by
   rw[C1,B0,A8,A5,A3 (by omega)];rfl
  have gd:∀j:Nat,j<b.recs.length->((gV b c b.recs.length).map B)[0+((j:Nat):Int).toNat]? =some (B ((gV b c b.recs.length).getD j false)):=λj hj=>by
   rw[C1,B0,A8,A5,A3 (by omega)];rfl
  have hth:∀j,lG b c j=((sY b c b.recs.length).getD j false&& !((gV b c b.recs.length).getD j false)):=λj=>rfl
  have hpos:∀j,zE b c (j+1)=zE b c j+if lG b c j then 1 else 0:=λj=>by
   unfold zE;rw[Q4,L6,B4];simp only[List.filter];cases lG b c j<;>simp
  have hpb:∀j,0<=zE b c j/\zE b c j<=j:=λj=>by
   unfold zE
   have:=L0 (lG b c) (List.range j)
   rw[M6] at this;omega
  repeat' ((conv=>whnf);first|refine sT ?_|refine sP ?_ ?_<;>intro _|fail)
  all_goals((conv=>whnf);try exact xO)
  refine lO (X:=Nat) (λj=>[(14,.d (I j)),(6,.d (I (zE b c j)))]) (λ_=>[]) (λj=>j<=k) (λj=>k-j) 0 sam rfl (B9 _) ?_
  intro j hj
  have hpj:=hpb j
  by_cases hjl:j<k
  ·have g1:=gl j (by omega)
   have g2:=gd j (by omega)
   have hps:=hpos j
   rw[hth j] at hps
   generalize (sY b c b.recs.length).getD j false=l at*
   generalize (gV b c b.recs.length).getD j false=d at*
   cases l<;>cases d
   all_goals(
    repeat' ((conv=>whnf);first|refine sT ?_|refine sP ?_ ?_<;>intro _|refine A9 g1 ?_|refine A9 g2 ?_|fail)
    all_goals((conv=>whnf);try exact xO)
    all_goals first|(refine⟨j+1,?_,hjl,by omega⟩;rw[hps];first|exact wE|(simp only[xM,cQ,mD,pC,Bool.not_true,Bool.not_false,if_true,wH,T0,if_false];exact wE)))
  ·have hje:j=k:=by omega
   subst hje
   have g1:=gl j (by omega)
   have g2:=gd j (by omega)
   rw[hth j]
   generalize (sY b c b.recs.length).getD j false=l at*
   generalize (gV b c b.recs.length).getD j false=d at*
   cases l<;>cases d
   all_goals(
    repeat' ((conv=>whnf);first|refine sT ?_|refine sP ?_ ?_<;>intro _|refine A9 g1 ?_|refine A9 g2 ?_|fail)
    all_goals(conv=>whnf)
    all_goals first|(exfalso;omega)|exact⟨DLe.refl _,DLe.refl _,rfl⟩)
end Go.PM
namespace Go.PM
def jE (h:V8) (f:Int->Rat):Rat:=L8 h.op.length (λi=>if 0<h.op.getD i 0 then f (i:Int) else 0)+L8 h.fl.length (λj=>if(h.fl.getD j ⟨0,0,0,0,0,0⟩).kind=1 then f (16+(j:Int)) else 0)
theorem xQ {h:V8} {f g:Int->Rat} (e:∀s,f s=g s):jE h f=jE h g:=by
 have:f=g:=funext e
 rw[this]
theorem TS (h:V8) (f g:Int->Rat):jE h (λs=>f s+g s)=jE h f+jE h g:=by
 unfold jE
 have e1:L8 h.op.length (λi=>if 0<h.op.getD i 0 then f (i:Int)+g (i:Int) else 0)=L8 h.op.length (λi=>if 0<h.op.getD i 0 then f (i:Int) else 0)+L8 h.op.length (λi=>if 0<h.op.getD i 0 then g (i:Int) else 0):=by
  rw[<-yS]
  refine M9 λi _=> ?_
  split
  ·rfl
  ·grind
 have e2:L8 h.fl.length (λj=>if(h.fl.getD j ⟨0,0,0,0,0,0⟩).kind=1 then f (16+(j:Int))+g (16+(j:Int)) else 0)=L8 h.fl.length (λj=>if(h.fl.getD j ⟨0,0,0,0,0,0⟩).kind=1 then f (16+(j:Int)) else 0)+L8 h.fl.length (λj=>if(h.fl.getD j ⟨0,0,0,0,0,0⟩).kind=1 then g (16+(j:Int)) else 0):=by
  rw[<-yS]
  refine M9 λi _=> ?_
  split
  ·rfl
  ·grind
 rw[e1,e2];grind
theorem GE (h:V8) (a:Rat) (f:Int->Rat):jE h (λs=>a*f s)=a*jE h f:=by
 unfold jE
 have e1:L8 h.op.length (λi=>if 0<h.op.getD i 0 then a*f (i:Int) else 0)=a*L8 h.op.length (λi=>if 0<h.op.getD i 0 then f (i:Int) else 0):=by
  rw[<-kQ]
  refine M9 λi _=> ?_
  split
  ·rfl
  ·grind
 have e2:L8 h.fl.length (λj=>if(h.fl.getD j ⟨0,0,0,0,0,0⟩).kind=1 then a*f (16+(j:Int)) else 0)=a*L8 h.fl.length (λj=>if(h.fl.getD j ⟨0,0,0,0,0,0⟩).kind=1 then f (16+(j:Int)) else 0):=by
  rw[<-kQ]
  refine M9 λi _=> ?_
  split
  ·rfl
  ·grind
 rw[e1,e2];grind
theorem MH (h:V8):jE h (λ_=>0)=0:=by
 have:=GE h 0 λ_=>0
 grind
theorem MI (h:V8) (F:Nat->Int->Rat):∀n,L8 n (λu=>jE h (F u))=jE h (λs=>L8 n (λu=>F u s))
 |0=>by rw[L8];exact(MH h).symm
 |n+1=>by
  rw[L8,MI h F n,<-TS]
  exact xQ λs=>rfl
theorem MK (c:F8->Bool) (f:F8):∀l:List F8,dC (l++[f]) c=dC l c+if c f then f.amt else 0
 |[]=>by simp[dC]
 |g::l=>by
  rw[I1,dC,MK c f l,dC];omega
theorem YM (l:List F8) (d:F8) (c:F8->Bool):L8 l.length (λj=>if c (l.getD j d) then((l.getD j d).amt:Rat) else 0)=((dC l c:Int):Rat):=by
 obtain⟨r,rfl⟩:∃r,l=r.reverse:=⟨l.reverse,by simp⟩
 induction r with
 |nil=>rfl
 |cons f r ih=>
  rw[List.reverse_cons,MK,B4,F1,L8,X3,<-ih]
  have e1:(r.reverse++[f]).getD r.reverse.length d=f:=by rw[A5];simp
  rw[e1]
  have e2:L8 r.reverse.length (λj=>if c ((r.reverse++[f]).getD j d) then(((r.reverse++[f]).getD j d).amt:Rat) else 0)=L8 r.reverse.length (λj=>if c (r.reverse.getD j d) then((r.reverse.getD j d).amt:Rat) else 0):=M9 λj hj=>by
   have:(r.reverse++[f]).getD j d=r.reverse.getD j d:=by
    rw[A5,B8 hj,<-A5]
   rw[this]
  rw[e2]
  congr 1
  split
  ·rfl
  ·exact DV.symm
theorem B4b {h:V8} (h4:h.op.length<=4) (p:Int) (v:Nat):jE h (λs=>((inS h.fl p v s:Int):Rat))=((inI h.fl p v:Int):Rat):=by
 unfold jE
 have e1:L8 h.op.length (λi=>if 0<h.op.getD i 0 then((inS h.fl p v (i:Int):Int):Rat) else 0)=0:=iB λi hi=>by
  have:inS h.fl p v (i:Int)=0:=by
   unfold inS
   split
   ·rw[if_neg (by omega)]
   ·rfl
  rw[this]
  split<;>rfl
 rw[e1]
 unfold inI
 rw[<-YM h.fl ⟨0,0,0,0,0,0⟩]
 have:(0:Rat)+L8 h.fl.length (λj=>if(h.fl.getD j ⟨0,0,0,0,0,0⟩).kind=1 then((inS h.fl p v (16+(j:Int)):Int):Rat) else 0)=L8 h.fl.length (λj=>if(h.fl.getD j ⟨0,0,0,0,0,0⟩).kind=1 then((inS h.fl p v (16+(j:Int)):Int):Rat) else 0):=by grind
 rw[this]
 refine M9 λj hj=> ?_
 obtain⟨f,hf⟩:∃f,h.fl[j]? =some f:=⟨_,A3 hj⟩
 have hD:h.fl.getD j ⟨0,0,0,0,0,0⟩=f:=by rw[A5,hf];rfl
 rw[hD]
 unfold inS
 rw[show(16+(j:Int)-16).toNat=j by omega,hf]
 dsimp only
 by_cases hk:f.kind=1
 ·rw[if_pos hk]
  by_cases hc:f.per=p/\f.kind=1/\f.dst=(v:Int)
  ·rw[if_pos ⟨by omega,hc⟩,if_pos (C2 hc)]
  ·rw[if_neg (λe=>hc e.2),if_neg (by simpa using hc)];rfl
 ·rw[if_neg hk,if_neg (by simp;exact λ_ e=>absurd e hk)]
def B3r (fl:List F8) (p:Int) (v:Nat):Int:=dC fl λf=>decide (f.per=p/\f.kind≠1/\f.src=v)
theorem RS (p:Int) (v:Nat):∀fl:List F8,(fl.map (RT p v)).sum=inI fl p v+toI fl p v-B3r fl p v
 |[]=>rfl
 |f::fl=>by
  have ih:=RS p v fl
  rw[E8,iK,ih]
  unfold inI toI B3r
  rw[dC,dC,dC]
  have:RT p v f=(if decide (f.per=p/\f.kind=1/\f.dst=(v:Int))=true then f.amt else 0)+(if decide (f.per=p/\f.kind=2/\f.dst=(v:Int))=true then f.amt else 0)-(if decide (f.per=p/\f.kind≠1/\f.src=(v:Int))=true then f.amt else 0):=by
   unfold RT lQ
   by_cases h1:f.per=p<;>by_cases h2:f.kind=1<;>by_cases h3:f.kind=2<;>by_cases h4:f.dst=(v:Int)<;>by_cases h5:f.src=(v:Int)<;>simp[h1,h2,h3,h4,h5]<;>omega
  rw[this];omega
theorem mv_pos {fl:List F8} {p:Int} {u v:Nat} (h:∀f∈fl,0<f.amt) (hm:mvI fl p u v≠0):0<B3r fl p u:=by
 have h0:∀f∈fl,0<=f.amt:=λf hf=>gR (h f hf)
 have h1:0<=mvI fl p u v:=U2 h0
 obtain⟨f,hf,hc⟩:=GG h (l:=fl) (c:=λf=>decide (f.per=p/\f.kind=2/\f.src=u/\f.dst=v)) (by show 0<mvI fl p u v;omega)
 simp only[F3] at hc
 exact yT h hf (by simp only[F3];exact⟨hc.1,by omega,hc.2.2.1⟩)
theorem A9i {h:V8} (hh:HOk h) {v:Nat} (hv:v<h.op.length):jE h (λs=>(xAt h s 0).getD v 0)=if(W4 h 0).getD v 0=0 then 0 else 1:=by
 have hop:∀i,0<=h.op.getD i 0:=λi=>by
  have:=(hh.now 0 (B9 _)).2
  rw[A5]
  cases e:h.op[i]? with
  |none=>exact M7 _
  |some x=>exact(this x (A7 e)).1
 have hx:∀s,(xAt h s 0).getD v 0=if(v:Int)=s then 1 else 0:=λs=>by
  show(x0 h.op.length s).getD v 0=_
  unfold x0
  rw[A5,A8,F2 hv];rfl
 rw[xQ hx]
 unfold jE
 dsimp only
 have hn4:=hh.n4
 rw[kO hv (λi _ hi=>by split<;>first|rfl|rw[if_neg (by omega)]),iB (n:=h.fl.length) (λj hj=>by split<;>first|rfl|rw[if_neg (by omega)])]
 rw[if_pos rfl]
 have e:(W4 h 0).getD v 0=h.op.getD v 0:=rfl
 rw[e]
 have:=hop v
 by_cases hz:h.op.getD v 0=0
 ·rw[if_pos hz,if_neg (by omega)];grind
 ·rw[if_neg hz,if_pos (by omega)];grind
theorem A7f {h:V8} (hh:HOk h) {p:Nat} (hp:p<h.per.toNat) (ih:∀v,v<h.op.length->(W4 h p).getD v 0≠0->jE h (λs=>(xAt h s p).getD v 0)=1):
 ∀v,v<h.op.length->jE h (λs=>(xAt h s (p+1)).getD v 0)=if tot h.op.length (mR h.fl p) (dR h.fl p (W4 h p)) v=0 then 0 else 1:=by
 have hP:=hh.per hp
 have hl:=(hh.now p (by omega)).1
 have hM:=hP.move
 have hamt:∀f∈h.fl,0<f.amt:=λf hf=>by have:=hP.ok f hf;unfold F8.ok at this;omega
 have hamt0:∀f∈h.fl,0<=f.amt:=λf hf=>gR (hamt f hf)
 rw[<-hl] at ih ⊢
 have hS:wW (W4 h p).length (mR h.fl p) (dR h.fl p (W4 h p)) (λv=>jE h λs=>mY h.fl p (W4 h p) s (xAt h s p) v) (λv=>jE h λs=>(xAt h s (p+1)).getD v 0):=λv hv=>by
  have e:∀s,L8 (W4 h p).length (λu=>eqM (W4 h p).length (mR h.fl p) (dR h.fl p (W4 h p)) v u*(xAt h s (p+1)).getD u 0)=mY h.fl p (W4 h p) s (xAt h s p) v:=λs=>(ML (s:=s) (x:=xAt h s p) hP).2 v hv
  show _=jE h λs=>mY h.fl p (W4 h p) s (xAt h s p) v
  rw[<-xQ e,<-MI]
  refine M9 λu _=> ?_
  rw[GE]
 refine A7v hM hS (λv hv=> ?_) (λu v hu hv hm=> ?_)
 ·have e:jE h (λs=>mY h.fl p (W4 h p) s (xAt h s p) v)=if lR h.fl p (W4 h p) v then(((W4 h p).getD v 0:Int):Rat)*jE h (λs=>(xAt h s p).getD v 0)+((inI h.fl p v:Int):Rat) else 0:=by
   unfold mY
   by_cases hc:lR h.fl p (W4 h p) v
   ·simp only[if_pos hc]
    rw[TS,GE,B4b hh.n4]
   ·simp only[if_neg hc]
    exact MH h
  rw[e]
  by_cases ht:tot (W4 h p).length (mR h.fl p) (dR h.fl p (W4 h p)) v=0
  ·rw[if_pos ht,if_neg (λhc=>(hP.nz_iff hv).1 hc ht)]
  ·rw[if_neg ht,if_pos ((hP.nz_iff hv).2 ht)]
   unfold dR
   rw[X3]
   by_cases hz:(W4 h p).getD v 0=0
   ·rw[hz,DV];grind
   ·rw[ih v hv hz];grind
 ·rw[hP.tot_eq u]
  unfold mR at hm
  have hm0:mvI h.fl p u v≠0:=λe=>hm (by rw[e];rfl)
  have ho:=mv_pos hamt hm0
  have ha:=oV (q:=(p:Int)) u h.fl (now:=W4 h p) hP.ok
  rw[RS] at ha
  have hge:0<=(P0 h.fl p (W4 h p)).getD u 0:=by
   rw[A5]
   cases e:(P0 h.fl p (W4 h p))[u]? with
   |none=>exact M7 _
   |some x=>exact hP.can.1 x (A7 e)
  intro h0
  have h1:(W4 h p).getD u 0+inI h.fl p u+toI h.fl p u=0:=by
   have:(((W4 h p).getD u 0+inI h.fl p u+toI h.fl p u:Int):Rat)=((0:Int):Rat):=h0
   exact tI.1 this
  omega
theorem A1u {h:V8} (hh:HOk h):∀p:Nat,p<=h.per.toNat->∀v,v<h.op.length->((W4 h p).getD v 0≠0->jE h (λs=>(xAt h s p).getD v 0)=1)/\(jE h (λs=>(xAt h s p).getD v 0)=0∨jE h (λs=>(xAt h s p).getD v 0)=1)
 |0,_,v,hv=>by
  have:=A9i hh hv
  rw[this]
  by_cases h0:(W4 h 0).getD v 0=0
  ·rw[if_pos h0];exact⟨λe=>absurd h0 e,.inl rfl⟩
  ·rw[if_neg h0];exact⟨λ_=>rfl,.inr rfl⟩
 |p+1,hp,v,hv=>by
  have hP:=hh.per (i:=p) (by omega)
  have hl:=(hh.now p (by omega)).1
  have hamt0:∀f∈h.fl,0<=f.amt:=λf hf=>by have:=hP.ok f hf;unfold F8.ok at this;omega
  rw[A7f hh (p:=p) (by omega) (λv hv=>(A1u hh p (by omega) v hv).1) v hv]
  refine⟨λhn=> ?_,by split<;>simp⟩
  rw[if_neg]
  intro h0
  rw[<-hl,hP.tot_eq v] at h0
  have h1:(W4 h p).getD v 0+inI h.fl p v+toI h.fl p v=0:=by
   have:(((W4 h p).getD v 0+inI h.fl p v+toI h.fl p v:Int):Rat)=((0:Int):Rat):=h0
   exact tI.1 this
  have ha:=oV (q:=(p:Int)) v h.fl (now:=W4 h p) hP.ok
  rw[RS] at ha
  have he:=(hh.run.2 p (by omega)).2
  have hge:0<=(P0 h.fl p (W4 h p)).getD v 0:=by
   rw[A5]
   cases e:(P0 h.fl p (W4 h p))[v]? with
   |none=>exact M7 _
   |some x=>exact hP.can.1 x (A7 e)
  have ho:0<=B3r h.fl p v:=U2 hamt0
  rw[he] at hn
  omega
end Go.PM
namespace Go.PM
open Go.Proofs
theorem A9z:∀{ms a:List Int},InC ms a↔a.length=ms.length/\∀(i:Nat) (x y:Int),a[i]? =some x->ms[i]? =some y->0<=x/\x<y
 |[],[]=>by simp[InC]
 |[],_::_=>by simp[InC]
 |_::_,[]=>by simp[InC]
 |m::ms,x::a=>by
  have ih:=A9z (ms:=ms) (a:=a)
  constructor
  ·intro h
   obtain⟨h1,h2⟩:(0<=x/\x<m)/\InC ms a:=h
   obtain⟨h3,h4⟩:=ih.1 h2
   refine⟨by simp[h3],λi u v hu hv=> ?_⟩
   cases i with
   |zero=>simp at hu hv;subst hu;subst hv;exact h1
   |succ i=>exact h4 i u v (by simpa using hu) (by simpa using hv)
  ·rintro⟨h1,h2⟩
   exact(⟨h2 0 x m rfl rfl,ih.2 ⟨by simpa using h1,λi u v hu hv=>h2 (i+1) u v (by simpa using hu) (by simpa using hv)⟩⟩:(0<=x/\x<m)/\InC ms a)
def Whole (m c:List Int):Prop:=c.length=m.length/\W7 c m
theorem CR {m:List Int}:∀(i:Nat),i<=m.length->∀c,c∈Y6 m i↔c.length=i/\W7 c m
 |0,_,c=>by
  simp only[Y6,H9]
  constructor
  ·rintro rfl;exact⟨rfl,Y0 m⟩
  ·rintro⟨h,_⟩;exact DY.1 h
 |i+1,hi,c=>by
  have ih:=CR (m:=m) i (by omega)
  obtain⟨y,hy⟩:∃y,m[i]? =some y:=⟨_,A3 (by omega)⟩
  have hyD:m.getD i 0=y:=by rw[A5,hy];rfl
  rw[Y6,W3]
  unfold oT
  rw[hyD]
  constructor
  ·rintro⟨r,hr,hc⟩
   obtain⟨h1,h2⟩:=(ih r).1 hr
   obtain⟨n,hn,rfl⟩:=K4.1 hc
   have hn:=K2.1 hn
   exact⟨by rw[B4,F1,h1],nW h2 (by rw[h1];exact hy) (by omega)⟩
  ·rintro⟨h1,h2⟩
   obtain⟨x,hx⟩:∃x,c[i]? =some x:=⟨_,A3 (by omega)⟩
   have hb:=h2.2 i x y hx hy
   refine⟨c.take i,(ih _).2 ⟨by rw[D0];omega,⟨by rw[D0];omega,λj u v hu hv=> ?_⟩⟩,K4.2 ⟨x.toNat,K2.2 (by omega),?_⟩⟩
   ·by_cases hj:j<i
    ·rw[I8 hj] at hu;exact h2.2 j u v hu hv
    ·rw[E0 (by rw[D0];omega)] at hu;cases hu
   ·have e:((x.toNat:Nat):Int)=x:=by omega
    rw[e]
    have h3:c.take (i+1)=c.take i++[x]:=by rw[D1,hx];rfl
    rw[<-h3,C7 (by omega)]
theorem vE {m c:List Int}:c∈bV m↔Whole m c:=CR m.length (B1 _) c
theorem B0g {m c0 c:List Int} (hc:Whole m c) {e:List Int} (he:c=c0++e):c∈cZ m c0:=by
 subst he
 refine uJ.2 ⟨e,rfl,A9z.2 ⟨?_,λi x y hx hy=> ?_⟩⟩
 ·have:=hc.1
  rw[B4] at this
  rw[aA];omega
 ·rw[J4] at hy
  have:=hc.2.2 (c0.length+i) x y (by rw[B3 (by omega)];simpa using hx) hy
  omega
theorem B1i {b:D7} (F:fO b) {c:List Int} (hw:Whole (G0 b) c) (hcs:Y2 b c):∀(k:Nat) (c0 e:List Int),c0.length+k=(G0 b).length->c=c0++e->Lf.con c∈lfs b k c0:=by
 obtain⟨hb,hM,hml,hd,hm⟩:=bZ F.e
 have hnb:∀c0 e,c=c0++e->aM b c0=none:=λc0 e he=>by
  cases hbk:aM b c0 with
  |none=>rfl
  |some vp=>
   obtain⟨v,p⟩:=vp
   obtain⟨h1,h2,h3⟩:=SC hbk
   exact absurd h3 (SB hb (B0g hw he) hcs h1 h2)
 intro k
 induction k with
 |zero=>
  intro c0 e hl he
  unfold lfs
  rw[hnb c0 e he]
  have h1:=hw.1
  have:e=[]:=by
   rw[he,B4] at h1
   exact DY.1 (by omega)
  subst this
  rw[I3] at he
  subst he
  show _∈[EN b c]
  unfold EN
  rw[if_pos hcs]
  exact H9.2 rfl
 |succ k ih=>
  intro c0 e hl he
  unfold lfs
  rw[hnb c0 e he]
  dsimp only
  cases e with
  |nil=>
   rw[I3] at he
   have h1:=hw.1
   rw[he] at h1;omega
  |cons x e=>
   obtain⟨y,hy⟩:∃y,(G0 b)[c0.length]? =some y:=⟨_,A3 (by omega)⟩
   have hx:c[c0.length]? =some x:=by rw[he,B3 (B1 _),G2];rfl
   have hb2:=hw.2.2 c0.length x y hx hy
   have e1:((x.toNat:Nat):Int)=x:=by omega
   refine W3.2 ⟨x.toNat,?_,?_⟩
   ·rw[A5,hy,K2]
    show x.toNat<y.toNat
    omega
   ·rw[e1]
    exact ih (c0++[x]) e (by rw[B4,F1];omega) (by rw[he,D5];rfl)
theorem IT {b:D7} (hm:∀x∈G0 b,1<=x/\x<=17):∀(k:Nat) (c:List Int),c.length+k=(G0 b).length->W7 c (G0 b)->∀d,Lf.con d∈lfs b k c->Whole (G0 b) d
 |0,c,hl,hc,d,h=>by
  unfold lfs at h
  split at h
  ·simp at h
  ·unfold EN at h
   split at h
   ·rw[H9] at h;cases h;exact⟨by omega,hc⟩
   ·simp at h
 |k+1,c,hl,hc,d,h=>by
  unfold lfs at h
  split at h
  ·simp at h
  ·obtain⟨n,hn,h⟩:=W3.1 h
   obtain⟨y,hy⟩:∃y,(G0 b)[c.length]? =some y:=⟨_,A3 (by omega)⟩
   have hyb:=hm y (A7 hy)
   rw[A5,hy,K2] at hn
   have hn2:n<y.toNat:=hn
   exact IT hm k _ (by rw[B4,F1];omega) (nW hc hy (by omega)) d h
theorem wF {b:D7} (F:fO b) (s:Int) (sp:S8) (q:Bool):aS b s sp (if q then 2 else 3) (L7 b)=true↔∃c,c∈bV (G0 b)/\Y2 b c/\nR b s sp c=q:=by
 obtain⟨hb,hM,hml,hd,hm⟩:=bZ F.e
 unfold aS
 rw[aC]
 constructor
 ·rintro⟨l,hl,hk⟩
  have hk:=G4 hk
  cases l with
  |brk c v p=>unfold Lf.kind at hk;cases q<;>simp at hk
  |con c=>
   have hw:=IT hm _ _ (by simp) (Y0 _) c hl
   refine⟨c,vE.2 hw,nM b _ _ _ hl,?_⟩
   unfold Lf.kind at hk
   dsimp only at hk
   cases hh:nR b s sp c<;>cases q<;>first|rfl|(rw[hh] at hk;exact absurd hk (by decide))
 ·rintro⟨c,h1,h2,h3⟩
  refine⟨.con c,B1i F (vE.1 h1) h2 _ [] c (by simp) rfl,C2 ?_⟩
  unfold Lf.kind
  dsimp only
  rw[h3]
def A4e (b:D7) (c:List Int) (i j:Nat):Bool:=decide ((i=j/\((recAt b i).kind=1/\(recAt b i).f.amt-(recAt b i).n+xOf b c i=0∨(recAt b i).kind=4/\xOf b c i=1))∨((recAt b i).kind=3/\xOf b c i=0/\(recAt b i).oth.toNat=j))
theorem B4l {b:D7} {k i:Nat} (h:(N6 b)[k]? =some i):(Y1 b i).length=k:=by
 have hm:=A7 h
 obtain⟨r,hr,hd⟩:=mL hm
 have hil:=(A4.1 hr).1
 have h1:=jW hr
 rw[hd,if_pos rfl] at h1
 have hpre:∀m,∃e,Y1 b (i+1+m)=Y1 b (i+1)++e:=λm=>by
  unfold Y1
  rw[List.range_add,L6]
  exact⟨_,rfl⟩
 obtain⟨e,he⟩:=hpre (b.recs.length-(i+1))
 rw[show i+1+(b.recs.length-(i+1))=b.recs.length by omega] at he
 have h2:(N6 b)[(Y1 b i).length]? =some i:=by
  show(Y1 b b.recs.length)[_]? =_
  rw[he,h1,D5,B3 (B1 _),G2];rfl
 exact WQ h2 h
theorem NO {l:List Bool} {i j:Nat} (hi:i<l.length):(l.set i false).getD j false=(l.getD j false&& !decide (i=j)):=by
 rw[A5,A5]
 by_cases e:i=j
 ·subst e;rw[G1 hi];simp
 ·rw[C3 e];simp[e]
theorem A2w {b:D7} {i:Nat} (h:i∈N6 b):i<b.recs.length:=by
 obtain⟨r,hr,_⟩:=mL h
 exact(A4.1 hr).1
theorem VI {b:D7} (hb:b.ok) (c:List Int):∀k,k<=(N6 b).length->∀j,j<b.recs.length->(lvL b c k).getD j false=(decide ((recAt b j).kind≠6)&& !(((N6 b).take k).any λi=>A4e b c i j))
 |0,_,j,hj=>by
  obtain⟨r,hr⟩:∃r,b.recs[j]? =some r:=⟨_,A3 hj⟩
  have hrA:recAt b j=r:=by unfold recAt;rw[A5,hr];rfl
  rw[VG,A5,A8,hr,hrA]
  simp
 |k+1,hk,j,hj=>by
  have ih:=VI hb c k (by omega) j hj
  obtain⟨i,hi⟩:∃i,(N6 b)[k]? =some i:=⟨_,A3 (by omega)⟩
  have hil:=A2w (A7 hi)
  obtain⟨r,hr⟩:∃r,b.recs[i]? =some r:=⟨_,A3 hil⟩
  have hrA:recAt b i=r:=by unfold recAt;rw[A5,hr];rfl
  have hx:xOf b c i=c.getD k 0:=by unfold xOf;rw[B4l hi]
  have hro:=hb.rs i r hr
  have hdb:dbt r=true:=by
   obtain⟨r',hr',hd⟩:=mL (A7 hi)
   rw[hr] at hr';cases hr';exact hd
  have hdk:r.kind≠0/\r.kind≠6:=G4 hdb
  have hoj:r.kind=3∨r.kind=5->(0<=r.oth/\r.oth<=(b.recs.length:Int)-1):=λh=>by
   have hoth:=hro.2.1
   unfold jJ at hoth
   rw[if_neg (by omega)] at hoth
   exact hoth.1
  have hs:=VH (b:=b) (c:=c) hi hrA rfl hil (λh=>by have:=hoj h;omega)
  have hlen:=QU b c k
  rw[hs,D1,hi,List.any_append]
  have hR:A4e b c i j=decide ((i=j/\(r.kind=1/\r.f.amt-r.n+c.getD k 0=0∨r.kind=4/\c.getD k 0=1))∨(r.kind=3/\c.getD k 0=0/\r.oth.toNat=j)):=by unfold A4e;rw[hrA,hx]
  have hany:(Option.some i).toList.any (λi=>A4e b c i j)=A4e b c i j:=by simp
  rw[hany,hR]
  by_cases hA:r.kind=1/\r.f.amt-r.n+c.getD k 0=0∨r.kind=4/\c.getD k 0=1
  ·rw[if_pos hA,NO (by rw[hlen];exact hil),ih]
   have:decide ((i=j/\(r.kind=1/\r.f.amt-r.n+c.getD k 0=0∨r.kind=4/\c.getD k 0=1))∨(r.kind=3/\c.getD k 0=0/\r.oth.toNat=j))=decide (i=j):=W1.2 ⟨λh=>by rcases h with h|h<;>omega,λh=>.inl ⟨h,hA⟩⟩
   rw[this,Bool.not_or,Bool.and_assoc]
  ·rw[if_neg hA]
   by_cases hB:r.kind=3/\c.getD k 0=0
   ·rw[if_pos hB,NO (by rw[hlen];have:=hoj (.inl hB.1);omega),ih]
    have:decide ((i=j/\(r.kind=1/\r.f.amt-r.n+c.getD k 0=0∨r.kind=4/\c.getD k 0=1))∨(r.kind=3/\c.getD k 0=0/\r.oth.toNat=j))=decide (r.oth.toNat=j):=W1.2 ⟨λh=>by rcases h with h|h<;>omega,λh=>.inr ⟨hB.1,hB.2,h⟩⟩
    rw[this,Bool.not_or,Bool.and_assoc]
   ·rw[if_neg hB,ih]
    have:decide ((i=j/\(r.kind=1/\r.f.amt-r.n+c.getD k 0=0∨r.kind=4/\c.getD k 0=1))∨(r.kind=3/\c.getD k 0=0/\r.oth.toNat=j))=false:=B6 λh=>by
     rcases h with h|h
     ·exact hA h.2
     ·exact hB ⟨h.1,h.2.1⟩
    rw[this,aQ]
theorem OF {b:D7} (hb:b.ok) (c:List Int) (j:Nat) (hj:j<b.recs.length):∀i,i<=b.recs.length->(gV b c i).getD j false=(List.range i).any λi=>decide ((recAt b i).kind=3/\xOf b c i=0/\(recAt b i).oth.toNat=j)
 |0,_=>by
  show(List.replicate b.recs.length false).getD j false=_
  rw[A5,J2,if_pos hj];rfl
 |i+1,hi=>by
  have ih:=OF hb c j hj i (by omega)
  rw[gV,Q4,List.any_append,<-ih]
  have hl:=qI b c i
  by_cases h:(recAt b i).kind=3/\xOf b c i=0
  ·rw[if_pos h,A5,A5]
   by_cases e:(recAt b i).oth.toNat=j
   ·subst e
    rw[G1 (by omega)]
    simp[h]
   ·rw[C3 e];simp[e]
  ·rw[if_neg h]
   have:¬((recAt b i).kind=3/\xOf b c i=0/\(recAt b i).oth.toNat=j):=λe=>h ⟨e.1,e.2.1⟩
   simp[this]
theorem GA {b:D7} (hb:b.ok) (c:List Int) {j:Nat} (hj:j<b.recs.length):lG b c j=(aU b c).getD j false:=by
 unfold aU
 rw[VI hb c _ (B1 _) j hj,I5]
 unfold lG
 rw[OF hb c j hj _ (B1 _)]
 have h1:(sY b c b.recs.length).getD j false=lvF b c j:=by
  unfold sY
  rw[G2,lD,I3,A5,A8,F2 hj];rfl
 rw[h1]
 unfold lvF
 rw[Bool.and_assoc]
 congr 1
 rw[<-Bool.not_or]
 congr 1
 rw[bT]
 simp only[Q6,aC,F3,K2,A4e]
 have hmem:∀i,i<b.recs.length->(recAt b i).kind≠0->(recAt b i).kind≠6->i∈N6 b:=λi hi h0 h6=>by
  unfold N6 Y1
  rw[bS]
  refine⟨K2.2 hi,?_⟩
  obtain⟨r,hr⟩:∃r,b.recs[i]? =some r:=⟨_,A3 hi⟩
  have hrA:recAt b i=r:=by unfold recAt;rw[A5,hr];rfl
  rw[hr]
  rw[hrA] at h0 h6
  exact C2 ⟨h0,h6⟩
 constructor
 ·rintro(h|⟨i,hi,h⟩)
  ·exact⟨j,hmem j hj (by omega) (by omega),.inl ⟨rfl,by omega⟩⟩
  ·exact⟨i,hmem i hi (by omega) (by omega),.inr h⟩
 ·rintro⟨i,hi,⟨rfl,h⟩|h⟩
  ·exact .inl (by omega)
  ·exact .inr ⟨i,A2w hi,h⟩
theorem B3n {b:D7} (hb:b.ok) (c:List Int) {k:Nat} (hk:k<=b.recs.length):zE b c k=AC ((aU b c).take k):=by
 have h2:∀n,n<=b.recs.length->((List.range n).filter (lG b c)).length=(((aU b c).take n).filter id).length:=λn=>by
  induction n with
  |zero=>intro _;simp
  |succ n ih=>
   intro hn
   have ih:=ih (by omega)
   have hl:=vS b c
   obtain⟨q,hq⟩:∃q,(aU b c)[n]? =some q:=⟨_,A3 (by omega)⟩
   have hqD:(aU b c).getD n false=q:=by rw[A5,hq];rfl
   have ht:=GA hb c (j:=n) (by omega)
   rw[hqD] at ht
   rw[Q4,L6,B4,ih,D1,hq,L6,B4]
   congr 1
   cases q<;>simp[List.filter,ht]
 unfold zE AC
 rw[h2 k hk]
theorem A3z {b:D7} (hb:b.ok) (c:List Int) {k:Nat} (hk:k<b.recs.length):Q8 b (16+(k:Int)) c=if lG b c k then 16+zE b c k else -1:=by
 unfold Q8
 rw[if_neg (by omega),show(16+(k:Int)-16).toNat=k by omega,GA hb c hk,B3n hb c (by omega)]
 cases (aU b c).getD k false<;>rfl
def mF (f:Int->Rat) (l:List Int):Rat:=l.foldl (λa s=>a+f s) 0
theorem A3q (f:Int->Rat) (l:List Int) (s:Int):mF f (l++[s])=mF f l+f s:=by unfold mF;rw[oY];rfl
theorem yR (f:Int->Rat) (l:List Int):∀r,mF f (l++r)=mF f l+mF f r:=by
 have h:∀(r:List Int) (a:Rat),r.foldl (λa s=>a+f s) a=a+r.foldl (λa s=>a+f s) 0:=λr=>by
  induction r with
  |nil=>intro a;show a=a+0;grind
  |cons x r ih=>
   intro a
   rw[dX,dX,ih (a+f x),ih (0+f x)]
   grind
 intro r
 unfold mF
 rw[oY,h]
theorem AR (f:Int->Rat) (p:Nat->Bool) (q:Nat->Int):∀n,mF f (((List.range n).filter p).map q)=L8 n (λi=>if p i=true then f (q i) else 0)
 |0=>rfl
 |n+1=>by
  rw[Q4,L6,D2,yR,AR f p q n,L8]
  congr 1
  cases h:p n with
  |true=>
   rw[if_pos rfl]
   have:([n].filter p).map q=[q n]:=by simp[List.filter,h]
   rw[this]
   show 0+f (q n)=_
   grind
  |false=>
   rw[if_neg (λe=>Bool.noConfusion e)]
   have:([n].filter p).map q=[]:=by simp[List.filter,h]
   rw[this];rfl
def shB (b:D7) (sp:S8) (c:List Int) (s:Int):Rat:=if 0<=Q8 b s c then oD b s sp c else 0
theorem B0d (b:D7) (s:Int) (sp:S8) (c:List Int):nR b s sp c=decide (shB b sp c s≠0):=by
 unfold nR shB
 refine W1.2 ?_
 by_cases h:0<=Q8 b s c
 ·rw[if_pos h];exact and_iff_right h
 ·rw[if_neg h];exact⟨λe=>absurd e.1 h,λe=>absurd rfl e⟩
theorem A4r (F:Int->Rat):∀W:List D8,L8 W.length (λi=>if(W.getD i O5).live=true/\(W.getD i O5).f.kind=1 then F (16+((((W.take i).filter D8.live).length:Nat):Int)) else 0)=
 L8 ((W.filter D8.live).map D8.f).length (λj=>if(((W.filter D8.live).map D8.f).getD j ⟨0,0,0,0,0,0⟩).kind=1 then F (16+(j:Int)) else 0):=λW=>by
 obtain⟨R,rfl⟩:∃R,W=R.reverse:=⟨W.reverse,by simp⟩
 induction R with
 |nil=>rfl
 |cons w R ih=>
  rw[List.reverse_cons,B4,F1,L8]
  have e1:(R.reverse++[w]).getD R.reverse.length O5=w:=by rw[A5];simp
  have e0:L8 R.reverse.length (λi=>if((R.reverse++[w]).getD i O5).live=true/\((R.reverse++[w]).getD i O5).f.kind=1 then F (16+(((((R.reverse++[w]).take i).filter D8.live).length:Nat):Int)) else 0)=
   L8 R.reverse.length (λi=>if(R.reverse.getD i O5).live=true/\(R.reverse.getD i O5).f.kind=1 then F (16+((((R.reverse.take i).filter D8.live).length:Nat):Int)) else 0):=M9 λi hi=>by
   have g1:(R.reverse++[w]).getD i O5=R.reverse.getD i O5:=by
    rw[A5,B8 hi,<-A5]
   have g2:(R.reverse++[w]).take i=R.reverse.take i:=gG (by omega)
   rw[g1,g2]
  have e2:(R.reverse++[w]).take R.reverse.length=R.reverse:=by rw[gG (B1 _),I5]
  rw[e0,ih,e1,e2,L6,D2]
  cases hw:w.live with
  |false=>
   have:([w].filter D8.live).map D8.f=[]:=by simp[List.filter,hw]
   rw[this,I3,if_neg (λh=>Bool.noConfusion h.1)]
   grind
  |true=>
   have:([w].filter D8.live).map D8.f=[w.f]:=by simp[List.filter,hw]
   rw[this,B4,F1,L8]
   have g3:(((R.reverse.filter D8.live).map D8.f)++[w.f]).getD ((R.reverse.filter D8.live).map D8.f).length ⟨0,0,0,0,0,0⟩=w.f:=by rw[A5];simp
   have g4:L8 ((R.reverse.filter D8.live).map D8.f).length (λj=>if((((R.reverse.filter D8.live).map D8.f)++[w.f]).getD j ⟨0,0,0,0,0,0⟩).kind=1 then F (16+(j:Int)) else 0)=L8 ((R.reverse.filter D8.live).map D8.f).length (λj=>if(((R.reverse.filter D8.live).map D8.f).getD j ⟨0,0,0,0,0,0⟩).kind=1 then F (16+(j:Int)) else 0):=M9 λj hj=>by
    have:(((R.reverse.filter D8.live).map D8.f)++[w.f]).getD j ⟨0,0,0,0,0,0⟩=((R.reverse.filter D8.live).map D8.f).getD j ⟨0,0,0,0,0,0⟩:=by
     rw[A5,B8 hj,<-A5]
    rw[this]
   rw[g3,g4,A6]
   congr 1
   by_cases hk:w.f.kind=1
   ·rw[if_pos ⟨rfl,hk⟩,if_pos hk]
   ·rw[if_neg (λe=>hk e.2),if_neg hk]
theorem B2s {b:D7} (ho:b.op.length<=16) (sp:S8) (c:List Int):mF (shB b sp c) (Z8 b)=jE (T1 b c) (λs=>(xAt (T1 b c) s (sp.p.toNat+1)).getD sp.v.toNat 0):=by
 obtain⟨F,hF⟩:∃F:Int->Rat,F=λs=>(xAt (T1 b c) s (sp.p.toNat+1)).getD sp.v.toNat 0:=⟨_,rfl⟩
 rw[<-hF]
 have hsh:∀s,shB b sp c s=if 0<=Q8 b s c then F (Q8 b s c) else 0:=λs=>by rw[hF];rfl
 unfold Z8 sM HA
 rw[yR,AR,AR]
 unfold jE
 congr 1
 ·refine M9 λi hi=> ?_
  have e:Q8 b (Int.ofNat i) c=(i:Int):=by
   unfold Q8
   have:(Int.ofNat i)<16:=by show(i:Int)<16;have:i<b.op.length:=hi;omega
   rw[if_pos this];rfl
  rw[hsh,e,if_pos (show(0:Int)<=(i:Int) by omega)]
  by_cases h0:0<b.op.getD i 0
  ·rw[if_pos (C2 h0)];exact(if_pos h0).symm
  ·rw[if_neg (by simpa using h0)];exact(if_neg h0).symm
 ·have hl:=A4r F (R8 b c)
  have hlen:=cI b c
  show _=L8 ((((R8 b c).filter D8.live).map D8.f)).length (λj=>if((((R8 b c).filter D8.live).map D8.f).getD j ⟨0,0,0,0,0,0⟩).kind=1 then F (16+(j:Int)) else 0)
  rw[<-hl,hlen]
  refine M9 λi hi=> ?_
  obtain⟨w,hw⟩:∃w,(R8 b c)[i]? =some w:=⟨_,A3 (by omega)⟩
  obtain⟨r,hr⟩:∃r,b.recs[i]? =some r:=⟨_,A3 hi⟩
  have hwD:(R8 b c).getD i O5=w:=by rw[A5,hw];rfl
  have hrA:recAt b i=r:=by unfold recAt;rw[A5,hr];rfl
  have hk:w.f.kind=r.f.kind:=by rw[<-hwD];exact BC hr _
  have hlD:(aU b c).getD i false=w.live:=by
   show((R8 b c).map D8.live).getD i false=_
   rw[A5,A8,hw];rfl
  have hcn:AC ((aU b c).take i)=(((((R8 b c).take i).filter D8.live).length:Nat):Int):=OI (R8 b c) i
  have hsi:Q8 b (16+(i:Int)) c=if w.live=false then -1 else 16+(((((R8 b c).take i).filter D8.live).length:Nat):Int):=by
   unfold Q8
   rw[if_neg (by omega),show(16+(i:Int)-16).toNat=i by omega,hlD,hcn]
  rw[hsh,hsi,hwD,hrA,hk]
  have h16:(0:Int)<=16+(((((R8 b c).take i).filter D8.live).length:Nat):Int):=by omega
  generalize (16+(((((R8 b c).take i).filter D8.live).length:Nat):Int))=z at h16 ⊢
  cases w.live with
  |false=>by_cases h1:r.f.kind=1<;>simp[h1]
  |true=>by_cases h1:r.f.kind=1<;>simp[h1,h16]
theorem sum01 {b:D7} (F:fO b) {sp:S8} (hsp:sp.ok b) {c:List Int} (hc:Y2 b c):mF (shB b sp c) (Z8 b)=0∨mF (shB b sp c) (Z8 b)=1:=by
 have ho4:=F.o4
 have hv:=hsp.v
 have hp:=hsp.p
 rw[B2s (by omega)]
 exact(A1u (oN F hc) (sp.p.toNat+1) (by show _<=b.per.toNat;omega) sp.v.toNat (by show _<b.op.length;omega)).2
theorem TJ {b:D7} (F:fO b) {s:Int} (hs:s∈Z8 b) {sp:S8} (hsp:sp.ok b) {c:List Int} (hw:Whole (G0 b) c) (hc:Y2 b c):
 C9 Tryz.prog 14 [.d b.d,.d (T1 b c).d,.d (SL 1 (c.map I)),.d (I s),.d sp.d] (E5 [rD (shB b sp c s),.b true]):=by
 obtain⟨hb,hM,hml,hd,hm⟩:=bZ F.e
 have hv:=hsp.v
 have hp:=hsp.p
 have ho4:=F.o4
 have hcb:=qL hw.2 λx hx=>(hm x hx).2
 have hcl:c.length=(N6 b).length:=by rw[hw.1,hml]
 have hN:=nC 0 (by decide)
 rw[DV] at hN
 obtain⟨g1,g2⟩:=MO F hsp hc (s:=s)
 have hnl:=GI hs (by have:=F.r8;omega) c
 have hmem:=AU hs (by omega) (c:=c)
 have hS:0<=Q8 b s c->C9 Tryz.prog 29 [.d (T1 b c).d,.d (I (Q8 b s c))] (E5 [SL 1 (K1 (U3 (T1 b c) (Q8 b s c))),I 0]):=λh0=>kC (T1 b c) (oN F hc) _ (hmem h0) ⟨h0,hnl⟩
 have l1:(K1 (U3 (T1 b c) (Q8 b s c))).length=b.per.toNat:=by unfold K1 U3;simp;rfl
 have l2:((xAt (T1 b c) (Q8 b s c) (sp.p.toNat+1)).map rD).length=b.op.length:=by
  rw[A6];exact((oN F hc).x (Q8 b s c) (sp.p.toNat+1) (by show sp.p.toNat+1<=b.per.toNat;omega)).1.len
 unfold shB
 rcases rB hs with⟨a1,a2,_⟩|⟨k,r,rfl,hr,hk⟩
 ·have e:Q8 b s c=s:=by unfold Q8;rw[if_pos (by omega)]
  rw[e] at g1 g2 hS l1 l2 ⊢
  have hS:=hS a1
  rw[if_pos a1]
  generalize oD b s sp c=q at g2 ⊢
  refine pU Tryz.func14 ?_
  repeat' ((conv=>whnf);first|refine Nam.mk l1 ?_|refine Nam.mk l2 ?_|refine sT ?_|refine sP ?_ ?_<;>intro _|refine cA hN ?_|refine cA hS ?_|refine A9 g1 ?_|refine A9 g2 ?_|fail)
  all_goals exact fI
 ·have hkl:=(A4.1 hr).1
  have hFl:=YJ b hb c k false hcl hcb hkl
  rw[show I (k:Int)=I (16+(k:Int)-16) from N8 I (by omega)] at hFl
  have hr8:=F.r8
  have e:=A3z hb c hkl
  cases ht:lG b c k with
  |false=>
   rw[ht] at e hFl
   rw[if_neg (λh=>Bool.noConfusion h)] at e
   rw[e,if_neg (by decide)]
   refine pU Tryz.func14 ?_
   repeat' ((conv=>whnf);first|refine sT ?_|refine sP ?_ ?_<;>intro _|refine cA hN ?_|refine cA hFl ?_|fail)
   all_goals exact fI
  |true=>
   rw[ht] at e hFl
   rw[if_pos rfl] at e
   have hpk:0<=zE b c k/\zE b c k<=8:=by
    have h1:=L0 (lG b c) (List.range k)
    rw[M6] at h1
    unfold zE;omega
   rw[e] at g1 g2 hS l1 l2 ⊢
   have hS:=hS (by omega)
   rw[if_pos (by omega)]
   generalize oD b (16+(k:Int)) sp c=q at g2 ⊢
   refine pU Tryz.func14 ?_
   repeat' ((conv=>whnf);first|refine Nam.mk l1 ?_|refine Nam.mk l2 ?_|refine sT ?_|refine sP ?_ ?_<;>intro _|refine cA hN ?_|refine cA hFl ?_|refine cA hS ?_|refine A9 g1 ?_|refine A9 g2 ?_|fail)
   all_goals exact fI
theorem GZ (r:Rec):C9 Tryz.prog 83 [.d r.d] (E5 [.b (dbt r)]):=by
 unfold dbt
 obtain⟨f,k,n,o⟩:=r
 dsimp only[Rec.d]
 by_cases h0:k=0
 ·rw[B6 (λh=>h.1 h0)]
  refine pU Tryz.func83 ?_
  repeat' ((conv=>whnf);first|refine sT ?_|refine sP ?_ ?_<;>intro _|fail)
  all_goals exact fI
 ·by_cases h6:k=6
  ·rw[B6 (λh=>h.2 h6)]
   refine pU Tryz.func83 ?_
   repeat' ((conv=>whnf);first|refine sT ?_|refine sP ?_ ?_<;>intro _|fail)
   all_goals exact fI
  ·rw[C2 ⟨h0,h6⟩]
   refine pU Tryz.func83 ?_
   repeat' ((conv=>whnf);first|refine sT ?_|refine sP ?_ ?_<;>intro _|fail)
   all_goals exact fI
def fwP (b:D7):Nat->Int
 |0=>1
 |i+1=>if dbt (recAt b i) then fwP b i*(if(recAt b i).kind=1/\0<=(recAt b i).n/\(recAt b i).n<=8 then 2*(recAt b i).n+1 else 2) else fwP b i
def fwD (b:D7):Nat->Int
 |0=>0
 |i+1=>if dbt (recAt b i) then fwD b i+1 else fwD b i
theorem B0l (b:D7):∀i,1<=fwP b i/\fwP b i<=17^i
 |0=>⟨M7 _,M7 _⟩
 |i+1=>by
  obtain⟨h1,h2⟩:=B0l b i
  rw[fwP,Int.pow_succ]
  split
  ·split
   ·have a:=aZ (a:=1) (c:=fwP b i) (b:=1) (d:=2*(recAt b i).n+1) h1 (by omega) (by decide) (by omega)
    have c:=aZ (a:=fwP b i) (c:=17^i) (b:=2*(recAt b i).n+1) (d:=17) h2 (by omega) (by omega) (by omega)
    omega
   ·omega
  ·omega
theorem B0m (b:D7):∀i:Nat,0<=fwD b i/\fwD b i<=i
 |0=>⟨M7 _,M7 _⟩
 |i+1=>by
  have:=B0m b i
  rw[fwD]
  split<;>omega
theorem pow17 {i:Nat} (h:i<=13):(17:Int)^i<=9904578032905937:=by
 have h2:i=0∨i=1∨i=2∨i=3∨i=4∨i=5∨i=6∨i=7∨i=8∨i=9∨i=10∨i=11∨i=12∨i=13:=by omega
 rcases h2 with rfl|rfl|rfl|rfl|rfl|rfl|rfl|rfl|rfl|rfl|rfl|rfl|rfl|rfl<;>decide
def A5f (b:D7):Nat:=if b.recs.length<=13 then b.recs.length else 13
def A2s (b:D7):Bool:=decide (b.op.length<=20)&&decide (b.recs.length<=12)&&(decide (fwP b (A5f b)<=64)||decide (fwD b (A5f b)>8))
theorem A4h (b:D7) (ho:b.op.length<2^63) (hr:b.recs.length<2^63):C9 Tryz.prog 46 [.d b.d] (E5 [.b (A2s b)]):=by
 have m1:(b.op.map I).length=b.op.length:=A6 _
 have m2:(b.recs.map Rec.d).length=b.recs.length:=A6 _
 refine pU Tryz.func46 ?_
 repeat' ((conv=>whnf);first|refine sT ?_|refine sP ?_ ?_<;>intro _|fail)
 all_goals(conv=>whnf)
 refine lO (X:=Nat) (λi=>[(5,.d (I i)),(3,.d (I (fwP b i))),(4,.d (I (fwD b i)))]) (λ_=>[]) (λi=>i<=b.recs.length/\i<=13) (λi=>13-i) 0 sam rfl ⟨B9 _,by omega⟩ ?_
 rintro i ⟨hi,hi13⟩
 have bp:=B0l b i
 have bd:=B0m b i
 have bq:=pow17 hi13
 by_cases hlt:i<b.recs.length/\i<13
 ·obtain⟨hlt,h13⟩:=hlt
  obtain⟨r,hx⟩:∃r,b.recs[i]? =some r:=⟨_,A3 hlt⟩
  have hrA:recAt b i=r:=by unfold recAt;rw[A5,hx];rfl
  have gx:=D4 (f:=Rec.d) hx
  have hD:=GZ r
  have nP:fwP b (i+1)=if dbt r then fwP b i*(if r.kind=1/\0<=r.n/\r.n<=8 then 2*r.n+1 else 2) else fwP b i:=by rw[fwP,hrA]
  have nD:fwD b (i+1)=if dbt r then fwD b i+1 else fwD b i:=by rw[fwD,hrA]
  generalize fwP b i=p at bp nP ⊢
  generalize fwD b i=d at bd nD ⊢
  cases hd:dbt r with
  |false=>
   rw[hd] at hD nP nD
   rw[if_neg (λh=>Bool.noConfusion h)] at nP nD
   repeat' ((conv=>whnf);first|refine Nam.mk m2 ?_|refine sT ?_|refine sP ?_ ?_<;>intro _|refine A9 gx ?_|refine cA hD ?_|fail)
   all_goals(conv=>whnf)
   all_goals first|(exfalso;omega)|exact⟨i+1,Wm.end (by repeat(first|exact trivial|refine And.intro rfl ?_|refine And.intro (N8 (λn=>V.d (I n)) (by first|omega|(dsimp only;omega))) ?_)) rfl rfl rfl,⟨hlt,h13⟩,by omega⟩
  |true=>
   rw[hd] at hD nP nD
   rw[if_pos rfl] at nP nD
   by_cases hk:r.kind=1/\0<=r.n/\r.n<=8
   ·rw[if_pos hk] at nP
    obtain⟨k1,k2,k3⟩:=hk
    have a1:=aZ (a:=p) (c:=17^i) (b:=2*r.n+1) (d:=17) bp.2 (by omega) (by omega) (by omega)
    have a2:=PB (a:=p) (b:=2*r.n+1) (by omega) (by omega)
    repeat' ((conv=>whnf);first|refine Nam.mk m2 ?_|refine sT ?_|refine sP ?_ ?_<;>intro _|refine A9 gx ?_|refine cA hD ?_|fail)
    all_goals(conv=>whnf)
    all_goals first|(exfalso;omega)|exact⟨i+1,Wm.end (by repeat(first|exact trivial|refine And.intro rfl ?_|refine And.intro (N8 (λn=>V.d (I n)) (by first|omega|(dsimp only;omega))) ?_)) rfl rfl rfl,⟨hlt,h13⟩,by omega⟩
   ·rw[if_neg hk] at nP
    repeat' ((conv=>whnf);first|refine Nam.mk m2 ?_|refine sT ?_|refine sP ?_ ?_<;>intro _|refine A9 gx ?_|refine cA hD ?_|fail)
    all_goals(conv=>whnf)
    all_goals first|(exfalso;omega)|exact⟨i+1,Wm.end (by repeat(first|exact trivial|refine And.intro rfl ?_|refine And.intro (N8 (λn=>V.d (I n)) (by first|omega|(dsimp only;omega))) ?_)) rfl rfl rfl,⟨hlt,h13⟩,by omega⟩
 ·have e:i=A5f b:=by unfold A5f;split<;>omega
  subst e
  unfold A2s
  by_cases g1:b.op.length<=20<;>by_cases g2:b.recs.length<=12<;>by_cases g3:fwP b (A5f b)<=64<;>by_cases g4:fwD b (A5f b)>8
  all_goals repeat' ((conv=>whnf);first|refine Nam.mk m1 ?_|refine Nam.mk m2 ?_|refine sT ?_|refine sP ?_ ?_<;>intro _|fail)
  all_goals(conv=>whnf)
  all_goals first|(exfalso;omega)|(simp only[g1,g2,g3,g4,decide_true,decide_false,mD,pC,cQ,xM,wI,aQ];exact DLe.refl _)
def JP (b:D7):Bool:=A2s b&&decide (b.op.length<=4)&&(decide (b.per<=3)||decide (b.per>16))&&decide (b.recs.length<=8)
theorem A4g (b:D7) (ho:b.op.length<2^63) (hr:b.recs.length<2^63):C9 Tryz.prog 18 [.d b.d] (E5 [.b (JP b)]):=by
 have m1:(b.op.map I).length=b.op.length:=A6 _
 have m2:(b.recs.map Rec.d).length=b.recs.length:=A6 _
 have h36:=A4h b ho hr
 unfold JP
 generalize A2s b=q at*
 cases q<;>by_cases g1:b.op.length<=4<;>by_cases g2:b.recs.length<=8<;>by_cases g3:b.per<=3<;>by_cases g4:b.per>16
 all_goals refine pU Tryz.func18 ?_
 all_goals repeat' ((conv=>whnf);first|refine Nam.mk m1 ?_|refine Nam.mk m2 ?_|refine sT ?_|refine sP ?_ ?_<;>intro _|refine cA h36 ?_|fail)
 all_goals(conv=>whnf)
 all_goals first|(exfalso;omega)|(simp only[g1,g2,g3,g4,decide_true,decide_false,mD,pC,cQ,xM,wI,aQ];exact DLe.refl _)
theorem A4f (b:D7) (ho:b.op.length<2^63) (hr:b.recs.length<2^63):C9 Tryz.prog 5 [.d b.d,.d (.sl 0 true [])] (E5 [.b (JP b)]):=by
 have h37:=A4g b ho hr
 generalize JP b=q at*
 refine pU Tryz.func5 ?_
 repeat' ((conv=>whnf);first|refine sT ?_|refine sP ?_ ?_<;>intro _|refine cA h37 ?_|fail)
 all_goals(conv=>whnf)
 refine lO (X:=Nat) (λ_=>[(5,.d (I 0))]) (λ_=>[]) (λ_=>True) (λ_=>0) 0 sam rfl trivial ?_
 rintro i -
 cases q
 all_goals repeat' ((conv=>whnf);first|refine Dec.t (G4 (Eq.refl true)) ?_|refine Dec.f (X5 (Eq.refl false)) ?_|refine Nam.mk (y:=0) rfl ?_|refine sT ?_|refine sP ?_ ?_<;>intro _|refine cA h37 ?_|fail)
 all_goals exact fI
theorem vV (b:D7) (s:Int) (sp:S8) (k:Int) (l:List Lf):∃z fl xs,cC b s sp k l=.sl z fl xs:=by
 unfold cC
 cases l.find? λx=>decide (x.kind b s sp=k) with
 |none=>exact⟨_,_,_,rfl⟩
 |some y=>exact⟨_,_,_,rfl⟩
theorem iW {b:D7} (hm:∀x∈G0 b,1<=x/\x<=17):∀(k:Nat) (c:List Int),c.length+k=(G0 b).length->W7 c (G0 b)->∀l∈lfs b k c,W7 l.ch (G0 b)
 |0,c,hl,hc,l,h=>by
  unfold lfs at h
  split at h
  ·rw[H9] at h;subst h;exact hc
  ·unfold EN at h
   split at h<;>(rw[H9] at h;subst h;exact hc)
 |k+1,c,hl,hc,l,h=>by
  unfold lfs at h
  split at h
  ·rw[H9] at h;subst h;exact hc
  ·obtain⟨n,hn,h⟩:=W3.1 h
   obtain⟨y,hy⟩:∃y,(G0 b)[c.length]? =some y:=⟨_,A3 (by omega)⟩
   have hyb:=hm y (A7 hy)
   rw[A5,hy,K2] at hn
   have hn2:n<y.toNat:=hn
   exact iW hm k _ (by rw[B4,F1];omega) (nW hc hy (by omega)) l h
structure XJf where
 i:Nat
 vs:List (Nat×List D)
def A7b (b:D7) (s:Int):List D:=[SL 1 (b.op.map I),I b.per,SL 9 (b.recs.map Rec.d),I s,.b false,HV]
theorem PT {b:D7} (F:fO b) {s:Int} (hs:s∈Z8 b) {sp:S8} (hsp:sp.ok b) (hsome:aS b s sp 2 (L7 b)=true∨aS b s sp 3 (L7 b)=true):
 M4 Tryz.prog 34 [.ptr 0 0 0 0,.d sp.d] [.vard (A7b b s)] λv _=>v=E5 [ED b s sp]:=by
 obtain⟨hb,hM,hml,hd,hm⟩:=bZ F.e
 have ho4:=F.o4
 have hSp:=JF b sp hsp (by omega)
 have hMa:=kE b F.w
 rw[hM,F.e] at hMa
 have hVi:=A6w F hs (G0 b).length [] (by simp) (Y0 _)
 have hLn:(L7 b).length<=4096:=by
  have h1:=pS hm s (G0 b).length [] (by simp)
  rw[iE,A6] at h1
  have h2:=nI F.e
  unfold oG at h1
  rw[V7,O4] at h1
  exact F5 h1 (by omega)
 unfold A7b
 refine RI (E:=(P9 Tryz.prog tt Tryz.f34.ntmps)) (I6 T5 mixed) Tryz.func34 (by rfl) rfl (B5 rfl) ?_
 repeat' ((conv=>whnf);first|refine sT ?_|refine sP ?_ ?_<;>intro _|refine cA hSp ?_|refine cA hMa ?_|refine bO Tryz.func68 ?_|refine bO Tryz.func70 ?_|refine bO Tryz.func71 ?_|refine bO Tryz.func121 ?_|refine rA Tryz.func120 ?_|fail)
 refine E6.pre ((WkH.of λN=>Wk.virtC (n:=0) (i:=5) (a:=0) (sz:=1) false (by decide) rfl rfl).trans (WkH.arNew rfl)) ?_
 refine E6.updA rfl ⟨5,[],rfl⟩ rfl (hVi 0 [] [] (by simp only[V7,O4];have:=nI F.e;unfold oG;omega)) [12,13,14,0,15,16] (by decide) rfl rfl aN ?_
 rintro _ _ ⟨rfl,ver,A,hA,rfl⟩ _
 rw[iE,A6] at hA
 rw[iE]
 have hAl:A.length=(L7 b).length:=hA
 have hV0:=yK.start (b:=b) (s:=s) hAl
 obtain⟨vs0,hvs0⟩:∃vs,vs=A.zip ((L7 b).map (Lf.cells b s false)):=⟨_,rfl⟩
 rw[<-hvs0] at hV0
 unfold LE CS
 rw[show A.zip ((lfs b (G0 b).length []).map (Lf.cells b s false))=vs0 from hvs0.symm]
 repeat' ((conv=>whnf);first|refine sT ?_|refine sP ?_ ?_<;>intro _|fail)
 all_goals(conv=>whnf)
 (conv=>arg 5;simp (config := { maxSteps := 5000000 }) only[aY,J3,E9,H4,P4,bG,ren1,H8,E8,L4,G5,I1,D5,T9,U0])
 (conv=>arg 4;simp (config := { maxSteps := 5000000 }) only[aY,J3,E9,H4,P4,bG,ren1,H8,E8,L4,G5,I1,D5,T9,U0])
 refine lYE 11 Tryz.f70.ntmps (X:=XJf) (λx=>[(14,.d (I x.i))])
  (λx=>[(4,.vard [cC b s sp 2 ((L7 b).take x.i)]),(5,.vard [cC b s sp 3 ((L7 b).take x.i)]),(7,.vard [.b (aS b s sp 2 ((L7 b).take x.i))]),(8,.vard [.b (aS b s sp 3 ((L7 b).take x.i))]),(16,.ar x.vs)])
  (λx=>x.i<=(L7 b).length/\yK b s A (L7 b) (λj=>decide (j<x.i)) x.vs) (λx=>(L7 b).length-x.i) ⟨0,vs0⟩ sam rfl ⟨B9 _,by simpa using hV0⟩ (λy=>⟨rfl,rfl⟩) ?_
 rintro⟨i,vs⟩ ⟨hi,hV⟩
 dsimp only at hi hV
 (conv=>arg 4;simp (config := { maxSteps := 5000000 }) only[aY,J3,E9,H4,P4,bG,ren1,H8,E8,L4,G5,I1,D5,T9,U0])
 (conv=>arg 3;dsimp only)
 by_cases hlt:i<(L7 b).length
 ·obtain⟨l,hl⟩:∃l,(L7 b)[i]? =some l:=⟨_,A3 hlt⟩
  have hgA:(A.map wP)[0+((i:Nat):Int).toNat]? =some (wP (A.getD i 0)):=by
   rw[C1,B0,A8,A5,A3 (by omega)];rfl
  have hgV:=hV.2.2 i l hl
  dsimp only at hgV
  rw[B6 (cO i)] at hgV
  have hst:(L7 b).take (i+1)=(L7 b).take i++[l]:=by rw[D1,hl];rfl
  obtain⟨q2,hq2⟩:∃q,q=aS b s sp 2 ((L7 b).take i):=⟨_,rfl⟩
  obtain⟨q3,hq3⟩:∃q,q=aS b s sp 3 ((L7 b).take i):=⟨_,rfl⟩
  have hF2:=DL b s sp 2 ((L7 b).take i) l
  have hF3:=DL b s sp 3 ((L7 b).take i) l
  have hA2:=OS b s sp 2 ((L7 b).take i) l
  have hA3:=OS b s sp 3 ((L7 b).take i) l
  rw[<-hst,<-hq2] at hF2 hA2
  rw[<-hst,<-hq3] at hF3 hA3
  rw[<-hq2,<-hq3]
  obtain⟨z2,fl2,xs2,hf2⟩:=vV b s sp 2 ((L7 b).take i)
  obtain⟨z3,fl3,xs3,hf3⟩:=vV b s sp 3 ((L7 b).take i)
  rw[hf2] at hF2
  rw[hf3] at hF3
  rw[hf2,hf3]
  cases l with
  |brk c v p=>
   obtain⟨z,fl,hch⟩:=RZ c
   have hV':=hV.keep (vis':=λj=>decide (j<i+1)) hl (λ_=>rfl) (λj hj=>by by_cases h:j<i<;>simp[h]<;>omega)
   unfold Lf.cells EQ at hgV
   dsimp only at hgV
   rw[hch] at hgV
   have hk:Lf.kind b s sp (.brk c v p)=1:=rfl
   rw[hk] at hF2 hF3 hA2 hA3
   rw[if_neg (λh=>absurd h.2 (by decide))] at hF2 hF3
   rw[show decide ((1:Int)=2)=false from rfl,aQ] at hA2
   rw[show decide ((1:Int)=3)=false from rfl,aQ] at hA3
   cases q2<;>cases q3
   all_goals repeat' ((conv=>whnf);first|refine sT ?_|refine sP ?_ ?_<;>intro _|refine A9 hgA ?_|refine AM.wrap ⟨16,i,_,vs,_,rfl,rfl,hgV,?_⟩|refine A9 hgV ?_|fail)
   all_goals((conv=>whnf);try exact xO)
   all_goals(refine⟨⟨i+1,vs⟩,⟨sam,?_⟩,⟨hlt,hV'⟩,by dsimp only;omega⟩;dsimp only;rw[hF2,hF3,hA2,hA3];rfl)
  |con c=>
   have hcs:Y2 b c:=nM b _ _ _ (A7 hl)
   have hbeg:c.length<=8:=by have:=(iW hm _ _ (by simp) (Y0 _) _ (A7 hl)).1;show c.length<=8;have h2:c.length<=(G0 b).length:=this;omega
   obtain⟨z,fl,hch,hCl⟩:=kX c (by omega)
   have hclE:D.sl z fl (c.map I)=chD c:=hch.symm
   have hCl':=bQ rfl hCl
   have hHas:=zR F hs hsp hcs false
   unfold rU at hHas
   rw[hch] at hHas
   have hV':=hV.set (vis':=λj=>decide (j<i+1)) hl (by simp) (λj hj=>by by_cases h:j<i<;>simp[h]<;>omega)
   have hcc:Lf.cells b s true (.con c)=rU b s c (decide (0<=Q8 b s c)):=by unfold Lf.cells;dsimp only;rw[cQ]
   rw[hcc] at hV'
   unfold rU at hV'
   rw[hch] at hV'
   unfold Lf.cells rU at hgV
   dsimp only at hgV
   rw[hch] at hgV
   dsimp only[Lf.ch] at hF2 hF3
   cases hh:nR b s sp c with
   |true=>
    have hk:Lf.kind b s sp (.con c)=2:=by unfold Lf.kind;dsimp only;rw[hh];rfl
    rw[hk] at hF2 hF3 hA2 hA3
    rw[hh] at hHas
    rw[if_neg (λh=>absurd h.2 (by decide))] at hF3
    rw[show decide ((2:Int)=2)=true from rfl,wI] at hA2
    rw[show decide ((2:Int)=3)=false from rfl,aQ] at hA3
    cases q2<;>cases q3
    all_goals first|rw[if_pos ⟨rfl,rfl⟩] at hF2|rw[if_neg (λh=>Bool.noConfusion h.1)] at hF2
    all_goals repeat' ((conv=>whnf);first|refine sT ?_|refine sP ?_ ?_<;>intro _|refine A9 hgA ?_|refine AM.wrap ⟨16,i,_,vs,_,rfl,rfl,hgV,?_⟩|refine A9 hgV ?_|refine E6.lend hHas (n:=16) (i:=i) (a:=A.getD i 0) rfl hgV rfl ?_|refine cA hCl' ?_|fail)
    all_goals((conv=>whnf);try exact xO)
    all_goals(refine⟨⟨i+1,_⟩,⟨sam,?_⟩,⟨hlt,hV'⟩,by dsimp only;omega⟩;dsimp only;rw[hF2,hF3,hA2,hA3];rfl)
   |false=>
    have hk:Lf.kind b s sp (.con c)=3:=by unfold Lf.kind;dsimp only;rw[hh];rfl
    rw[hk] at hF2 hF3 hA2 hA3
    rw[hh] at hHas
    rw[if_neg (λh=>absurd h.2 (by decide))] at hF2
    rw[show decide ((3:Int)=2)=false from rfl,aQ] at hA2
    rw[show decide ((3:Int)=3)=true from rfl,wI] at hA3
    cases q2<;>cases q3
    all_goals first|rw[if_pos ⟨rfl,rfl⟩] at hF3|rw[if_neg (λh=>Bool.noConfusion h.1)] at hF3
    all_goals repeat' ((conv=>whnf);first|refine sT ?_|refine sP ?_ ?_<;>intro _|refine A9 hgA ?_|refine AM.wrap ⟨16,i,_,vs,_,rfl,rfl,hgV,?_⟩|refine A9 hgV ?_|refine E6.lend hHas (n:=16) (i:=i) (a:=A.getD i 0) rfl hgV rfl ?_|refine cA hCl' ?_|fail)
    all_goals((conv=>whnf);try exact xO)
    all_goals(refine⟨⟨i+1,_⟩,⟨sam,?_⟩,⟨hlt,hV'⟩,by dsimp only;omega⟩;dsimp only;rw[hF2,hF3,hA2,hA3];rfl)
 ·obtain rfl:i=(L7 b).length:=by omega
  rw[C7 (B1 _)]
  obtain⟨z2,fl2,xs2,hf2⟩:=vV b s sp 2 (L7 b)
  obtain⟨z3,fl3,xs3,hf3⟩:=vV b s sp 3 (L7 b)
  have hV1:yK b s A (L7 b) (λ_=>true) vs:=⟨hV.1,hV.2.1,λj l hj=>by
   have h1:=hV.2.2 j l hj
   have h2:=(A4.1 hj).1
   dsimp only at h1
   rw[C2 h2] at h1;exact h1⟩
  unfold ED iM
  obtain⟨q2,hq2⟩:∃q,q=aS b s sp 2 (L7 b):=⟨_,rfl⟩
  obtain⟨q3,hq3⟩:∃q,q=aS b s sp 3 (L7 b):=⟨_,rfl⟩
  rw[<-hq2,<-hq3] at hsome ⊢
  rw[hf2,hf3]
  obtain⟨K,hK⟩:∃K:Int,K=if(q2&&q3)=true then 2 else if q2=true then 1 else 3:=⟨_,rfl⟩
  rw[<-hK]
  cases q2<;>cases q3
  ·exact absurd hsome (by decide)
  all_goals
   repeat' ((conv=>whnf);first|refine sT ?_|refine sP ?_ ?_<;>intro _|refine bO Tryz.func71 ?_|refine bO Tryz.func121 ?_|refine rA Tryz.func120 ?_|fail)
  all_goals((conv=>whnf);try exact xO)
  all_goals(conv=>arg 5;simp (config := { maxSteps := 5000000 }) only[aY,J3,E9,H4,P4,bG,ren1,H8,E8,L4,G5,I1,D5,T9,U0])
  all_goals(conv=>arg 4;simp (config := { maxSteps := 5000000 }) only[aY,J3,E9,H4,P4,bG,ren1,H8,E8,L4,G5,I1,D5,T9,U0])
  all_goals refine L3.virtC 2 3 0 4 false (by decide) rfl rfl ?_
  all_goals(conv=>whnf)
  all_goals(conv=>arg 5;simp (config := { maxSteps := 5000000 }) only[aY,J3,E9,H4,P4,bG,ren1,H8,E8,L4,G5,I1,D5,T9,U0])
  all_goals first|(obtain rfl:K=3:=hK)|(obtain rfl:K=2:=hK)|(obtain rfl:K=1:=hK)
  all_goals first|refine lYE 19 Tryz.f34.ntmps (X:=XJf) (λx=>[(14,.d (I x.i))]) (λx=>[(2,.var [.d (I 3),.d (.sl z2 fl2 xs2),.d (.sl z3 fl3 xs3),.sref 21 x.i 0 x.i false]),(16,.ar x.vs),(21,.row x.i 4 false (((L7 b).take x.i).map (Lf.br b s sp)))]) (λx=>x.i<=(L7 b).length/\yK b s A (L7 b) (λ_=>true) x.vs) (λx=>(L7 b).length-x.i) ⟨0,vs⟩ sam rfl ⟨B9 _,hV1⟩ (λy=>⟨rfl,rfl⟩) ?_|refine lYE 19 Tryz.f34.ntmps (X:=XJf) (λx=>[(14,.d (I x.i))]) (λx=>[(2,.var [.d (I 2),.d (.sl z2 fl2 xs2),.d (.sl z3 fl3 xs3),.sref 21 x.i 0 x.i false]),(16,.ar x.vs),(21,.row x.i 4 false (((L7 b).take x.i).map (Lf.br b s sp)))]) (λx=>x.i<=(L7 b).length/\yK b s A (L7 b) (λ_=>true) x.vs) (λx=>(L7 b).length-x.i) ⟨0,vs⟩ sam rfl ⟨B9 _,hV1⟩ (λy=>⟨rfl,rfl⟩) ?_|refine lYE 19 Tryz.f34.ntmps (X:=XJf) (λx=>[(14,.d (I x.i))]) (λx=>[(2,.var [.d (I 1),.d (.sl z2 fl2 xs2),.d (.sl z3 fl3 xs3),.sref 21 x.i 0 x.i false]),(16,.ar x.vs),(21,.row x.i 4 false (((L7 b).take x.i).map (Lf.br b s sp)))]) (λx=>x.i<=(L7 b).length/\yK b s A (L7 b) (λ_=>true) x.vs) (λx=>(L7 b).length-x.i) ⟨0,vs⟩ sam rfl ⟨B9 _,hV1⟩ (λy=>⟨rfl,rfl⟩) ?_
  all_goals rintro⟨i,vs2⟩ ⟨hi,hV2⟩
  all_goals dsimp only at hi hV2
  all_goals(conv=>arg 4;simp (config := { maxSteps := 5000000 }) only[aY,J3,E9,H4,P4,bG,ren1,H8,E8,L4,G5,I1,D5,T9,U0])
  all_goals(conv=>arg 3;dsimp only)
  all_goals by_cases hlt:i<(L7 b).length
  ·obtain⟨l,hl⟩:∃l,(L7 b)[i]? =some l:=⟨_,A3 hlt⟩
   have hgA:(A.map wP)[0+((i:Nat):Int).toNat]? =some (wP (A.getD i 0)):=by
    rw[C1,B0,A8,A5,A3 (by omega)];rfl
   have hgV:=hV2.2.2 i l hl
   dsimp only at hgV
   have hst:((L7 b).take (i+1)).map (Lf.br b s sp)=((L7 b).take i).map (Lf.br b s sp)++[l.br b s sp]:=by rw[D1,hl,D2];rfl
   have ck2:0+i=(((L7 b).take i).map (Lf.br b s sp)).length:=by rw[A6,D0];omega
   have ck3:i+1<=room:=by simp[room];omega
   cases l with
   |brk c v p=>
    have hbeg:c.length<=8:=by have:=(iW hm _ _ (by simp) (Y0 _) _ (A7 hl)).1;show c.length<=8;have h2:c.length<=(G0 b).length:=this;omega
    obtain⟨z,fl,hch,hCl⟩:=kX c (by omega)
    have hCl':=bQ rfl hCl
    unfold Lf.cells EQ at hgV
    dsimp only at hgV
    rw[hch] at hgV
    repeat' ((conv=>whnf);first|refine sT ?_|refine sP ?_ ?_<;>intro _|refine A9 hgA ?_|refine AM.wrap ⟨16,i,_,vs2,_,rfl,rfl,hgV,?_⟩|refine A9 hgV ?_|refine cA hCl' ?_|refine Chk.mk ⟨rfl,ck2,ck3⟩ ?_|fail)
    all_goals((conv=>whnf);try exact xO)
    refine⟨⟨i+1,vs2⟩,⟨sam,?_⟩,⟨hlt,hV2⟩,by dsimp only;omega⟩
    dsimp only
    rw[hst]
    rfl
   |con c=>
    have hcs:Y2 b c:=nM b _ _ _ (A7 hl)
    have hbeg:c.length<=8:=by have:=(iW hm _ _ (by simp) (Y0 _) _ (A7 hl)).1;show c.length<=8;have h2:c.length<=(G0 b).length:=this;omega
    obtain⟨z,fl,hch,hCl⟩:=kX c (by omega)
    have hCl':=bQ rfl hCl
    have hHas:=zR F hs hsp hcs (decide (0<=Q8 b s c))
    rw[Bool.or_self] at hHas
    unfold rU at hHas
    rw[hch] at hHas
    have hV':=hV2.set (vis':=λ_=>true) hl rfl (λj hj=>rfl)
    have hcc:Lf.cells b s true (.con c)=rU b s c (decide (0<=Q8 b s c)):=by unfold Lf.cells;dsimp only;rw[cQ]
    rw[hcc] at hV' hgV
    unfold rU at hV' hgV
    rw[hch] at hV' hgV
    dsimp only[Lf.br,Lf.ch,Lf.vp] at hst
    cases hh:nR b s sp c with
    |true=>
     have hk:Lf.kind b s sp (.con c)=2:=by unfold Lf.kind;dsimp only;rw[hh];rfl
     rw[hk] at hst
     rw[hh] at hHas
     repeat' ((conv=>whnf);first|refine sT ?_|refine sP ?_ ?_<;>intro _|refine A9 hgA ?_|refine AM.wrap ⟨16,i,_,vs2,_,rfl,rfl,hgV,?_⟩|refine A9 hgV ?_|refine E6.lend hHas (n:=16) (i:=i) (a:=A.getD i 0) rfl hgV rfl ?_|refine cA hCl' ?_|refine Chk.mk ⟨rfl,ck2,ck3⟩ ?_|fail)
     all_goals((conv=>whnf);try exact xO)
     refine⟨⟨i+1,_⟩,⟨sam,?_⟩,⟨hlt,hV'⟩,by dsimp only;omega⟩
     dsimp only
     rw[hst]
     rfl
    |false=>
     have hk:Lf.kind b s sp (.con c)=3:=by unfold Lf.kind;dsimp only;rw[hh];rfl
     rw[hk] at hst
     rw[hh] at hHas
     repeat' ((conv=>whnf);first|refine sT ?_|refine sP ?_ ?_<;>intro _|refine A9 hgA ?_|refine AM.wrap ⟨16,i,_,vs2,_,rfl,rfl,hgV,?_⟩|refine A9 hgV ?_|refine E6.lend hHas (n:=16) (i:=i) (a:=A.getD i 0) rfl hgV rfl ?_|refine cA hCl' ?_|refine Chk.mk ⟨rfl,ck2,ck3⟩ ?_|fail)
     all_goals((conv=>whnf);try exact xO)
     refine⟨⟨i+1,_⟩,⟨sam,?_⟩,⟨hlt,hV'⟩,by dsimp only;omega⟩
     dsimp only
     rw[hst]
     rfl
  ·obtain rfl:i=(L7 b).length:=by omega
   rw[C7 (B1 _)]
   repeat' ((conv=>whnf);first|refine sT ?_|refine sP ?_ ?_<;>intro _|fail)
   all_goals((conv=>whnf);try exact xO)
   refine⟨_,WkH.of λN=>Wk.refl,?_⟩
   conv=>whnf
   refine Chk.mk ⟨rfl,by rw[A6];omega⟩ ?_
   conv=>whnf
   refine Nam.mk (y:=(L7 b).map (Lf.br b s sp)) (whole (by rw[A6])) ?_
   conv=>whnf
   exact DLe.refl _
  ·obtain⟨l,hl⟩:∃l,(L7 b)[i]? =some l:=⟨_,A3 hlt⟩
   have hgA:(A.map wP)[0+((i:Nat):Int).toNat]? =some (wP (A.getD i 0)):=by
    rw[C1,B0,A8,A5,A3 (by omega)];rfl
   have hgV:=hV2.2.2 i l hl
   dsimp only at hgV
   have hst:((L7 b).take (i+1)).map (Lf.br b s sp)=((L7 b).take i).map (Lf.br b s sp)++[l.br b s sp]:=by rw[D1,hl,D2];rfl
   have ck2:0+i=(((L7 b).take i).map (Lf.br b s sp)).length:=by rw[A6,D0];omega
   have ck3:i+1<=room:=by simp[room];omega
   cases l with
   |brk c v p=>
    have hbeg:c.length<=8:=by have:=(iW hm _ _ (by simp) (Y0 _) _ (A7 hl)).1;show c.length<=8;have h2:c.length<=(G0 b).length:=this;omega
    obtain⟨z,fl,hch,hCl⟩:=kX c (by omega)
    have hCl':=bQ rfl hCl
    unfold Lf.cells EQ at hgV
    dsimp only at hgV
    rw[hch] at hgV
    repeat' ((conv=>whnf);first|refine sT ?_|refine sP ?_ ?_<;>intro _|refine A9 hgA ?_|refine AM.wrap ⟨16,i,_,vs2,_,rfl,rfl,hgV,?_⟩|refine A9 hgV ?_|refine cA hCl' ?_|refine Chk.mk ⟨rfl,ck2,ck3⟩ ?_|fail)
    all_goals((conv=>whnf);try exact xO)
    refine⟨⟨i+1,vs2⟩,⟨sam,?_⟩,⟨hlt,hV2⟩,by dsimp only;omega⟩
    dsimp only
    rw[hst]
    rfl
   |con c=>
    have hcs:Y2 b c:=nM b _ _ _ (A7 hl)
    have hbeg:c.length<=8:=by have:=(iW hm _ _ (by simp) (Y0 _) _ (A7 hl)).1;show c.length<=8;have h2:c.length<=(G0 b).length:=this;omega
    obtain⟨z,fl,hch,hCl⟩:=kX c (by omega)
    have hCl':=bQ rfl hCl
    have hHas:=zR F hs hsp hcs (decide (0<=Q8 b s c))
    rw[Bool.or_self] at hHas
    unfold rU at hHas
    rw[hch] at hHas
    have hV':=hV2.set (vis':=λ_=>true) hl rfl (λj hj=>rfl)
    have hcc:Lf.cells b s true (.con c)=rU b s c (decide (0<=Q8 b s c)):=by unfold Lf.cells;dsimp only;rw[cQ]
    rw[hcc] at hV' hgV
    unfold rU at hV' hgV
    rw[hch] at hV' hgV
    dsimp only[Lf.br,Lf.ch,Lf.vp] at hst
    cases hh:nR b s sp c with
    |true=>
     have hk:Lf.kind b s sp (.con c)=2:=by unfold Lf.kind;dsimp only;rw[hh];rfl
     rw[hk] at hst
     rw[hh] at hHas
     repeat' ((conv=>whnf);first|refine sT ?_|refine sP ?_ ?_<;>intro _|refine A9 hgA ?_|refine AM.wrap ⟨16,i,_,vs2,_,rfl,rfl,hgV,?_⟩|refine A9 hgV ?_|refine E6.lend hHas (n:=16) (i:=i) (a:=A.getD i 0) rfl hgV rfl ?_|refine cA hCl' ?_|refine Chk.mk ⟨rfl,ck2,ck3⟩ ?_|fail)
     all_goals((conv=>whnf);try exact xO)
     refine⟨⟨i+1,_⟩,⟨sam,?_⟩,⟨hlt,hV'⟩,by dsimp only;omega⟩
     dsimp only
     rw[hst]
     rfl
    |false=>
     have hk:Lf.kind b s sp (.con c)=3:=by unfold Lf.kind;dsimp only;rw[hh];rfl
     rw[hk] at hst
     rw[hh] at hHas
     repeat' ((conv=>whnf);first|refine sT ?_|refine sP ?_ ?_<;>intro _|refine A9 hgA ?_|refine AM.wrap ⟨16,i,_,vs2,_,rfl,rfl,hgV,?_⟩|refine A9 hgV ?_|refine E6.lend hHas (n:=16) (i:=i) (a:=A.getD i 0) rfl hgV rfl ?_|refine cA hCl' ?_|refine Chk.mk ⟨rfl,ck2,ck3⟩ ?_|fail)
     all_goals((conv=>whnf);try exact xO)
     refine⟨⟨i+1,_⟩,⟨sam,?_⟩,⟨hlt,hV'⟩,by dsimp only;omega⟩
     dsimp only
     rw[hst]
     rfl
  ·obtain rfl:i=(L7 b).length:=by omega
   rw[C7 (B1 _)]
   repeat' ((conv=>whnf);first|refine sT ?_|refine sP ?_ ?_<;>intro _|fail)
   all_goals((conv=>whnf);try exact xO)
   refine⟨_,WkH.of λN=>Wk.refl,?_⟩
   conv=>whnf
   refine Chk.mk ⟨rfl,by rw[A6];omega⟩ ?_
   conv=>whnf
   refine Nam.mk (y:=(L7 b).map (Lf.br b s sp)) (whole (by rw[A6])) ?_
   conv=>whnf
   exact DLe.refl _
  ·obtain⟨l,hl⟩:∃l,(L7 b)[i]? =some l:=⟨_,A3 hlt⟩
   have hgA:(A.map wP)[0+((i:Nat):Int).toNat]? =some (wP (A.getD i 0)):=by
    rw[C1,B0,A8,A5,A3 (by omega)];rfl
   have hgV:=hV2.2.2 i l hl
   dsimp only at hgV
   have hst:((L7 b).take (i+1)).map (Lf.br b s sp)=((L7 b).take i).map (Lf.br b s sp)++[l.br b s sp]:=by rw[D1,hl,D2];rfl
   have ck2:0+i=(((L7 b).take i).map (Lf.br b s sp)).length:=by rw[A6,D0];omega
   have ck3:i+1<=room:=by simp[room];omega
   cases l with
   |brk c v p=>
    have hbeg:c.length<=8:=by have:=(iW hm _ _ (by simp) (Y0 _) _ (A7 hl)).1;show c.length<=8;have h2:c.length<=(G0 b).length:=this;omega
    obtain⟨z,fl,hch,hCl⟩:=kX c (by omega)
    have hCl':=bQ rfl hCl
    unfold Lf.cells EQ at hgV
    dsimp only at hgV
    rw[hch] at hgV
    repeat' ((conv=>whnf);first|refine sT ?_|refine sP ?_ ?_<;>intro _|refine A9 hgA ?_|refine AM.wrap ⟨16,i,_,vs2,_,rfl,rfl,hgV,?_⟩|refine A9 hgV ?_|refine cA hCl' ?_|refine Chk.mk ⟨rfl,ck2,ck3⟩ ?_|fail)
    all_goals((conv=>whnf);try exact xO)
    refine⟨⟨i+1,vs2⟩,⟨sam,?_⟩,⟨hlt,hV2⟩,by dsimp only;omega⟩
    dsimp only
    rw[hst]
    rfl
   |con c=>
    have hcs:Y2 b c:=nM b _ _ _ (A7 hl)
    have hbeg:c.length<=8:=by have:=(iW hm _ _ (by simp) (Y0 _) _ (A7 hl)).1;show c.length<=8;have h2:c.length<=(G0 b).length:=this;omega
    obtain⟨z,fl,hch,hCl⟩:=kX c (by omega)
    have hCl':=bQ rfl hCl
    have hHas:=zR F hs hsp hcs (decide (0<=Q8 b s c))
    rw[Bool.or_self] at hHas
    unfold rU at hHas
    rw[hch] at hHas
    have hV':=hV2.set (vis':=λ_=>true) hl rfl (λj hj=>rfl)
    have hcc:Lf.cells b s true (.con c)=rU b s c (decide (0<=Q8 b s c)):=by unfold Lf.cells;dsimp only;rw[cQ]
    rw[hcc] at hV' hgV
    unfold rU at hV' hgV
    rw[hch] at hV' hgV
    dsimp only[Lf.br,Lf.ch,Lf.vp] at hst
    cases hh:nR b s sp c with
    |true=>
     have hk:Lf.kind b s sp (.con c)=2:=by unfold Lf.kind;dsimp only;rw[hh];rfl
     rw[hk] at hst
     rw[hh] at hHas
     repeat' ((conv=>whnf);first|refine sT ?_|refine sP ?_ ?_<;>intro _|refine A9 hgA ?_|refine AM.wrap ⟨16,i,_,vs2,_,rfl,rfl,hgV,?_⟩|refine A9 hgV ?_|refine E6.lend hHas (n:=16) (i:=i) (a:=A.getD i 0) rfl hgV rfl ?_|refine cA hCl' ?_|refine Chk.mk ⟨rfl,ck2,ck3⟩ ?_|fail)
     all_goals((conv=>whnf);try exact xO)
     refine⟨⟨i+1,_⟩,⟨sam,?_⟩,⟨hlt,hV'⟩,by dsimp only;omega⟩
     dsimp only
     rw[hst]
     rfl
    |false=>
     have hk:Lf.kind b s sp (.con c)=3:=by unfold Lf.kind;dsimp only;rw[hh];rfl
     rw[hk] at hst
     rw[hh] at hHas
     repeat' ((conv=>whnf);first|refine sT ?_|refine sP ?_ ?_<;>intro _|refine A9 hgA ?_|refine AM.wrap ⟨16,i,_,vs2,_,rfl,rfl,hgV,?_⟩|refine A9 hgV ?_|refine E6.lend hHas (n:=16) (i:=i) (a:=A.getD i 0) rfl hgV rfl ?_|refine cA hCl' ?_|refine Chk.mk ⟨rfl,ck2,ck3⟩ ?_|fail)
     all_goals((conv=>whnf);try exact xO)
     refine⟨⟨i+1,_⟩,⟨sam,?_⟩,⟨hlt,hV'⟩,by dsimp only;omega⟩
     dsimp only
     rw[hst]
     rfl
  ·obtain rfl:i=(L7 b).length:=by omega
   rw[C7 (B1 _)]
   repeat' ((conv=>whnf);first|refine sT ?_|refine sP ?_ ?_<;>intro _|fail)
   all_goals((conv=>whnf);try exact xO)
   refine⟨_,WkH.of λN=>Wk.refl,?_⟩
   conv=>whnf
   refine Chk.mk ⟨rfl,by rw[A6];omega⟩ ?_
   conv=>whnf
   refine Nam.mk (y:=(L7 b).map (Lf.br b s sp)) (whole (by rw[A6])) ?_
   conv=>whnf
   exact DLe.refl _
def qC (b:D7) (s:Int) (sp:S8):List D:=b.d.cells++[SL 1 ((G0 b).map I),I s]++sp.d.cells
def qD (b:D7) (s:Int) (sp:S8):D:=.agg (qC b s sp)
theorem B2p {b:D7} (F:fO b) {s:Int} (hs:s∈Z8 b) {sp:S8} (hsp:sp.ok b):C9 Tryz.prog 35 [.d b.d,.d (I s),.d sp.d] (E5 [qD b s sp,I 0]):=by
 have hMa:=kE b F.w
 obtain⟨hb,hM,hml,hd,hm⟩:=bZ F.e
 have ho4:=F.o4
 have hr8:=F.r8
 rw[hM,F.e] at hMa
 have hSo:=PP b s hs (by omega) (by omega)
 have hSp:=YF b sp hsp (by omega)
 refine pU Tryz.func35 ?_
 repeat' ((conv=>whnf);first|refine sT ?_|refine sP ?_ ?_<;>intro _|refine cA hMa ?_|refine cA hSo ?_|refine cA hSp ?_|fail)
 all_goals exact fJ
structure Br where
 c:List Int
 k:Int
 v:Int
 p:Int
def Br.d (x:Br):D:=.agg [SL 1 (x.c.map I),I x.k,I x.v,I x.p]
def Lf.b (b:D7) (s:Int) (sp:S8) (l:Lf):Br:=⟨l.ch,l.kind b s sp,l.vp.1,l.vp.2⟩
theorem EC (c m:List Int) (hc:W7 c m) (hm:m.length<=8) (hmx:∀x∈m,0<=x/\x<=100):C9 Tryz.prog 76 [.d (SL 1 (c.map I)),.d (SL 1 (m.map I))] (E5 [.b true]):=by
 have m1:(c.map I).length=c.length:=A6 _
 have m2:(m.map I).length=m.length:=A6 _
 have hcl:=hc.1
 refine pU Tryz.func76 ?_
 repeat' ((conv=>whnf);first|refine Nam.mk m1 ?_|refine Nam.mk m2 ?_|refine sT ?_|refine sP ?_ ?_<;>intro _|fail)
 all_goals((conv=>whnf);try exact xO)
 refine lO (X:=Nat) (λi=>[(14,.d (I i))]) (λ_=>[]) (λi=>i<=c.length) (λi=>c.length-i) 0 sam rfl (B9 _) ?_
 intro i hi
 by_cases hlt:i<c.length
 ·obtain⟨x,hx⟩:∃x,c[i]? =some x:=⟨_,A3 hlt⟩
  obtain⟨y,hy⟩:∃y,m[i]? =some y:=⟨_,A3 (by omega)⟩
  have h1:=hc.2 i x y hx hy
  have h2:=hmx y (A7 hy)
  repeat' ((conv=>whnf);first|refine Nam.mk m1 ?_|refine Nam.mk m2 ?_|refine sT ?_|refine sP ?_ ?_<;>intro _|refine A9 (D4 hx) ?_|refine A9 (D4 hy) ?_|fail)
  all_goals(conv=>whnf)
  all_goals first|(exfalso;omega)|exact⟨i+1,wE,hlt,by omega⟩
 ·repeat' ((conv=>whnf);first|refine Nam.mk m1 ?_|refine Nam.mk m2 ?_|refine sT ?_|refine sP ?_ ?_<;>intro _|fail)
  all_goals exact fI
theorem yP (l:List Br) (m:List Int) (hl:l.length<=4096) (hc:∀x∈l,W7 x.c m) (hm:m.length<=8) (hmx:∀x∈m,0<=x/\x<=100):C9 Tryz.prog 37 [.d (SL 4 (l.map Br.d)),.d (SL 1 (m.map I))] (E5 [.b true]):=by
 have m1:(l.map Br.d).length=l.length:=A6 _
 refine pU Tryz.func37 ?_
 repeat' ((conv=>whnf);first|refine sT ?_|refine sP ?_ ?_<;>intro _|refine bO Tryz.func74 ?_|refine bO Tryz.func123 ?_|fail)
 all_goals(conv=>whnf)
 refine lO (X:=Nat) (λi=>[(8,.d (I i))]) (λ_=>[]) (λi=>i<=l.length) (λi=>l.length-i) 0 sam rfl (B9 _) ?_
 intro i hi
 by_cases hlt:i<l.length
 ·obtain⟨x,hx⟩:∃x,l[i]? =some x:=⟨_,A3 hlt⟩
  have hB:=EC x.c m (hc x (A7 hx)) hm hmx
  repeat' ((conv=>whnf);first|refine Nam.mk m1 ?_|refine sT ?_|refine sP ?_ ?_<;>intro _|refine A9 (D4 hx) ?_|refine bO Tryz.func75 ?_|refine cA hB ?_|fail)
  all_goals(conv=>whnf)
  all_goals first|(exfalso;omega)|exact⟨i+1,wE,hlt,by omega⟩
 ·repeat' ((conv=>whnf);first|refine Nam.mk m1 ?_|refine sT ?_|refine sP ?_ ?_<;>intro _|fail)
  all_goals exact fI
end Go.PM
namespace Go.PM
variable [CN]
variable {P:Program} {T:TT}
def B1j:List V->Hp->List (List D)->Prop
 |[],_,[]=>True
 |v::vs,h,cs::r=>(∃n,v=.ptr n 0 0 0/\h[n]? =some (.vard cs))/\B1j vs h r
 |_,_,_=>False
def RY (g:FuncId) (caps:List (List D)) (v:V) (h:Hp):Prop:=match v with
 | .fn g' vs=>g'=g/\B1j vs h caps
 |_=>False
theorem WV:∀{vs:List V} {h:Hp} {caps:List (List D)},B1j vs h caps->vs.length=caps.length/\∀(j:Nat) (v:V) (cs:List D),vs[j]? =some v->caps[j]? =some cs->∃n,v=.ptr n 0 0 0/\h[n]? =some (.vard cs)
 |[],h,[],_=>⟨rfl,λj v cs hv=>by simp at hv⟩
 |[],h,_::_,hk=>by simp[B1j] at hk
 |v::vs,h,[],hk=>by simp[B1j] at hk
 |v::vs,h,cs::r,hk=>by
  obtain⟨⟨n,e,h1⟩,h2⟩:=hk
  obtain⟨i1,i2⟩:=WV h2
  refine⟨by simp[i1],λj v cs' hv hc=> ?_⟩
  cases j with
  |zero=>simp at hv hc;subst hv hc;exact⟨n,e,h1⟩
  |succ j=>exact i2 j v cs' (by simpa using hv) (by simpa using hc)
theorem WI {E:Env} (hE:E.Ok P) {f:FuncId} {fn:Func} (hf:P.funcs[f]? =some fn) (hname:(fn.name== "runtime.NumGoroutine")=false) (hN:E.N=fn.ntmps) {args:List V} (hargs:args.all (nmV 0)=true)
 (hsz:args.length<=fn.ntmps) {g:FuncId} {caps:List (List D)} (hx:mK E fn args [] λv h=>RY g caps v h):C9 P f args (.fn g (caps.map λcs=>.rp cs 0)):=by
 intro w S h β argv hr hv
 have hc:=X9 hE hf hname hN hsz hx w S [] argv (rQ hr.old hr.glob) ⟨hv.1,λj c u hj hu=>by
  exact(hv.2 j c u hj hu).nil (C5.1 hargs _ (A7 hj))⟩
 have key:∀(cv:Value) (w':World),(∃v h' S' β',RY g caps v h'/\HR w' S' h' β'/\VR w' S' h' β' v cv/\F7 w S [] [] w' S' h' β')->
  ∃S' β',HR w' S' h β'/\VR w' S' h β' (.fn g (caps.map λcs=>.rp cs 0)) cv/\F7 w S h β w' S' h β':=λcv w' ⟨v,h',S',β',hk,hr',hv',hE'⟩=>by
  obtain⟨S2,hS2⟩:∃S2:Stb,∀b o,S2 b o↔(S' b o∨∃(n:Nat) (cs:List D),h'[n]? =some (Blk.vard cs)/\β'[n]? =some (some (b,0))):=⟨λb o=>S' b o∨∃(n:Nat) (cs:List D),h'[n]? =some (Blk.vard cs)/\β'[n]? =some (some (b,0)),λ_ _=>by rfl⟩
  have hsub:∀b o,S' b o->S2 b o:=λb o hs=>(hS2 b o).2 (.inl hs)
  have hbig:∀(n b p:Nat),β'[n]? =some (some (b,p))->w.heap.size<=b:=λn b p hn=>by
   rcases hE'.imgs b ⟨n,p,hn⟩ with⟨m,q,hm⟩|h
   ·simp at hm
   ·exact h
  refine⟨S2,β,?_⟩
  have hnew:∀b o,S2 b o->S b o∨w.heap.size<=b:=λb o hs=>by
   rcases(hS2 b o).1 hs with hs|⟨n,cs,_,hn⟩
   ·rcases hE'.new b o hs with h|h|⟨m,p,hm⟩
    ·exact .inl h
    ·exact .inr h
    ·simp at hm
   ·exact .inr (hbig n b 0 hn)
  have E2:F7 w S h β w' S2 h β:=by
   refine⟨hE'.outer,hE'.size,λi hi _=>hE'.frame i hi ?_,hE'.shape,hE'.loops,hE'.froz,λb o hs=>hsub b o (hE'.sub b o hs),λb o hs=> ?_,hE'.cell,λb hb=>.inl hb,B1 _,λm b hm=>⟨b,hm,BEv.refl _ _⟩⟩
   ·rintro⟨m,p,hm⟩;simp at hm
   ·rcases hnew b o hs with h|h
    ·exact .inl h
    ·exact .inr (.inl h)
  have stays:∀b',b'<w.heap.size->w'.heap[b']? =w.heap[b']? /\∀o,S2 b' o->S b' o:=λb' hlt=>by
   refine⟨hE'.frame b' hlt (by rintro⟨m,p,hm⟩;simp at hm),λo ho=> ?_⟩
   rcases hnew b' o ho with h|h
   ·exact h
   ·omega
  have hold:∀b o,S2 b o->b<w'.heap.size:=λb o hs=>by
   rcases(hS2 b o).1 hs with hs|⟨n,cs,hn,hb⟩
   ·exact hr'.old b o hs
   ·exact hr'.lt hb
  have hglob:jY w' S2:=⟨λp hp j c hj=>by
   obtain⟨a1,u,a2,a3,a4⟩:=hr'.glob.cells p hp j c hj
   exact⟨a1,u,a2,a3.evol hsub (λ_ _ _=>rfl),hsub _ _ a4⟩,hr'.glob.size⟩
  refine⟨⟨hr.len,λm b hm=>BR.keep E2 rfl (λ_ r b p ht=>⟨ht,stays b (hr.tlt r b p ht)⟩) (λb' p hb'=>stays b' (hr.lt hb')) (hr.blk m b hm),hr.inj,hold,hglob,λr b p ht=>D3 (hr.tlt r b p ht) hE'.size,hr.one⟩,?_,E2⟩
  unfold RY at hk
  split at hk
  ·rename_i g' vs
   obtain⟨rfl,hk⟩:=hk
   obtain⟨k1,k2⟩:=WV hk
   cases hv' with
   |fn _ _ arr a1 a2=>
    refine .fn _ _ arr (by rw[a1,A6,k1]) λj c u hj hu=> ?_
    rw[A8] at hj
    cases hcs:caps[j]? with
    |none=>rw[hcs] at hj;cases hj
    |some cs=>
     rw[hcs] at hj
     cases hj
     have hjl:j<vs.length:=by rw[k1];exact(A4.1 hcs).1
     have hvj:=A3 hjl
     obtain⟨n,e,hn⟩:=k2 j _ cs hvj hcs
     have hu':=a2 j _ u hvj hu
     rw[e] at hu'
     cases hu' with
     |ptr h1 h2=>
      simp only[PR,hn] at h2
      obtain⟨b,hb,_,_,rfl⟩:=h2
      obtain⟨b',cells,elem,g1,g2,g3,g4,g5⟩:=hr'.blk n _ hn
      rw[hb] at g1
      simp at g1
      subst g1
      have:=VR.rp (w:=w') (S:=S2) (h:=h) (β:=β) cs 0 b 0 (λj=>cells.getD j undef) (λj c hj=> ?_) (λj c hj=> ?_)
      ·simpa using this
      ·have hjl:j<cells.size:=by rw[g3];exact(A4.1 hj).1
       refine⟨(g4 j c cells[j] hj (B7 hjl)).1,?_,(hS2 _ _).2 (.inr ⟨n,cs,hn,hb⟩)⟩
       rw[C1,cell_of_row w' b j cells elem (0,0) g2,B7 hjl]
       simp[Array.getD,hjl]
      ·have hjl:j<cells.size:=by rw[g3];exact(A4.1 hj).1
       have:=(g4 j c cells[j] hj (B7 hjl)).2
       simp only[Array.getD,hjl,dif_pos]
       exact this.evol hsub (λ_ _ _=>rfl)
  ·exact hk.elim
 exact bC.mono (hc) key
end Go.PM
namespace Go.PM
open Go.Proofs
theorem A2m {b:D7}:∀(k:Nat) (c:List Int),c.length+k=(G0 b).length->∀d v p,Lf.brk d v p∈lfs b k c->(∃v' p':Nat,aM b d=some (v',p')/\v=(v':Int)/\p=(p':Int))∨(v= -1/\p= -1/\d.length=(G0 b).length/\¬Y2 b d)
 |0,c,hl,d,v,p,h=>by
  unfold lfs at h
  split at h
  ·rename_i v' p' hb
   rw[H9] at h;cases h
   exact .inl ⟨v',p',hb,rfl,rfl⟩
  ·unfold EN at h
   split at h
   ·simp at h
   ·rename_i hn
    rw[H9] at h;cases h
    exact .inr ⟨rfl,rfl,by omega,hn⟩
 |k+1,c,hl,d,v,p,h=>by
  unfold lfs at h
  split at h
  ·rename_i v' p' hb
   rw[H9] at h;cases h
   exact .inl ⟨v',p',hb,rfl,rfl⟩
  ·obtain⟨n,_,h⟩:=W3.1 h
   exact A2m k _ (by rw[B4,F1];omega) d v p h
theorem NI {b:D7}:∀(k:Nat) (c:List Int),c.length+k=(G0 b).length->∀d,Lf.con d∈lfs b k c->d.length=(G0 b).length
 |0,c,hl,d,h=>by
  unfold lfs at h
  split at h
  ·simp at h
  ·unfold EN at h
   split at h
   ·rw[H9] at h;cases h;omega
   ·simp at h
 |k+1,c,hl,d,h=>by
  unfold lfs at h
  split at h
  ·simp at h
  ·obtain⟨n,_,h⟩:=W3.1 h
   exact NI k _ (by rw[B4,F1];omega) d h
theorem tL {b:D7} (F:fO b) (s:Int) (sp:S8) (x:Br) (hl:x.c.length=(G0 b).length) (hc:W7 x.c (G0 b)):C9 Tryz.prog 169 [.d (qD b s sp),.d x.d] (E5 [.b (decide (Y2 b x.c))]):=by
 obtain⟨hb,hM,hml,hd,hm⟩:=bZ F.e
 have hcb:=qL hc λx hx=>(hm x hx).2
 have hwh:=yN F.e hc hl
 have m1:((G0 b).map I).length=(G0 b).length:=A6 _
 have m2:(x.c.map I).length=x.c.length:=A6 _
 have hCo:=fN b F.w F.o1 x.c false hwh (by omega) hd hb (by omega) hcb
 refine pU Tryz.func169 ?_
 unfold qD qC
 by_cases hcs:Y2 b x.c
 ·rw[C2 hcs] at hCo ⊢
  repeat' ((conv=>whnf);first|refine Nam.mk m1 ?_|refine Nam.mk m2 ?_|refine sT ?_|refine sP ?_ ?_<;>intro _|refine cA hCo ?_|fail)
  all_goals exact fI
 ·rw[B6 hcs] at hCo ⊢
  repeat' ((conv=>whnf);first|refine Nam.mk m1 ?_|refine Nam.mk m2 ?_|refine sT ?_|refine sP ?_ ?_<;>intro _|refine cA hCo ?_|fail)
  all_goals exact fI
theorem B2o {b:D7} (F:fO b) {s:Int} (hs:s∈Z8 b) {sp:S8} (hsp:sp.ok b) {c:List Int} (hl:c.length=(G0 b).length) (hc:W7 c (G0 b)) (hcs:Y2 b c):C9 Tryz.prog 171 [.d (qD b s sp),.d (SL 1 (c.map I))] (E5 [.b (nR b s sp c),I 0]):=by
 obtain⟨hb,hM,hml,hd,hm⟩:=bZ F.e
 have hcb:=qL hc λx hx=>(hm x hx).2
 have hwh:=yN F.e hc hl
 have hHi:=jQ b F.w F.o1 c false hwh (by omega) hd hb (by omega) hcb
 have hSi:=PO b hb s hs c false (by omega) hd hcb
 have hsv:=hsp.v
 have hsp0:=hsp.p
 have hnl:=GI hs (by have:=F.r8;omega) c
 have hmem:=AU hs (by have:=F.o4;omega) (c:=c)
 unfold nR oD
 obtain⟨n,hn⟩:∃n,n=Q8 b s c:=⟨_,rfl⟩
 rw[<-hn] at hSi hnl hmem ⊢
 unfold qD qC
 by_cases h0:0<=n
 ·have hCt:=EG (T1 b c) (oN F hcs) n sp.v sp.p (hmem h0) ⟨h0,by omega⟩
  unfold AB GP at hCt
  rw[if_neg (by omega),if_neg (by show ¬(sp.p<0∨sp.p≥b.per∨sp.v<0∨sp.v≥b.op.length);omega)] at hCt
  rw[W1.2 (and_iff_right h0)]
  dsimp only at hCt
  obtain⟨q,hq⟩:∃q,q=decide ((xAt (T1 b c) n (sp.p.toNat+1)).getD sp.v.toNat 0≠0):=⟨_,rfl⟩
  rw[<-hq] at hCt ⊢
  refine pU Tryz.func171 ?_
  repeat' ((conv=>whnf);first|refine sT ?_|refine sP ?_ ?_<;>intro _|refine cA hSi ?_|refine cA hHi ?_|refine cA hCt ?_|fail)
  all_goals exact fI
 ·rw[B6 (λh=>h0 h.1)]
  refine pU Tryz.func171 ?_
  repeat' ((conv=>whnf);first|refine sT ?_|refine sP ?_ ?_<;>intro _|refine cA hSi ?_|fail)
  all_goals exact fI
theorem TE {b:D7} (F:fO b) (s:Int) (sp:S8) {x:Br} (hc:W7 x.c (G0 b)) {v p:Nat} (hbk:aM b x.c=some (v,p)) (hv:x.v=v) (hp:x.p=p):C9 Tryz.prog 124 [.d (qD b s sp),.d x.d] (E5 [.b true,I 0]):=by
 have hBr:=rG b F.w F.e F.r8 x.c false hc
 unfold KE at hBr
 rw[hbk] at hBr
 dsimp only at hBr
 obtain⟨xc,xk,xv,xp⟩:=x
 dsimp only at hv hp hBr
 subst hv;subst hp
 unfold qD qC Br.d
 dsimp only
 refine pU Tryz.func124 ?_
 repeat' ((conv=>whnf);first|refine sT ?_|refine sP ?_ ?_<;>intro _|refine cA hBr ?_|fail)
 all_goals exact fI
theorem TD {b:D7} (F:fO b) (s:Int) (sp:S8) {x:Br} (hc:W7 x.c (G0 b)) (hl:x.c.length=(G0 b).length) (hcs:¬Y2 b x.c) (hv:x.v= -1) (hp:x.p= -1):C9 Tryz.prog 124 [.d (qD b s sp),.d x.d] (E5 [.b true,I 0]):=by
 have hCo:=tL F s sp x hl hc
 rw[B6 hcs] at hCo
 obtain⟨xc,xk,xv,xp⟩:=x
 have m1:((G0 b).map I).length=(G0 b).length:=A6 _
 have m2:(xc.map I).length=xc.length:=A6 _
 dsimp only at hv hp hl
 subst hv;subst hp
 unfold Br.d qD qC at hCo ⊢
 dsimp only at hCo ⊢
 refine pU Tryz.func124 ?_
 repeat' ((conv=>whnf);first|refine Nam.mk m1 ?_|refine Nam.mk m2 ?_|refine sT ?_|refine sP ?_ ?_<;>intro _|refine cA hCo ?_|fail)
 all_goals exact fI
theorem CQ (b:D7) (s:Int) (sp:S8) (q:Bool):C9 Tryz.prog 125 [.d (qD b s sp),.d (.b q)] (.d (.cl 170 [] [.pt (qC b s sp),.pt [.b q]])):=by
 have h:C9 Tryz.prog 125 [.d (qD b s sp),.d (.b q)] (.fn 170 ([qC b s sp,[.b q]].map λcs=>.rp cs 0)):=by
  refine WI (E:=P9 Tryz.prog tt Tryz.f125.ntmps) (I6 T5 mixed) Tryz.func125 (by rfl) rfl rfl (B5 rfl) ?_
  repeat' ((conv=>whnf);first|refine sT ?_|refine sP ?_ ?_<;>intro _|fail)
  all_goals(conv=>whnf)
  exact⟨rfl,⟨_,rfl,rfl⟩,⟨_,rfl,rfl⟩,trivial⟩
 exact C9.cl2 h
theorem ZD {F:Fence} {n:Nat} {P:Program} {o:Oper} {Q Q':Exit->Act->World->Prop} {a:Act} {w:World} {K K':Act->World->Prop} (h:∀a w,K a w->K' a w) (hQ:∀e a w,e≠.normal->Q e a w->Q' e a w)
 (hh:o.wpIn F n P a w K Q):o.wpIn F n P a w K' Q':=by
 unfold Oper.wpIn at*
 refine⟨hh.1,?_⟩
 have hh:=hh.2
 generalize (o.semAt F.round a.eval).run P w=r at*
 cases r with
 |ok x w'=>
  cases x<;>simp only[Oper.uponIn] at hh ⊢ <;>
   first
    |exact h _ _ hh
    |exact hQ _ _ _ (λe=>Exit.noConfusion e) hh
    |exact⟨hh.1,CallsIn.mono hh.2 (λe w'' he=>by cases e<;>first|exact h _ _ he|exact hQ _ _ _ (λe=>Exit.noConfusion e) he|exact(let ⟨a,w,hh⟩:=he;⟨a,w,hQ _ _ _ (λe=>Exit.noConfusion e) hh⟩)|exact he)⟩
    |exact⟨hh.1,RowsIn.mono hh.2 (λ_ _ he=>h _ _ he)⟩
    |exact⟨hh.1,RoundIn.mono hh.2 (λe w'' he=>by cases e<;>first|exact h _ _ he|exact hQ _ _ _ (λe=>Exit.noConfusion e) he|exact(let ⟨a,w,hh⟩:=he;⟨a,w,hQ _ _ _ (λe=>Exit.noConfusion e) hh⟩)|exact he)⟩
    |exact hh
 |halt x w'=>cases x<;>simp only[Oper.uponIn] at hh ⊢ <;>first|exact hQ _ _ _ (λe=>Exit.noConfusion e) hh|exact hh
theorem YA {F:Fence} {n:Nat} {P:Program} {ops:Array Oper} {Q Q':Exit->Act->World->Prop} {i:Nat} {a:Act} {w:World} {K K':Act->World->Prop} (h:∀a w,K a w->K' a w) (hQ:∀e a w,e≠.normal->Q e a w->Q' e a w)
 (hh:wpOpIn F n P ops Q i K a w):wpOpIn F n P ops Q' i K' a w:=by
 unfold wpOpIn at*
 split
 ·exact h _ _ (by simpa[*] using hh)
 ·rename_i o ho
  simp only[ho] at hh
  split
  ·rename_i hw;simp only[hw,if_true] at hh;exact ZD h hQ hh
  ·rename_i hw;simp only[hw] at hh;exact⟨hh.1,h _ _ hh.2⟩
theorem A2y:∀(l:List Bool) (i:Nat),l[i]? =some false->(l.set i true).count false+1=l.count false
 |[],i,h=>by simp at h
 |b::l,0,h=>by simp at h;subst h;simp
 |b::l,i+1,h=>by
  have:=A2y l i (by simpa using h)
  simp only[H4,List.count_cons]
  omega
theorem A3c {F:Fence} {n:Nat} {P:Program} {ops:Array Oper} {Q:Exit->Act->World->Prop} (J:Array Bool->Act->World->Prop)
 (hstep:∀listed a w i,listed.size=ops.size->J listed a w->i∈Region.ready .any ops listed->wpOpIn F n P ops Q i (J (listed.setIfInBounds i true)) a w)
 (hend:∀listed a w,listed.size=ops.size->J listed a w->Region.ready .any ops listed=[]->Q .normal a w):
 ∀(fuel:Nat) (listed:Array Bool) (a:Act) (w:World),listed.size=ops.size->J listed a w->listed.toList.count false<=fuel->wpAnyIn F n P .any ops Q fuel listed a w
 |0,listed,a,w,hs,hj,hc=>by
  have hr:Region.ready .any ops listed=[]:=by
   cases hr:Region.ready .any ops listed with
   |nil=>rfl
   |cons x l=>
    exfalso
    have hx:x∈Region.ready .any ops listed:=by rw[hr];exact .head _
    obtain⟨h1,o,h2,_⟩:=mem_ready.1 hx
    have hlt:x<listed.size:=by rw[hs];exact(C4.1 h2).1
    have h3:false∈listed.toList:=by
     rw[C0,B7 hlt] at h1
     have h4:listed[x]=false:=h1
     rw[<-h4];exact Array.mem_toList_iff.2 (Array.getElem_mem hlt)
    have:=List.count_pos_iff.2 h3
    omega
  exact⟨hr,hend listed a w hs hj hr⟩
 |fuel+1,listed,a,w,hs,hj,hc=>by
  refine⟨λhr=>hend listed a w hs hj hr,λi hi=> ?_⟩
  obtain⟨h1,o,h2,_⟩:=mem_ready.1 hi
  have hlt:i<listed.size:=by rw[hs];exact(C4.1 h2).1
  have h4:listed.toList[i]? =some false:=by
   rw[L1,B7 hlt]
   rw[C0,B7 hlt] at h1
   exact N8 some h1
  have h5:=A2y _ _ h4
  refine wpOpIn_mono (λa' w' h=>A3c J hstep hend fuel _ a' w' (by simpa using hs) h ?_) (hstep listed a w i hs hj hi)
  rw[Array.toList_setIfInBounds]
  omega
theorem lL {n:Nat} {C:Cx} {P:Program} [CN] {E:Env} (hE:E.Ok P) {ops:Array Oper} {i nf:Nat} {o:Oper} (hi:ops[i]? =some o) {ts:Tm} {h:Hp} {k:Tm->Hp->Prop} {a:Act} {w:World} {S:Stb} {β:Bet} {Q:Exit->Act->World->Prop} {K:Act->World->Prop}
 (hs:St E.N C a w S ts h β) (hx:dY E ops.toList [o] nf ts h k) (hK:∀a' w',CM E.N C w S h β k a' w'->K a' w'):wpOpIn (FF C.ro) n P ops Q i K a w:=by
 have h1:=mJ (n:=n) hE ops [] [o] i nf ts h a w S β (λe a w=>match e with| .normal=>K a w|_=>False) (λj hj=>by
  have:j=0:=by simpa using hj
  subst this
  simpa using hi.symm) hx hs λa' w' hp=>hK a' w' hp
 rw[show List.range' i [o].length++[]=[i] by simp,wpOpsIn_cons] at h1
 refine YA (λa' w' h=>h) (λe a w hne he=> ?_) h1
 cases e with
 |normal=>exact absurd rfl hne
 |_=>exact he.elim
theorem DWP.seqA {P:Program} [CN] {N:Nat} {c d:Code} {dopt:Option (FuncId×List V)} {ts:Tm} {h:Hp} {k:XD->Option (FuncId×List V)->Tm->Hp->Prop} (k':Tm->Hp->Prop)
 (hx:AWP P N c ts h λe ts h=>match e with
   | .normal=>k' ts h
   |_=>False) (hd:∀ts h,k' ts h->DWP P N d dopt ts h k):DWP P N (.seq c d) dopt ts h k:=by
 refine⟨λn C a w S β hs hro hdr=> ?_⟩
 refine wpIn_seq (wpIn_mono (hx n C a w S β hs) λe a' w' hp=> ?_)
 obtain⟨x,rfl,ts',h',S',β',p1,p2,p3⟩:=hp
 cases x with
 |normal=>exact wpIn_mono ((hd ts' h' p1).holds n C a' w' S' β' p2 hro (hdr.evol p3)) λe a2 w2 hp2=>hp2.then p3
 |exit id=>exact p1.elim
 |ret=>exact p1.elim
theorem fY {d:Nat} {v z:V} {B:Tm} (t:Nat):∀(A:Tm),(∀p∈A,Nat.beq p.1 d=false)->look (A++(d,v)::B) t=look ((d,v)::(A++(d,z)::B)) t
 |[],_=>by
  show look ((d,v)::B) t=look ((d,v)::(d,z)::B) t
  simp only[look]
  cases Nat.beq d t<;>rfl
 |(e,x)::A,h=>by
  have ih:=fY (v:=v) (z:=z) (B:=B) t A λp hp=>h p (.tail _ hp)
  have h0:=h (e,x) (.head _)
  simp only[I1,look] at ih ⊢
  cases h1:Nat.beq e t with
  |true=>
   have:e=t:=B2 h1
   subst this
   have h2:Nat.beq d e=false:=by
    cases h3:Nat.beq d e with
    |false=>rfl
    |true=>have:=B2 h3;subst this;rw[h1] at h0;cases h0
   rw[h2]
  |false=>exact ih
end Go.PM

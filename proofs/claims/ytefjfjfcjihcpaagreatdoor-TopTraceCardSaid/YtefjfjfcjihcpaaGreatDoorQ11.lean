/- TopTrace: part 11 of the proof: for every input the law returns true, and its arguments read behind the call as they read before; where the library's table is as its own text lays it. -/
import Derived.Test.YtefjfjfcjihcpaaGreatDoorQ10
set_option maxRecDepth 10000
set_option maxHeartbeats 400000000
set_option linter.unusedSectionVars false
namespace Go.PM
open Go.Proofs
def HA (b:D7) (i:Nat):List Int:=((List.range i).filter λi=>decide ((recAt b i).f.kind=1)).map λi:Nat=>16+(i:Int)
def Z8 (b:D7):List Int:=sM b.op++HA b b.recs.length
theorem LF (b:D7) (h1:b.op.length<=16) (h2:b.recs.length<=64):C9 Tryz.prog 9 [.d b.d] (E5 [SL 1 ((Z8 b).map I)]):=by
 have m1:(b.op.map I).length=b.op.length:=A6 _
 have m2:(b.recs.map Rec.d).length=b.recs.length:=A6 _
 refine pU Tryz.func9 ?_
 repeat' ((conv=>whnf);first|refine Nam.mk m1 ?_|refine Nam.mk m2 ?_|refine sT ?_|refine sP ?_ ?_<;>intro _|fail)
 all_goals(conv=>whnf)
 refine L3.virt 3 1 1 false (by decide) rfl ?_
 conv=>whnf
 let p1:Nat->Bool:=λi=>decide (0<b.op.getD i 0)
 let p2:Nat->Bool:=λi=>decide ((recAt b i).f.kind=1)
 have hlf:∀(n:Nat) (p:Nat->Bool),((List.range n).filter p).length<=n:=λn p=>by have:=L0 p (List.range n);rw[M6] at this;exact this
 refine lO (X:=XS) (λx=>[(4,.d (I x.i)),(3,.sref 1 x.v 0 x.n false)]) (λx=>[(1,.row x.v 1 false x.dr)]) (λx=>x.i<=b.op.length/\x.n=x.dr.length/\x.dr=(((List.range x.i).filter p1).map Int.ofNat).map I) (λx=>b.op.length-x.i) ⟨0,0,0,[]⟩ sam rfl ⟨B9 _,rfl,rfl⟩ ?_
 rintro⟨i,v,n,dr⟩ ⟨hi,hn,hd⟩
 dsimp only at hi hn hd
 have hnl:n<=i:=by rw[hn,hd,A6,A6];exact hlf _ _
 dsimp only
 by_cases hlt:i<b.op.length
 ·obtain⟨y,hy⟩:∃y,b.op[i]? =some y:=⟨_,A3 hlt⟩
  have hyD:b.op.getD i 0=y:=by rw[A5,hy];rfl
  have ck1:0+n=dr.length:=by omega
  have ck2:n+1<=room:=by simp[room];omega
  by_cases hp:y>0
  ·repeat' ((conv=>whnf);first|refine Nam.mk m1 ?_|refine Nam.mk m2 ?_|refine sT ?_|refine sP ?_ ?_<;>intro _|refine A9 (D4 hy) ?_|refine Chk.mk ⟨rfl,ck1,ck2⟩ ?_|fail)
   all_goals((conv=>whnf);try exact xO)
   exact⟨⟨i+1,v+1,n+1,dr++[I i]⟩,wE,⟨hlt,by simp[hn],by rw[iG hlt];simp only[p1,hyD,C2 hp,if_true,D2];rw[<-hd];rfl⟩,by simp only;omega⟩
  ·repeat' ((conv=>whnf);first|refine Nam.mk m1 ?_|refine Nam.mk m2 ?_|refine sT ?_|refine sP ?_ ?_<;>intro _|refine A9 (D4 hy) ?_|refine Chk.mk ⟨rfl,ck1,ck2⟩ ?_|fail)
   all_goals((conv=>whnf);try exact xO)
   exact⟨⟨i+1,v,n,dr⟩,wE,⟨hlt,hn,by rw[iG hlt];simp only[p1,hyD,B6 hp,D2];rw[<-hd];simp⟩,by simp only;omega⟩
 ·have hie:i=b.op.length:=by omega
  subst hie
  repeat' ((conv=>whnf);first|refine Nam.mk m1 ?_|refine Nam.mk m2 ?_|refine sT ?_|refine sP ?_ ?_<;>intro _|fail)
  all_goals((conv=>whnf);try exact xO)
  refine lO (X:=XS) (λx=>[(5,.d (I x.i)),(3,.sref 1 x.v 0 x.n false)]) (λx=>[(1,.row x.v 1 false x.dr)]) (λx=>x.i<=b.recs.length/\x.n=x.dr.length/\x.dr=(sM b.op++((List.range x.i).filter p2).map λi:Nat=>16+(i:Int)).map I) (λx=>b.recs.length-x.i) ⟨0,v,n,dr⟩ sam rfl ⟨B9 _,hn,by rw[hd];simp[sM,p1]⟩ ?_
  rintro⟨i,v,n,dr⟩ ⟨hi,hn,hd⟩
  dsimp only at hi hn hd
  have hnl:n<=i+16:=by
   have:=hlf i p2
   have:=hlf b.op.length p1
   rw[hn,hd,A6,B4,A6]
   unfold sM;rw[A6];simp only[p1,p2] at*;omega
  dsimp only
  by_cases hlt:i<b.recs.length
  ·obtain⟨y,hy⟩:∃y,b.recs[i]? =some y:=⟨_,A3 hlt⟩
   have hyD:recAt b i=y:=by unfold recAt;rw[A5,hy];rfl
   have ck1:0+n=dr.length:=by omega
   have ck2:n+1<=room:=by simp[room];omega
   by_cases hp:y.f.kind=1
   ·repeat' ((conv=>whnf);first|refine Nam.mk m1 ?_|refine Nam.mk m2 ?_|refine sT ?_|refine sP ?_ ?_<;>intro _|refine A9 (D4 hy) ?_|refine Chk.mk ⟨rfl,ck1,ck2⟩ ?_|fail)
    all_goals((conv=>whnf);try exact xO)
    exact⟨⟨i+1,v+1,n+1,dr++[I (16+i)]⟩,wE,⟨hlt,by simp[hn],by rw[iG hlt];simp only[p2,hyD,C2 hp,if_true,D2,<-D5];rw[hd];simp[p2]⟩,by simp only;omega⟩
   ·repeat' ((conv=>whnf);first|refine Nam.mk m1 ?_|refine Nam.mk m2 ?_|refine sT ?_|refine sP ?_ ?_<;>intro _|refine A9 (D4 hy) ?_|refine Chk.mk ⟨rfl,ck1,ck2⟩ ?_|fail)
    all_goals((conv=>whnf);try exact xO)
    exact⟨⟨i+1,v,n,dr⟩,wE,⟨hlt,hn,by rw[iG hlt];simp only[p2,hyD,B6 hp,D2];rw[hd];simp[p2]⟩,by simp only;omega⟩
  ·have hie:i=b.recs.length:=by omega
   subst hie
   repeat' ((conv=>whnf);first|refine sT ?_|refine sP ?_ ?_<;>intro _|fail)
   all_goals((conv=>whnf);try exact xO)
   refine Nam.mk (whole hn) ?_
   conv=>whnf
   show DLe (.sl 1 false dr) (.sl 1 false ((Z8 b).map I))
   rw[hd];exact DLe.refl _
end Go.PM
namespace Go.PM
def blocks (A:List (List Int)):Int->Nat->List (List Int)
 |_,0=>[]
 |x,k+1=>A.map (x:: ·)++blocks A (x+1) k
def jX:List Int->List (List Int)
 |[]=>[[]]
 |m::ms=>blocks (jX ms) 0 m.toNat
def uA:List Int->List Int->Option (List Int)
 |m::ms,x::xs=>match uA ms xs with
  |some l=>some (x::l)
  |none=>if x+1<m then some ((x+1)::List.replicate ms.length 0) else none
 |_,_=>none
def InC:List Int->List Int->Prop
 |[],[]=>True
 |m::ms,x::xs=>(0<=x/\x<m)/\InC ms xs
 |_,_=>False
theorem ID {A:List (List Int)} {a:List Int}:∀(k:Nat) (x:Int),a∈blocks A x k↔∃y l,a=y::l/\(x<=y/\y<x+k)/\l∈A
 |0,x=>by
  constructor
  ·intro h;cases h
  ·rintro⟨y,l,_,h,_⟩;omega
 |k+1,x=>by
  rw[blocks,K0,ID k (x+1),K4]
  constructor
  ·rintro(⟨l,hl,rfl⟩|⟨y,l,e,h,hl⟩)
   ·exact⟨x,l,rfl,by omega,hl⟩
   ·exact⟨y,l,e,by omega,hl⟩
  ·rintro⟨y,l,e,h,hl⟩
   by_cases hy:y=x
   ·subst hy;exact .inl ⟨l,hl,e.symm⟩
   ·exact .inr ⟨y,l,e,by omega,hl⟩
theorem zL {a:List Int}:∀{ms:List Int},a∈jX ms↔InC ms a
 |[]=>by
  cases a with
  |nil=>simp[jX,InC]
  |cons x l=>simp[jX,InC]
 |m::ms=>by
  rw[jX,ID]
  constructor
  ·rintro⟨y,l,rfl,h,hl⟩
   exact⟨by omega,zL.1 hl⟩
  ·cases a with
   |nil=>intro h;cases h
   |cons x l=>intro h;exact⟨x,l,rfl,by have:=h.1;omega,zL.2 h.2⟩
theorem DS {ms:List Int} {m:Int} (hA:(jX ms).head?=some (List.replicate ms.length 0)) (hN:∀t a,(jX ms)[t]? =some a->uA ms a=(jX ms)[t+1]?):∀(k:Nat) (x:Int),x+k=m->
 (0<k->(blocks (jX ms) x k).head?=some (x::List.replicate ms.length 0))/\∀t a,(blocks (jX ms) x k)[t]? =some a->uA (m::ms) a=(blocks (jX ms) x k)[t+1]?
 |0,x,_=>⟨λh=>absurd h (by decide),λt a h=>by simp[blocks] at h⟩
 |k+1,x,hx=>by
  obtain⟨i1,i2⟩:=DS (m:=m) hA hN k (x+1) (by omega)
  have hne:0<(jX ms).length:=by
   cases hh:jX ms with
   |nil=>rw[hh] at hA;cases hA
   |cons _ _=>simp
  have hml:((jX ms).map (x:: ·)).length=(jX ms).length:=A6 _
  refine⟨λ_=> ?_,λt a h=> ?_⟩
  ·rw[blocks,List.head?_append,List.head?_map,hA];rfl
  ·rw[blocks] at h ⊢
   by_cases ht:t<(jX ms).length
   ·rw[B8 (by omega),A8] at h
    obtain⟨l,hl,rfl⟩:=F0.1 h
    have hn:=hN t l hl
    show(match uA ms l with
     |some l=>some (x::l)
     |none=>if x+1<m then some ((x+1)::List.replicate ms.length 0) else none)=_
    rw[hn]
    by_cases ht2:t+1<(jX ms).length
    ·rw[B8 (by omega),A8,A3 ht2];rfl
    ·rw[E0 (by omega),B3 (by omega),hml,show t+1-(jX ms).length=0 by omega]
     simp only
     by_cases hk:0<k
     ·rw[if_pos (show x+1<m by omega),<-List.head?_eq_getElem?,i1 hk]
     ·rw[if_neg (show ¬x+1<m by omega),show k=0 by omega];rfl
   ·rw[B3 (by omega),hml] at h
    rw[i2 _ a h,B3 (by omega),hml,show t+1-(jX ms).length=t-(jX ms).length+1 by omega]
theorem CD:∀(ms:List Int),(∀m∈ms,1<=m)->(jX ms).head?=some (List.replicate ms.length 0)/\∀t a,(jX ms)[t]? =some a->uA ms a=(jX ms)[t+1]?
 |[],_=>⟨rfl,λt a h=>by
  cases t with
  |zero=>rfl
  |succ t=>simp[jX] at h⟩
 |m::ms,h=>by
  obtain⟨h1,h2⟩:=CD ms λx hx=>h x (.tail _ hx)
  have hm:=h m (.head _)
  obtain⟨b1,b2⟩:=DS (m:=m) h1 h2 m.toNat 0 (by omega)
  exact⟨b1 (by omega),b2⟩
def XR (ms s:List Int) (j:Nat):Prop:=∀(i:Nat) (m x:Int),j<=i->ms[i]? =some m->s[i]? =some x->x=m-1
theorem InC.len:∀{ms s:List Int},InC ms s->s.length=ms.length
 |[],[],_=>rfl
 |m::ms,x::s,h=>by rw[M2,M2,InC.len h.2]
 |[],_::_,h=>by cases h
 |_::_,[],h=>by cases h
theorem InC.at:∀{ms s:List Int},InC ms s->∀(i:Nat) (m x:Int),ms[i]? =some m->s[i]? =some x->0<=x/\x<m
 |m::ms,x::s,h,0,m',x',h1,h2=>by
  simp at h1 h2;subst h1;subst h2;exact h.1
 |m::ms,x::s,h,i+1,m',x',h1,h2=>InC.at h.2 i m' x' (by simpa using h1) (by simpa using h2)
theorem xX:∀{ms s:List Int},s.length=ms.length->XR ms s 0->uA ms s=none
 |[],[],_,_=>rfl
 |m::ms,x::s,hl,h=>by
  have h0:=h 0 m x (B1 _) rfl rfl
  have ih:=xX (ms:=ms) (s:=s) (by simpa using hl) λi m' x' _ h1 h2=>h (i+1) m' x' (B9 _) (by simpa using h1) (by simpa using h2)
  rw[uA,ih]
  simp only
  rw[if_neg (by omega)]
 |[],_::_,hl,_=>by simp at hl
 |_::_,[],hl,_=>by simp at hl
theorem HW:∀{ms s:List Int} {j:Nat} {m x:Int},s.length=ms.length->ms[j]? =some m->s[j]? =some x->x+1<m->XR ms s (j+1)->
 uA ms s=some (s.take j++(x+1)::List.replicate (ms.length-(j+1)) 0)
 |m'::ms,x'::s,0,m,x,hl,h1,h2,hx,hf=>by
  simp at h1 h2;subst h1;subst h2
  have ih:=xX (ms:=ms) (s:=s) (by simpa using hl) λi m'' x'' _ e1 e2=>hf (i+1) m'' x'' (by omega) (by simpa using e1) (by simpa using e2)
  rw[uA,ih]
  simp only
  rw[if_pos hx]
  simp
 |m'::ms,x'::s,j+1,m,x,hl,h1,h2,hx,hf=>by
  have ih:=HW (ms:=ms) (s:=s) (j:=j) (m:=m) (x:=x) (by simpa using hl) (by simpa using h1) (by simpa using h2) hx λi m'' x'' hi e1 e2=>hf (i+1) m'' x'' (by omega) (by simpa using e1) (by simpa using e2)
  rw[uA,ih]
  simp
 |[],_,j,m,x,_,h1,_,_,_=>by simp at h1
 |_::_,[],j,m,x,hl,_,_,_,_=>by simp at hl
def cZ (m c0:List Int):List (List Int):=(jX (m.drop c0.length)).map (c0++ ·)
theorem uJ {m c0 c:List Int}:c∈cZ m c0↔∃s,c=c0++s/\InC (m.drop c0.length) s:=by
 unfold cZ
 rw[K4]
 constructor
 ·rintro⟨s,hs,rfl⟩;exact⟨s,rfl,zL.1 hs⟩
 ·rintro⟨s,rfl,hs⟩;exact⟨s,zL.2 hs,rfl⟩
theorem JA {m c0:List Int} (hm:∀x∈m,1<=x):(cZ m c0)[0]? =some (c0++List.replicate (m.length-c0.length) 0):=by
 unfold cZ
 have:=(CD (m.drop c0.length) λx hx=>hm x (aX hx)).1
 rw[List.head?_eq_getElem?] at this
 rw[A8,this,aA];rfl
theorem NK {m c0 s:List Int} (hm:∀x∈m,1<=x) {t:Nat} (h:(cZ m c0)[t]? =some (c0++s)):(cZ m c0)[t+1]? =(uA (m.drop c0.length) s).map (c0++ ·):=by
 unfold cZ at h ⊢
 rw[A8] at h
 obtain⟨s',hs,e⟩:=F0.1 h
 have:=List.append_cancel_left e
 subst this
 rw[A8,(CD (m.drop c0.length) λx hx=>hm x (aX hx)).2 t s' hs]
end Go.PM
namespace Go.PM
open Go.Proofs
def oT (r:List Int) (x:Nat):List (List Int):=(List.range x).map λy:Nat=>r++[(y:Int)]
def Y6 (m:List Int):Nat->List (List Int)
 |0=>[[]]
 |i+1=>(Y6 m i).flatMap λr=>oT r (m.getD i 0).toNat
def bV (m:List Int):List (List Int):=Y6 m m.length
theorem VX (T:List (List Int)) (x:Nat):(T.flatMap λr=>oT r x).length=T.length*x:=by
 induction T with
 |nil=>simp
 |cons r T ih=>rw[oZ,B4,ih,M2,P3];unfold oT;simp;omega
theorem ZZ (r:List Int) (x:Nat):oT r (x+1)=oT r x++[r++[(x:Int)]]:=by unfold oT;rw[Q4,D2];rfl
theorem A5c {T:List (List Int)} {x j:Nat} {r:List Int} (h:T[j]? =some r):((T.take (j+1)).flatMap λr=>oT r x)=((T.take j).flatMap λr=>oT r x)++oT r x:=by
 rw[D1,h,List.flatMap_append];simp
theorem FZ (m:List Int):∀(i:Nat) (r:List Int),r∈Y6 m i->r.length=i
 |0,r,h=>by simp[Y6] at h;subst h;rfl
 |i+1,r,h=>by
  rw[Y6,W3] at h
  obtain⟨q,hq,h⟩:=h
  unfold oT at h
  obtain⟨y,_,rfl⟩:=K4.1 h
  rw[B4,FZ m i q hq];rfl
section
variable [CN]
theorem Wk.leT {N:Nat} {ts:Tm} {h:Hp} {t:Nat} {d d':D} (ht:look ts t=.d d) (hd:DLe d d'):Wk N ts h ((t,.d d')::ts) h:=λC a w S β hs=>by
 refine⟨S,β,⟨hs.hr,λt'=> ?_,hs.size,hs.marks,hs.round,hs.base⟩,F7.refl _ _ _ _⟩
 simp only[look]
 cases hb:Nat.beq t t' with
 |true=>
  have e:=B2 hb
  subst e
  have:=hs.tr t
  rw[ht] at this
  exact VLe.vr (VLe.d hd) this
 |false=>exact hs.tr t'
end
theorem A3n (m:List Int) (hl:m.length<=8) (hm:∀x∈m,1<=x/\x<=20) (hp:∀i x,m[i]? =some x->((Y6 m i).length:Int)*x<=4096) (f:Bool):
 C9 Tryz.prog 8 [.d (.sl 1 f (m.map I))] (E5 [SL 1 ((bV m).map jP),.b true]):=by
 have m1:(m.map I).length=m.length:=A6 _
 refine pU Tryz.func8 ?_
 repeat' ((conv=>whnf);first|refine Nam.mk m1 ?_|refine sT ?_|refine sP ?_ ?_<;>intro _|fail)
 all_goals(conv=>whnf)
 refine L3.weak (Wk.leT (t:=2) (d':=SL 1 ((Y6 m 0).map jP)) rfl (DLe.trans (DLe.full _ _ _) (DLe.sl ⟨rfl,λj x y hx hy=>by
  cases j with
  |zero=>simp at hx;subst hx;simp[Y6] at hy;subst hy;exact⟨DLe.full _ _ _,rfl⟩
  |succ j=>simp at hx⟩))) ?_
 refine lO (X:=Nat) (λi=>[(4,.d (I i)),(2,.d (SL 1 ((Y6 m i).map jP)))]) (λ_=>[]) (λi=>i<=m.length) (λi=>m.length-i) 0 sam rfl (B9 _) ?_
 intro i hi
 by_cases hlt:i<m.length
 ·obtain⟨x,hx⟩:∃x,m[i]? =some x:=⟨_,A3 hlt⟩
  have hxb:=hm x (A7 hx)
  have hpx:=hp i x hx
  have hxD:m.getD i 0=x:=by rw[A5,hx];rfl
  have hrows:=FZ m i
  generalize hT:Y6 m i=T at*
  have mT:(T.map jP).length=T.length:=A6 _
  have gx:=D4 (f:=I) hx
  have hTl:0<=(T.length:Int)*x:=PB (by omega) (by omega)
  repeat' ((conv=>whnf);first|refine Nam.mk m1 ?_|refine Nam.mk mT ?_|refine sT ?_|refine sP ?_ ?_<;>intro _|refine A9 gx ?_|fail)
  all_goals((conv=>whnf);try exact xO)
  refine L3.virt 5 1 1 false (by decide) rfl ?_
  conv=>whnf
  obtain⟨k,rfl⟩:∃k:Nat,x=k:=⟨x.toNat,by omega⟩
  refine lO (X:=XS) (λx=>[(6,.d (I x.i)),(5,.sref 0 x.v 0 x.n false)]) (λx=>[(0,.row x.v 1 false x.dr)]) (λx=>x.i<=T.length/\x.n=x.dr.length/\x.dr=((T.take x.i).flatMap λr=>oT r k).map jP) (λx=>T.length-x.i) ⟨0,0,0,[]⟩ sam rfl ⟨B9 _,rfl,rfl⟩ ?_
  rintro⟨j,v,n,dr⟩ ⟨hj,hn,hdr⟩
  dsimp only at hj hn hdr
  dsimp only
  have hnk:n=(T.take j).length*k:=by rw[hn,hdr,A6,VX]
  rw[D0,mP hj] at hnk
  have hTk:T.length*k<=4096:=Int.ofNat_le.1 (by rw[Q5];exact hpx)
  have hT4:T.length<=4096:=F5 (R4 _ (by omega)) hTk
  by_cases hjl:j<T.length
  ·obtain⟨r,hr⟩:∃r,T[j]? =some r:=⟨_,A3 hjl⟩
   have hfs:=A5c (x:=k) hr
   have hj1:(j+1)*k<=4096:=F5 (D6 k hjl) hTk
   rw[P3] at hj1
   repeat' ((conv=>whnf);first|refine Nam.mk m1 ?_|refine Nam.mk mT ?_|refine sT ?_|refine sP ?_ ?_<;>intro _|refine A9 gx ?_|fail)
   all_goals((conv=>whnf);try exact xO)
   refine lO (X:=XS) (λx=>[(7,.d (I x.i)),(5,.sref 0 x.v 0 x.n false)]) (λx=>[(0,.row x.v 1 false x.dr)]) (λx=>x.i<=k/\x.n=x.dr.length/\x.n=n+x.i/\x.dr=dr++(oT r x.i).map jP) (λx=>k-x.i) ⟨0,v,n,dr⟩ sam rfl ⟨B9 _,hn,rfl,by simp[oT]⟩ ?_
   rintro⟨x,v2,n2,dr2⟩ ⟨hx2,hn2,hn3,hdr2⟩
   dsimp only at hx2 hn2 hn3 hdr2
   dsimp only
   by_cases hxk:x<k
   ·have gr:=D4 (f:=jP) hr
    have hrl:=hrows r (A7 hr)
    have ckr:(([]:List D)=[]∨r.map I≠[])/\([]:List D).length+(r.map I).length<=room:=⟨.inl rfl,by simp[room];omega⟩
    have ckq:0+(([]:List D).length+(r.map I).length)=([]++r.map I).length:=by simp
    have ckw:([]:List D).length+(r.map I).length+[I ((x:Nat):Int)].length<=room:=by simp[room];omega
    have hnm:(((X1 ([]++r.map I) 0++[I ((x:Nat):Int)]).drop 0).take (([]:List D).length+(r.map I).length+[I ((x:Nat):Int)].length))=(r++[(x:Int)]).map I:=by
     rw[show X1 ([]++r.map I) 0=r.map I from rfl,D2];exact whole (by simp)
    have ck1:0+n2=dr2.length:=by omega
    have ck2:n2+1<=room:=by simp[room];omega
    repeat' ((conv=>whnf);first|refine Nam.mk m1 ?_|refine Nam.mk mT ?_|refine sT ?_|refine sP ?_ ?_<;>intro _|refine A9 gx ?_|refine A9 gr ?_|refine Chk.mk ckr ?_|refine Chk.mk ⟨rfl,ckq,ckw⟩ ?_|refine Chk.mk ⟨rfl,ck1,ck2⟩ ?_|refine Nam.mk hnm ?_|fail)
    all_goals((conv=>whnf);try exact xO)
    exact⟨⟨x+1,v2+1,n2+1,dr2++[jP (r++[(x:Int)])]⟩,wE,⟨hxk,by simp[hn2],by simp only;omega,by simp only;rw[ZZ,D2,<-D5,<-hdr2];rfl⟩,by simp only;omega⟩
   ·have hxe:x=k:=by omega
    subst hxe
    repeat' ((conv=>whnf);first|refine Nam.mk m1 ?_|refine Nam.mk mT ?_|refine sT ?_|refine sP ?_ ?_<;>intro _|refine A9 gx ?_|fail)
    all_goals(conv=>whnf)
    all_goals first|(exfalso;omega)|exact⟨⟨j+1,v2,n2,dr2⟩,wE,⟨hjl,hn2,by rw[hfs,D2,<-hdr];exact hdr2⟩,by simp only;omega⟩
  ·have hje:j=T.length:=by omega
   subst hje
   rw[I5] at hdr
   repeat' ((conv=>whnf);first|refine Nam.mk m1 ?_|refine Nam.mk mT ?_|refine sT ?_|refine sP ?_ ?_<;>intro _|fail)
   all_goals((conv=>whnf);try exact xO)
   have e1:dr=(Y6 m (i+1)).map jP:=by rw[hdr,Y6,hT,hxD,B0]
   exact⟨i+1,Wm.trans (Wk.wm (Wk.liftTo (t:=2) (m:=0) (ver:=v) (lo:=0) (len:=n) (sz:=1) (ro:=false) (full:=false) (xs:=dr) ((Y6 m (i+1)).map jP) rfl rfl (by omega) (by rw[<-e1];exact whole hn))) (wE),hlt,by omega⟩
 ·have hie:i=m.length:=by omega
  subst hie
  repeat' ((conv=>whnf);first|refine sT ?_|refine sP ?_ ?_<;>intro _|fail)
  all_goals exact fI
theorem JY (b:D7) (i:Nat):∀k,(Y1 b i).length<=(Y1 b (i+k)).length
 |0=>B1 _
 |k+1=>by
  refine F5 (JY b i k) ?_
  unfold Y1
  rw[<-aP,Q4,L6,B4];omega
theorem B1b {b:D7} {i:Nat} {r:Rec} (h:b.recs[i]? =some r) (hd:dbt r=true):(Y1 b i).length<(N6 b).length:=by
 have hi:=(A4.1 h).1
 have h1:=jW h
 rw[hd,if_pos rfl] at h1
 have h2:=JY b (i+1) (b.recs.length-(i+1))
 rw[show i+1+(b.recs.length-(i+1))=b.recs.length by omega,h1,B4,F1] at h2
 exact h2
def xOf (b:D7) (c:List Int) (i:Nat):Int:=c.getD (Y1 b i).length 0
def lvF (b:D7) (c:List Int) (i:Nat):Bool:=decide ((recAt b i).kind≠6)&& !(decide ((recAt b i).kind=4/\xOf b c i=1∨(recAt b i).kind=1/\(recAt b i).f.amt+xOf b c i=(recAt b i).n))
def sY (b:D7) (c:List Int) (i:Nat):List Bool:=(List.range i).map (lvF b c)++List.replicate (b.recs.length-i) false
def gV (b:D7) (c:List Int):Nat->List Bool
 |0=>List.replicate b.recs.length false
 |i+1=>if(recAt b i).kind=3/\xOf b c i=0 then(gV b c i).set (recAt b i).oth.toNat true else gV b c i
theorem qI (b:D7) (c:List Int):∀i,(gV b c i).length=b.recs.length
 |0=>by simp[gV]
 |i+1=>by rw[gV];split<;>simp[qI b c i]
def lG (b:D7) (c:List Int) (i:Nat):Bool:=(sY b c b.recs.length).getD i false&& !((gV b c b.recs.length).getD i false)
def zE (b:D7) (c:List Int) (k:Nat):Int:=(((List.range k).filter (lG b c)).length:Int)
theorem fX (b:D7) (c:List Int) (i:Nat):((List.range i).map λk=>B (lvF b c k)).length=i:=by simp
theorem IL (b:D7) (c:List Int) (i:Nat):(sY b c i).map B=(List.range i).map (λk=>B (lvF b c k))++List.replicate (b.recs.length-i) (B false):=by
 unfold sY;rw[D2,eG,M8];rfl
theorem IK {b:D7} {c:List Int} {i:Nat} (hi:i<b.recs.length) (y:Bool):((sY b c i).map B).set (0+((i:Nat):Int).toNat) (B y)=(List.range i).map (λk=>B (lvF b c k))++B y::List.replicate (b.recs.length-(i+1)) (B false):=by
 obtain⟨k,hk⟩:∃k,b.recs.length-i=k+1:=⟨b.recs.length-i-1,by omega⟩
 rw[IL,C1,B0,K8 _ _ (by rw[fX];exact B1 _),fX,G2,hk,M1,E9,show b.recs.length-(i+1)=k by omega]
theorem lv_lt {b:D7} {c:List Int} {i:Nat} (hi:i<b.recs.length):0+((i:Nat):Int).toNat<((sY b c i).map B).length:=by
 rw[IL,B4,fX,K9];omega
theorem lv_get {b:D7} {c:List Int} {i:Nat} (hi:i<b.recs.length):((sY b c i).map B)[0+((i:Nat):Int).toNat]? =some (B false):=by
 obtain⟨k,hk⟩:∃k,b.recs.length-i=k+1:=⟨b.recs.length-i-1,by omega⟩
 rw[IL,C1,B0,B3 (by rw[fX];exact B1 _),fX,G2,hk,M1];rfl
theorem zM {b:D7} {c:List Int} {i:Nat} (hi:i<b.recs.length) {y:Bool} (hy:lvF b c i=y):(List.range i).map (λk=>B (lvF b c k))++B y::List.replicate (b.recs.length-(i+1)) (B false)=(sY b c (i+1)).map B:=by
 rw[IL,Q4,D2,D5,<-hy];rfl
def K7 (s:D8) (v p:Int):Int:=if s.live=false∨s.f.per>p then 0 else(if lQ s.f/\s.f.dst=v then s.f.amt else 0)-(if s.f.kind≠1/\s.f.src=v then s.f.amt else 0)
theorem jH (s:D8) (v p:Int) (hb: -1000000000<=s.f.amt/\s.f.amt<=1000000000):C9 Tryz.prog 214 [.d s.d,.d (I v),.d (I p)] (E5 [I (K7 s v p)]):=by
 have hG:=iR s.f
 obtain⟨⟨k,p0,s0,d0,a,lb⟩,sl⟩:=s
 unfold K7
 unfold lQ at hG ⊢
 dsimp only[D8.d,F8.d] at hG hb ⊢
 cases sl with
 |false=>
  rw[if_pos (.inl rfl)]
  refine pU Tryz.func214 ?_
  repeat' ((conv=>whnf);first|refine sT ?_|refine sP ?_ ?_<;>intro _|fail)
  all_goals exact fI
 |true=>
  by_cases hp:p0>p
  ·rw[if_pos (.inr hp)]
   refine pU Tryz.func214 ?_
   repeat' ((conv=>whnf);first|refine sT ?_|refine sP ?_ ?_<;>intro _|fail)
   all_goals exact fI
  ·rw[if_neg (by simp;omega)]
   obtain⟨z,hz⟩:∃z,z=(if(k=1∨k=2)/\d0=v then a else 0)-(if k≠1/\s0=v then a else 0):=⟨_,rfl⟩
   rw[<-hz]
   by_cases hi:k=1∨k=2
   ·rw[C2 hi] at hG
    refine pU Tryz.func214 ?_
    repeat' ((conv=>whnf);first|refine sT ?_|refine sP ?_ ?_<;>intro _|refine cA hG ?_|fail)
    all_goals((conv=>whnf);try exact xO)
    all_goals(show DLe (I _) (I _);refine(N8 (λn=>DLe (I n) _) ?_).mpr (DLe.refl _);rw[hz];(repeat' split)<;>omega)
   ·rw[B6 hi] at hG
    refine pU Tryz.func214 ?_
    repeat' ((conv=>whnf);first|refine sT ?_|refine sP ?_ ?_<;>intro _|refine cA hG ?_|fail)
    all_goals((conv=>whnf);try exact xO)
    all_goals(show DLe (I _) (I _);refine(N8 (λn=>DLe (I n) _) ?_).mpr (DLe.refl _);rw[hz];(repeat' split)<;>omega)
deriving instance DecidableEq for D8
theorem B0p (x y:D8):eqD tt 4 109 x.d.cells y.d.cells=decide (x=y):=by
 rw[show eqD tt 4 109 x.d.cells y.d.cells=((x.f.kind==y.f.kind&&(x.f.per==y.f.per&&(x.f.src==y.f.src&&(x.f.dst==y.f.dst&&(x.f.amt==y.f.amt&&(x.f.label==y.f.label&&true))))))&&(x.live==y.live&&true)) from rfl]
 obtain⟨⟨a,b,c,d,e,f⟩,l⟩:=x
 obtain⟨⟨a',b',c',d',e',f'⟩,l'⟩:=y
 simp only[mD,D8.mk.injEq,F8.mk.injEq]
 rw[bT]
 simp[and_assoc]
theorem BQ (xs:List D8) (x:D8) (f:Bool) (hl:xs.length<1000000):C9 Tryz.prog 220 [.d (.sl 7 f (xs.map D8.d)),.d x.d] (E5 [.b (decide (x∈xs))]):=by
 have m1:(xs.map D8.d).length=xs.length:=A6 _
 refine pU Tryz.func220 ?_
 repeat' ((conv=>whnf);first|refine Nam.mk m1 ?_|refine sT ?_|refine sP ?_ ?_<;>intro _|refine bO Tryz.func222 ?_|fail)
 all_goals(conv=>whnf)
 refine lO (X:=Nat) (λi=>[(8,.d (I i))]) (λ_=>[]) (λi=>i<=xs.length/\∀y∈xs.take i,y≠x) (λi=>xs.length-i) 0 sam rfl ⟨B9 _,λy hy=>by simp at hy⟩ ?_
 rintro i ⟨hi,hn⟩
 by_cases hlt:i<xs.length
 ·obtain⟨y,hy⟩:∃y,xs[i]? =some y:=⟨_,A3 hlt⟩
  have hE:=B0p x y
  by_cases hxy:x=y
  ·have hm:x∈xs:=hxy▸A7 hy
   rw[C2 hm]
   rw[C2 hxy] at hE
   repeat' ((conv=>whnf);first|refine Nam.mk m1 ?_|refine Nam.mk hE ?_|refine sT ?_|refine sP ?_ ?_<;>intro _|refine A9 (D4 hy) ?_|fail)
   all_goals exact fI
  ·rw[B6 hxy] at hE
   repeat' ((conv=>whnf);first|refine Nam.mk m1 ?_|refine Nam.mk hE ?_|refine sT ?_|refine sP ?_ ?_<;>intro _|refine A9 (D4 hy) ?_|fail)
   all_goals(conv=>whnf)
   all_goals first|(exfalso;omega)|exact⟨i+1,wE,⟨hlt,V9 hy (λe=>hxy e.symm) hn⟩,by omega⟩
 ·rw[C7 (by omega)] at hn
  rw[B6 (λh=>hn x h rfl)]
  repeat' ((conv=>whnf);first|refine sT ?_|refine sP ?_ ?_<;>intro _|fail)
  all_goals exact fI
end Go.PM
namespace Go.PM
def wV (O:List D8) (s:D8):List D8:=if s∈O then O else O++[s]
theorem B2e {O:List D8} {s x:D8} (h:x∈O):x∈wV O s:=by
 unfold wV;split
 ·exact h
 ·exact O8 _ h
theorem B2f (O:List D8) (s:D8):s∈wV O s:=by
 unfold wV;split
 ·assumption
 ·simp
def jI (b:D7) (k:Nat) (cs:List (List Int)):List D8:=cs.foldl (λO c=>wV O ((R8 b c).getD k O5)) []
theorem HO (b:D7) (k:Nat) (cs:List (List Int)) (c:List Int):jI b k (cs++[c])=wV (jI b k cs) ((R8 b c).getD k O5):=by
 unfold jI;rw[oY];rfl
theorem NU (b:D7) (k:Nat) {x:D8}:∀(cs:List (List Int)) (O:List D8),x∈O->x∈cs.foldl (λO c=>wV O ((R8 b c).getD k O5)) O
 |[],_,h=>h
 |_::cs,_,h=>NU b k cs _ (B2e h)
theorem NV (b:D7) (k:Nat) {c:List Int}:∀(cs:List (List Int)) (O:List D8),c∈cs->(R8 b c).getD k O5∈cs.foldl (λO c=>wV O ((R8 b c).getD k O5)) O
 |d::cs,O,h=>by
  rcases J0.1 h with rfl|h
  ·exact NU b k cs _ (B2f _ _)
  ·exact NV b k cs _ h
theorem NW (b:D7) (k:Nat) (P:D8->Prop):∀(cs:List (List Int)) (O:List D8),(∀x∈O,P x)->(∀c∈cs,P ((R8 b c).getD k O5))->∀x∈cs.foldl (λO c=>wV O ((R8 b c).getD k O5)) O,P x
 |[],_,h,_=>h
 |d::cs,O,h,hc=>NW b k P cs _ (λx hx=>by
   have hx:x∈wV O ((R8 b d).getD k O5):=hx
   unfold wV at hx;split at hx
   ·exact h x hx
   ·rcases K0.1 hx with hx|hx
    ·exact h x hx
    ·rw[H9.1 hx];exact hc d (.head _)) λc hc'=>hc c (.tail _ hc')
def nF (b:D7) (c0:List Int) (k:Nat):List D8:=jI b k (cZ (G0 b) c0)
theorem HP {b:D7} {c0 c:List Int} (h:c∈cZ (G0 b) c0) (k:Nat):(R8 b c).getD k O5∈nF b c0 k:=NV b k _ _ h
theorem A8v {b:D7} {c0:List Int} {k:Nat} {P:D8->Prop} (h:∀c∈cZ (G0 b) c0,P ((R8 b c).getD k O5)):∀x∈nF b c0 k,P x:=NW b k P _ _ (λ_ hx=>by cases hx) h
def loM (O:List D8) (v p:Int):Int:=match O with
 |[]=>0
 |s::r=>r.foldl (λa o=>min a (K7 o v p)) (K7 s v p)
def hiM (O:List D8) (v p:Int):Int:=match O with
 |[]=>0
 |s::r=>r.foldl (λa o=>max a (K7 o v p)) (K7 s v p)
theorem JI (v p:Int):∀(r:List D8) (a:Int),r.foldl (λa o=>min a (K7 o v p)) a<=a/\∀s∈r,r.foldl (λa o=>min a (K7 o v p)) a<=K7 s v p
 |[],a=>⟨M7 _,λ_ h=>by cases h⟩
 |s::r,a=>by
  obtain⟨h1,h2⟩:=JI v p r (min a (K7 s v p))
  rw[dX]
  refine⟨by omega,λt ht=> ?_⟩
  rcases J0.1 ht with rfl|ht
  ·omega
  ·exact h2 t ht
theorem JJ (v p:Int):∀(r:List D8) (a:Int),a<=r.foldl (λa o=>max a (K7 o v p)) a/\∀s∈r,K7 s v p<=r.foldl (λa o=>max a (K7 o v p)) a
 |[],a=>⟨M7 _,λ_ h=>by cases h⟩
 |s::r,a=>by
  obtain⟨h1,h2⟩:=JJ v p r (max a (K7 s v p))
  rw[dX]
  refine⟨by omega,λt ht=> ?_⟩
  rcases J0.1 ht with rfl|ht
  ·omega
  ·exact h2 t ht
theorem loM_le {O:List D8} {s:D8} (h:s∈O) (v p:Int):loM O v p<=K7 s v p:=by
 cases O with
 |nil=>cases h
 |cons t r=>
  obtain⟨h1,h2⟩:=JI v p r (K7 t v p)
  rcases J0.1 h with rfl|h
  ·exact h1
  ·exact h2 s h
theorem hiM_ge {O:List D8} {s:D8} (h:s∈O) (v p:Int):K7 s v p<=hiM O v p:=by
 cases O with
 |nil=>cases h
 |cons t r=>
  obtain⟨h1,h2⟩:=JJ v p r (K7 t v p)
  rcases J0.1 h with rfl|h
  ·exact h1
  ·exact h2 s h
theorem NX (v p:Int) (A:Int):∀(r:List D8) (a z:Int),(-A<=a/\a<=A)->(-A<=z/\z<=A)->(∀s∈r,-A<=K7 s v p/\K7 s v p<=A)->
 (-A<=r.foldl (λa o=>min a (K7 o v p)) a/\r.foldl (λa o=>min a (K7 o v p)) a<=A)/\(-A<=r.foldl (λa o=>max a (K7 o v p)) z/\r.foldl (λa o=>max a (K7 o v p)) z<=A)
 |[],_,_,h1,h2,_=>⟨h1,h2⟩
 |s::r,a,z,h1,h2,h=>by
  have hs:=h s (.head _)
  exact NX v p A r (min a (K7 s v p)) (max z (K7 s v p)) (by omega) (by omega) λt ht=>h t (.tail _ ht)
theorem B3y {O:List D8} {v p A:Int} (hA:0<=A) (h:∀s∈O,-A<=K7 s v p/\K7 s v p<=A):(-A<=loM O v p/\loM O v p<=A)/\(-A<=hiM O v p/\hiM O v p<=A):=by
 cases O with
 |nil=>exact⟨⟨by show -A<=0;omega,hA⟩,⟨by show -A<=0;omega,hA⟩⟩
 |cons t r=>exact NX v p A r _ _ (h t (.head _)) (h t (.head _)) λs hs=>h s (.tail _ hs)
def iA (b:D7) (g:Nat->Int):Nat->Int
 |0=>0
 |k+1=>iA b g k+if(recAt b k).kind=6 then 0 else g k
theorem GC (b:D7) {g h:Nat->Int}:∀(n:Nat),(∀k,k<n->g k<=h k)->iA b g n<=iA b h n
 |0,_=>M7 _
 |n+1,hh=>by
  have ih:=GC b n λk hk=>hh k (by omega)
  have:=hh n (DX _)
  rw[iA,iA];split<;>omega
theorem GD (b:D7) {g:Nat->Int} {A:Int} (hA:0<=A):∀(n:Nat),(∀k,k<n->-A<=g k/\g k<=A)->-(A*n)<=iA b g n/\iA b g n<=A*n
 |0,_=>by simp[iA]
 |n+1,hh=>by
  have ih:=GD b hA n λk hk=>hh k (by omega)
  have:=hh n (DX _)
  have e:A*((n+1:Nat):Int)=A*n+A:=by rw[LA,Int.mul_add];omega
  rw[iA,e];split<;>omega
def U7 (b:D7) (c0:List Int) (n:Nat) (v p:Nat):Int:=b.op.getD v 0+iA b (λk=>loM (nF b c0 k) v p) n
def R3 (b:D7) (c0:List Int) (n:Nat) (v p:Nat):Int:=b.op.getD v 0+iA b (λk=>hiM (nF b c0 k) v p) n
def WZ (b:D7) (c0:List Int) (v p:Nat) (r:Rec):Prop:=r.kind=6/\(r.f.per=(p:Int)/\r.f.src=(v:Int))/\(r.f.amt+r.n<U7 b c0 b.recs.length v p∨r.f.amt-r.n>R3 b c0 b.recs.length v p)
def uU (b:D7) (c0:List Int) (v p:Nat):Prop:=(∃r∈b.recs,WZ b c0 v p r)∨R3 b c0 b.recs.length v p<0
noncomputable instance (b:D7) (c0:List Int) (v p:Nat):Decidable (uU b c0 v p):=Classical.propDecidable _
noncomputable def aM (b:D7) (c0:List Int):Option (Nat×Nat):=(List.range b.per.toNat).findSome? λp=>((List.range b.op.length).find? λv=>decide (uU b c0 v p)).map λv=>(v,p)
theorem JM {α:Type} {f:Nat->Option α} {n i:Nat} {x:α} (hi:i<n) (hx:f i=some x) (hn:∀j,j<i->f j=none):(List.range n).findSome? f=some x:=by
 obtain⟨m,rfl⟩:∃m,n=i+1+m:=⟨n-(i+1),by omega⟩
 rw[List.range_add,Q4,D5,List.findSome?_append,List.findSome?_eq_none_iff.2 λj hj=>hn j (K2.1 hj)]
 simp[List.findSome?_append,hx]
theorem KD {b:D7} {c0:List Int} {v p:Nat} (hv:v<b.op.length) (hp:p<b.per.toNat) (h:uU b c0 v p) (h1:∀u,u<v->¬uU b c0 u p) (h2:∀q,q<p->∀u,u<b.op.length->¬uU b c0 u q):aM b c0=some (v,p):=by
 refine JM hp ?_ λq hq=> ?_
 ·rw[show(List.range b.op.length).find? (λv=>decide (uU b c0 v p))=some v from ?_];rfl
  rw[List.find?_range_eq_some]
  exact⟨C2 h,K2.2 hv,λj hj=>by simp[h1 j hj]⟩
 ·rw[show(List.range b.op.length).find? (λv=>decide (uU b c0 v q))=none from ?_];rfl
  rw[cV]
  exact λu hu=>by simp[h2 q hq u (K2.1 hu)]
theorem A0p {b:D7} {c0:List Int} (h:∀q,q<b.per.toNat->∀u,u<b.op.length->¬uU b c0 u q):aM b c0=none:=by
 unfold aM
 rw[List.findSome?_eq_none_iff]
 intro q hq
 rw[show(List.range b.op.length).find? (λv=>decide (uU b c0 v q))=none from ?_];rfl
 rw[cV]
 exact λu hu=>by simp[h q (K2.1 hq) u (K2.1 hu)]
theorem SC {b:D7} {c0:List Int} {v p:Nat} (h:aM b c0=some (v,p)):v<b.op.length/\p<b.per.toNat/\uU b c0 v p:=by
 unfold aM at h
 obtain⟨q,hq,h⟩:=List.exists_of_findSome?_eq_some h
 obtain⟨u,hu,e⟩:=F0.1 h
 simp only[iJ] at e
 obtain⟨rfl,rfl⟩:=e
 have:=KZ hu
 exact⟨K2.1 (lC hu),K2.1 hq,G4 this⟩
def RT (q v:Int) (f:F8):Int:=if f.per=q then(if lQ f/\f.dst=v then f.amt else 0)-(if f.kind≠1/\f.src=v then f.amt else 0) else 0
def uR (v p:Int) (f:F8):Int:=if f.per>p then 0 else(if lQ f/\f.dst=v then f.amt else 0)-(if f.kind≠1/\f.src=v then f.amt else 0)
theorem pZ {l:List Int} {i:Nat} {x:Int} (v:Nat) (hi:i<l.length):(l.set i x).getD v 0=if i=v then x else l.getD v 0:=by
 simp only[A5,K5]
 by_cases h:i=v
 ·subst h;simp[hi]
 ·simp[h]
theorem A7o {q np:Int} {now:List Int} {f:F8} (hf:f.ok now.length np) (v:Nat):(dD q now f).getD v 0=now.getD v 0+RT q v f:=by
 unfold dD RT
 unfold F8.ok at hf
 obtain⟨_,_,h⟩:=hf
 by_cases hp:f.per=q
 ·rw[if_pos hp,if_pos hp]
  rcases h with⟨k,_,d,_⟩|⟨k,s,d,sd,_⟩|⟨k,s,_,_⟩|⟨k,s,_,_⟩
  ·rw[if_pos k,if_neg (show ¬(f.kind≠1/\f.src=(v:Int)) from λh=>h.1 k)]
   unfold gE
   rw[pZ v (by omega)]
   by_cases e:f.dst=(v:Int)
   ·rw[if_pos (show f.dst.toNat=v by omega),if_pos (show lQ f/\f.dst=(v:Int) from⟨.inl k,e⟩),show f.dst.toNat=v by omega];omega
   ·rw[if_neg (show ¬f.dst.toNat=v by omega),if_neg (show ¬(lQ f/\f.dst=(v:Int)) from λh=>e h.2)];omega
  ·rw[if_neg (show ¬f.kind=1 by omega),if_pos k]
   unfold kS gE
   rw[pZ v (by rw[L5];omega),pZ v (by omega),pZ f.src.toNat (by omega),if_neg (show ¬f.dst.toNat=f.src.toNat by omega)]
   by_cases e:f.dst=(v:Int)
   ·rw[if_pos (show f.dst.toNat=v by omega),if_neg (show ¬f.src.toNat=v by omega),if_pos (show lQ f/\f.dst=(v:Int) from⟨.inr k,e⟩),if_neg (show ¬(f.kind≠1/\f.src=(v:Int)) by omega),show f.dst.toNat=v by omega];omega
   ·rw[if_neg (show ¬f.dst.toNat=v by omega),if_neg (show ¬(lQ f/\f.dst=(v:Int)) from λh=>e h.2)]
    by_cases e2:f.src=(v:Int)
    ·rw[if_pos (show f.src.toNat=v by omega),if_pos (show f.kind≠1/\f.src=(v:Int) from⟨by omega,e2⟩),show f.src.toNat=v by omega];omega
    ·rw[if_neg (show ¬f.src.toNat=v by omega),if_neg (show ¬(f.kind≠1/\f.src=(v:Int)) from λh=>e2 h.2)];omega
  all_goals
   rw[if_neg (show ¬f.kind=1 by omega),if_neg (show ¬f.kind=2 by omega),if_neg (show ¬(lQ f/\f.dst=(v:Int)) from λh=>by have h1:f.kind=1∨f.kind=2:=h.1;omega)]
   unfold kS
   rw[pZ v (by omega)]
   by_cases e2:f.src=(v:Int)
   ·rw[if_pos (show f.src.toNat=v by omega),if_pos (show f.kind≠1/\f.src=(v:Int) from⟨by omega,e2⟩),show f.src.toNat=v by omega];omega
   ·rw[if_neg (show ¬f.src.toNat=v by omega),if_neg (show ¬(f.kind≠1/\f.src=(v:Int)) from λh=>e2 h.2)];omega
 ·rw[if_neg hp,if_neg hp];omega
theorem oV {q np:Int} (v:Nat):∀(fl:List F8) {now:List Int},(∀f∈fl,f.ok now.length np)->(P0 fl q now).getD v 0=now.getD v 0+(fl.map (RT q v)).sum
 |[],now,_=>by simp[P0]
 |f::fl,now,h=>by
  have h1:=A7o (q:=q) (h f (.head _)) v
  have h2:=oV (q:=q) v fl (now:=dD q now f) λg hg=>by rw[AS];exact h g (.tail _ hg)
  have:P0 (f::fl) q now=P0 fl q (dD q now f):=rfl
  rw[this,h2,h1,E8,iK];omega
theorem A0j (v p:Int) (fl:List F8):(fl.map (uR v (p+1))).sum=(fl.map (uR v p)).sum+(fl.map (RT (p+1) v)).sum:=by
 induction fl with
 |nil=>rfl
 |cons f fl ih=>
  have:uR v (p+1) f=uR v p f+RT (p+1) v f:=by
   unfold uR RT
   by_cases h1:f.per>p+1
   ·rw[if_pos h1,if_pos (show f.per>p by omega),if_neg (show ¬f.per=p+1 by omega)];rfl
   ·by_cases h2:f.per>p
    ·rw[if_neg h1,if_pos h2,if_pos (show f.per=p+1 by omega)];omega
    ·rw[if_neg h1,if_neg h2,if_neg (show ¬f.per=p+1 by omega)];omega
  rw[E8,E8,E8,iK,iK,iK,ih,this];omega
theorem JZ (v:Int) {np:Int} {nv:Nat}:∀(fl:List F8),(∀f∈fl,f.ok nv np)->(fl.map (uR v (-1))).sum=0
 |[],_=>rfl
 |f::fl,h=>by
  have:=(h f (.head _)).1.1
  rw[E8,iK,JZ v fl λg hg=>h g (.tail _ hg)]
  unfold uR;rw[if_pos (by omega)];rfl
theorem B2d {h:V8} (he:jK h=0):(W0 h).length=h.per.toNat/\∀(p v:Nat),p<h.per.toNat->v<h.op.length->
 ((W0 h).getD p []).getD v 0=h.op.getD v 0+(h.fl.map (uR v p)).sum/\0<=((W0 h).getD p []).getD v 0:=by
 have hok:=(SF he).1
 unfold jK at he
 rw[if_pos hok] at he
 have hs:(sQ h).isSome:=by
  cases hq:(sQ h).isSome with
  |true=>rfl
  |false=>rw[hq] at he;exact absurd he (by decide)
 obtain⟨acc,hacc⟩:=mA.1 hs
 have hT:W0 h=acc:=by unfold W0;rw[if_pos hok,hacc];rfl
 obtain⟨h1,h2⟩:=yV _ _ _ _ hacc
 rw[hT]
 have key:∀i,i<=h.per.toNat->((h.op::acc).getD i []).length=h.op.length/\∀v:Nat,((h.op::acc).getD i []).getD v 0=h.op.getD v 0+(h.fl.map (uR v ((i:Int)-1))).sum:=λi=>by
  induction i with
  |zero=>exact λ_=>⟨rfl,λv=>by
    have:=JZ (v:Int) h.fl hok.fl
    rw[show((0:Nat):Int)-1= -1 by omega,this]
    show h.op.getD v 0=h.op.getD v 0+0
    omega⟩
  |succ i ih=>
   intro hi
   obtain⟨l,a⟩:=ih (by omega)
   have e:=(h2 i (by omega)).2
   rw[e,cD]
   refine⟨l,λv=> ?_⟩
   rw[oV v h.fl (by rw[l];exact hok.fl),a v]
   have:=A0j v ((i:Int)-1) h.fl
   rw[show(i:Int)-1+1=i by omega] at this
   rw[show((i+1:Nat):Int)-1=i by omega,show(0:Int)+i=i by omega,this]
   omega
 refine⟨h1,λp v hp hv=> ?_⟩
 obtain⟨l,a⟩:=key (p+1) (by omega)
 have hr:(h.op::acc).getD (p+1) []=acc.getD p []:=by simp[A5]
 rw[hr] at l a
 refine⟨by rw[a v,show((p+1:Nat):Int)-1=p by omega],?_⟩
 have c:=(h2 p hp).1.1
 have e:=(h2 p hp).2
 rw[hr] at e
 rw[<-e] at c
 generalize acc.getD p []=R at c l ⊢
 refine c _ ?_
 rw[A5,A3 (by omega)]
 exact R5 _
theorem VK (v p:Int):∀(W:List D8),(((W.filter D8.live).map D8.f).map (uR v p)).sum=(W.map λs=>K7 s v p).sum
 |[]=>rfl
 |s::W=>by
  have ih:=VK v p W
  rw[E8,iK,<-ih]
  cases hl:s.live with
  |true=>
   rw[oA hl,E8,E8,iK]
   congr 1
   unfold uR K7
   rw[hl]
   by_cases h:s.f.per>p
   ·rw[if_pos h,if_pos (.inr h)]
   ·rw[if_neg h,if_neg (show ¬(true=false∨s.f.per>p) from λhh=>hh.elim (λhh=>Bool.noConfusion hh) h)]
  |false=>
   rw[DZ (by simp[hl])]
   unfold K7
   rw[if_pos (.inl hl)];omega
theorem mV {W:List D8} {j:Nat} {g:D8->D8} {i:Nat} (hg:∀s:D8,s.live=false->(g s).live=false) (h:(W.getD i O5).live=false):((modS W j g).getD i O5).live=false:=by
 unfold modS
 rw[A5,K5]
 by_cases hj:j=i
 ·subst hj
  rw[if_pos rfl]
  split
  ·exact hg _ h
  ·rfl
 ·rw[if_neg hj,<-A5];exact h
theorem B1a {W:List D8} {r:Rec} {j:Nat} {c:Int} {i:Nat} (h:(W.getD i O5).live=false):((bI W r j c).getD i O5).live=false:=by
 unfold bI
 split
 ·refine mV (λs hs=> ?_) h
  unfold tD
  dsimp only
  split
  ·rfl
  ·exact hs
 ·split
  ·exact mV (λs hs=>hs) h
  ·split
   ·split
    ·exact mV (λs _=>rfl) h
    ·exact h
   ·split
    ·split
     ·exact mV (λs _=>rfl) h
     ·exact h
    ·split
     ·split
      ·exact mV (λs hs=>hs) (mV (λs hs=>hs) h)
      ·exact h
     ·exact h
theorem WP {b:D7} {i:Nat} (hk:(recAt b i).kind=6) (hi:i<b.recs.length) (c:List Int):∀k,((I7 b c k).getD i O5).live=false
 |0=>by
  show((nX b).getD i O5).live=false
  unfold nX
  have hr:recAt b i=b.recs[i]:=by unfold recAt;rw[A5,A3 hi];rfl
  rw[A5,A8,A3 hi]
  show decide (b.recs[i].kind≠6)=false
  rw[<-hr,hk];rfl
 |k+1=>by rw[I7];exact B1a (WP hk hi c k)
theorem GB (b:D7) (G:D8->Int) (W:List D8) (h0:∀i,i<W.length->(recAt b i).kind=6->G (W.getD i O5)=0):∀n,n<=W.length->((W.take n).map G).sum=iA b (λk=>G (W.getD k O5)) n
 |0,_=>rfl
 |n+1,hn=>by
  have ih:=GB b G W h0 n (by omega)
  have hg:W[n]? =some (W.getD n O5):=by rw[A5,A3 (by omega)];rfl
  rw[D1,hg,D2,List.sum_append,ih,iA]
  by_cases hk:(recAt b n).kind=6
  ·rw[if_pos hk]
   have:=h0 n (by omega) hk
   show _+(G (W.getD n O5)+0)=_
   rw[this];rfl
  ·rw[if_neg hk];simp
theorem B0c {b:D7} {c:List Int} (he:jK (T1 b c)=0) {p v:Nat} (hp:p<b.per.toNat) (hv:v<b.op.length):
 ((W0 (T1 b c)).getD p []).getD v 0=b.op.getD v 0+iA b (λk=>K7 ((R8 b c).getD k O5) v p) b.recs.length/\0<=((W0 (T1 b c)).getD p []).getD v 0:=by
 obtain⟨_,h⟩:=B2d he
 obtain⟨h1,h2⟩:=h p v hp hv
 refine⟨?_,h2⟩
 rw[h1]
 have h3:=VK (v:Int) (p:Int) (R8 b c)
 have h4:=GB b (λs=>K7 s v p) (R8 b c) (λi hi hk=>by
  show K7 _ _ _=0
  unfold K7
  rw[if_pos (.inl (WP hk (by rw[cI] at hi;exact hi) c _))]) b.recs.length (by rw[cI];exact B1 _)
 rw[C7 (by rw[cI];exact B1 _)] at h4
 rw[<-h4,<-h3];rfl
theorem SB {b:D7} (hb:b.ok) {c0 c:List Int} {v p:Nat} (hc:c∈cZ (G0 b) c0) (hcons:Y2 b c) (hv:v<b.op.length) (hp:p<b.per.toNat):¬uU b c0 v p:=by
 obtain⟨he,hcnt⟩:=hcons
 obtain⟨h1,h2⟩:=B0c he hp hv
 have hlo:U7 b c0 b.recs.length v p<=((W0 (T1 b c)).getD p []).getD v 0:=by
  rw[h1];unfold U7
  have:=GC b (g:=λk=>loM (nF b c0 k) v p) (h:=λk=>K7 ((R8 b c).getD k O5) v p) b.recs.length λk _=>loM_le (HP hc k) v p
  omega
 have hhi:((W0 (T1 b c)).getD p []).getD v 0<=R3 b c0 b.recs.length v p:=by
  rw[h1];unfold R3
  have:=GC b (g:=λk=>K7 ((R8 b c).getD k O5) v p) (h:=λk=>hiM (nF b c0 k) v p) b.recs.length λk _=>hiM_ge (HP hc k) v p
  omega
 rintro(⟨r,hr,hk,⟨hrp,hrv⟩,hx⟩|hneg)
 ·have hq:=hcnt r hr hk
  rw[hrp,hrv,B0,B0] at hq
  omega
 ·omega
def lvL (b:D7) (c:List Int) (k:Nat):List Bool:=(I7 b c k).map D8.live
theorem QU (b:D7) (c:List Int) (k:Nat):(lvL b c k).length=b.recs.length:=by unfold lvL;rw[A6,U1]
theorem VG (b:D7) (c:List Int):lvL b c 0=b.recs.map λr=>decide (r.kind≠6):=by
 unfold lvL;rw[I7,nX,eG];rfl
theorem II {g:D8->D8} {h:Bool->Bool} (hg:∀s:D8,(g s).live=h s.live) {W:List D8} {i:Nat} (hi:i<W.length):(modS W i g).map D8.live=(W.map D8.live).set i (h ((W.map D8.live).getD i false)):=by
 unfold modS
 rw[O7,hg]
 congr 2
 rw[A5,A5,A8,A3 hi];rfl
theorem A4b {α:Type} {l:List α} {i:Nat} {x:α} (h:l[i]? =some x):l.set i x=l:=by
 obtain⟨hi,rfl⟩:=A4.1 h
 exact Z5 hi
theorem oL {g:D8->D8} (hg:∀s:D8,(g s).live=s.live) {W:List D8} {i:Nat}:(modS W i g).map D8.live=W.map D8.live:=by
 by_cases hi:i<W.length
 ·rw[II (h:=id) hg hi]
  refine A4b ?_
  rw[A5,A8,A3 hi];rfl
 ·unfold modS
  rw[AN (by omega)]
def fresh (b:D7) (W:List D8) (k:Nat):Prop:=∀j,k<=j->∀i,(N6 b)[j]? =some i->(W.getD i O5).f.amt=(recAt b i).f.amt
theorem zK {g:D8->D8} {W:List D8} {i j:Nat} (h:i≠j∨∀s:D8,(g s).f.amt=s.f.amt):((modS W i g).getD j O5).f.amt=(W.getD j O5).f.amt:=by
 unfold modS
 by_cases e:i=j
 ·subst e
  by_cases hi:i<W.length
  ·rcases h with h|h
   ·exact absurd rfl h
   ·rw[A5,G1 hi]
    exact h _
  ·rw[AN (by omega)]
 ·rw[A5,C3 e,<-A5]
theorem B4y {W:List D8} {r:Rec} {i j:Nat} {c:Int} (h:i≠j):((bI W r i c).getD j O5).f.amt=(W.getD j O5).f.amt:=by
 unfold bI ES
 (repeat' split)<;>first|rfl|exact zK (.inl h)|exact zK (g:=gone) (.inr λ_=>rfl)|exact(zK (g:=dP _) (.inr λ_=>rfl)).trans (zK (g:=dP _) (.inr λ_=>rfl))
theorem WQ {b:D7} {j k i:Nat} (h1:(N6 b)[j]? =some i) (h2:(N6 b)[k]? =some i):j=k:=by
 have hnd:(N6 b).Nodup:=by unfold N6 Y1;exact List.nodup_range.filter _
 exact(AJ (A4.1 h1).1 hnd).1 (h1.trans h2.symm)
theorem VU (b:D7) (c:List Int):∀k,fresh b (I7 b c k) k
 |0=>λj _ i hi=>by
  obtain⟨r,hr,_⟩:=mL (A7 hi)
  rw[I7,nX,A5,A8,hr]
  show r.f.amt=_
  unfold recAt;rw[A5,hr];rfl
 |k+1=>λj hj i hi=>by
  rw[I7,B4y,VU b c k j (by omega) i hi]
  intro e
  by_cases hk:k<(N6 b).length
  ·have hD:(N6 b)[k]? =some ((N6 b).getD k 0):=by rw[A5,A3 hk];rfl
   rw[e] at hD
   have:=WQ hi hD
   omega
  ·have:=(A4.1 hi).1;omega
theorem VH {b:D7} {c:List Int} {k i:Nat} {r:Rec} {x:Int} (hi:(N6 b)[k]? =some i) (hr:recAt b i=r) (hx:c.getD k 0=x) (hil:i<b.recs.length) (hol:r.kind=3∨r.kind=5->r.oth.toNat<b.recs.length):
 lvL b c (k+1)=if r.kind=1/\r.f.amt-r.n+x=0∨r.kind=4/\x=1 then(lvL b c k).set i false else if r.kind=3/\x=0 then(lvL b c k).set r.oth.toNat false else lvL b c k:=by
 have hiD:(N6 b).getD k 0=i:=by rw[A5,hi];rfl
 have hl:=U1 b c k
 have hf:=VU b c k k (B1 _) i hi
 rw[hr] at hf
 have hA:∀{α:Type} {p q:α},¬(r.kind=1/\r.f.amt-r.n+x=0∨r.kind=4/\x=1)->(if r.kind=1/\r.f.amt-r.n+x=0∨r.kind=4/\x=1 then p else q)=q:=λh=>if_neg h
 have hB:∀{α:Type} {p q:α},¬(r.kind=3/\x=0)->(if r.kind=3/\x=0 then p else q)=q:=λh=>if_neg h
 have hA':∀{α:Type} {p q:α},(r.kind=1/\r.f.amt-r.n+x=0∨r.kind=4/\x=1)->(if r.kind=1/\r.f.amt-r.n+x=0∨r.kind=4/\x=1 then p else q)=p:=λh=>if_pos h
 have hB':∀{α:Type} {p q:α},(r.kind=3/\x=0)->(if r.kind=3/\x=0 then p else q)=p:=λh=>if_pos h
 unfold lvL
 rw[I7,hiD,hr,hx]
 have hcase:r.kind=1∨r.kind=2∨r.kind=3∨r.kind=4∨r.kind=5∨(r.kind≠1/\r.kind≠2/\r.kind≠3/\r.kind≠4/\r.kind≠5):=by omega
 rcases hcase with k1|k2|k3|k4|k5|k6
 ·have e:bI (I7 b c k) r i x=modS (I7 b c k) i (tD r x):=by unfold bI;rw[if_pos k1]
  rw[e]
  by_cases hz:r.f.amt-r.n+x=0
  ·rw[hA' (.inl ⟨k1,hz⟩)]
   unfold modS tD
   rw[O7,hf,if_pos (by omega)]
  ·rw[hA (by omega),hB (by omega)]
   have:(modS (I7 b c k) i (tD r x)).map D8.live=(modS (I7 b c k) i λs=>s).map D8.live:=by
    unfold modS
    rw[O7,O7]
    congr 1
    show(if _ then false else _)=_
    rw[hf,if_neg (by omega)]
   rw[this]
   exact oL (g:=λs=>s) λ_=>rfl
 ·have e:bI (I7 b c k) r i x=modS (I7 b c k) i (LV x):=by unfold bI;rw[if_neg (by omega),if_pos k2]
  rw[e,hA (by omega),hB (by omega)]
  exact oL (g:=LV x) λ_=>rfl
 ·have e:bI (I7 b c k) r i x=if x=0 then modS (I7 b c k) r.oth.toNat gone else I7 b c k:=by unfold bI;rw[if_neg (by omega),if_neg (by omega),if_pos k3]
  rw[e,hA (by omega)]
  by_cases hz:x=0
  ·rw[hB' ⟨k3,hz⟩,if_pos hz]
   exact II (g:=gone) (h:=λ_=>false) (λ_=>rfl) (by rw[hl];exact hol (.inl k3))
  ·rw[hB (by omega),if_neg hz]
 ·have e:bI (I7 b c k) r i x=if x=1 then modS (I7 b c k) i gone else I7 b c k:=by unfold bI;rw[if_neg (by omega),if_neg (by omega),if_neg (by omega),if_pos k4]
  rw[e]
  by_cases hz:x=1
  ·rw[hA' (.inr ⟨k4,hz⟩),if_pos hz]
   exact II (g:=gone) (h:=λ_=>false) (λ_=>rfl) (by rw[hl];exact hil)
  ·rw[hA (by omega),hB (by omega),if_neg hz]
 ·have e:bI (I7 b c k) r i x=if x=1 then ES (I7 b c k) i r.oth.toNat else I7 b c k:=by unfold bI;rw[if_neg (by omega),if_neg (by omega),if_neg (by omega),if_neg (by omega),if_pos k5]
  rw[e,hA (by omega),hB (by omega)]
  split
  ·unfold ES
   exact(oL (g:=dP _) λ_=>rfl).trans (oL (g:=dP _) λ_=>rfl)
  ·rfl
 ·have e:bI (I7 b c k) r i x=I7 b c k:=by unfold bI;rw[if_neg k6.1,if_neg k6.2.1,if_neg k6.2.2.1,if_neg k6.2.2.2.1,if_neg k6.2.2.2.2]
  rw[e,hA (by omega),hB (by omega)]
def aU (b:D7) (c:List Int):List Bool:=lvL b c (N6 b).length
theorem vS (b:D7) (c:List Int):(aU b c).length=b.recs.length:=QU b c _
def AC (l:List Bool):Int:=((l.filter id).length:Int)
def Q8 (b:D7) (s:Int) (c:List Int):Int:=if s<16 then s else if(aU b c).getD (s-16).toNat false=false then -1 else 16+AC ((aU b c).take (s-16).toNat)
end Go.PM
namespace Go.PM
open Go.Proofs
theorem rB {b:D7} {s:Int} (h:s∈Z8 b):(0<=s/\s<b.op.length/\∃n,b.op[s.toNat]? =some n/\0<n)∨∃k r,s=16+((k:Nat):Int)/\b.recs[k]? =some r/\r.f.kind=1:=by
 unfold Z8 at h
 rcases K0.1 h with h|h
 ·left
  unfold sM at h
  obtain⟨i,hi,rfl⟩:=K4.1 h
  rw[bS] at hi
  have h1:=K2.1 hi.1
  have h2:=G4 hi.2
  show(0<=((i:Nat):Int)/\((i:Nat):Int)<b.op.length/\∃n,b.op[((i:Nat):Int).toNat]? =some n/\0<n)
  refine⟨by omega,by omega,b.op[i],by rw[B0];exact A3 h1,?_⟩
  rw[A5,A3 h1] at h2;exact h2
 ·right
  unfold HA at h
  obtain⟨i,hi,rfl⟩:=K4.1 h
  rw[bS] at hi
  have h1:=K2.1 hi.1
  have h2:=G4 hi.2
  refine⟨i,b.recs[i],rfl,A3 h1,?_⟩
  unfold recAt at h2
  rw[A5,A3 h1] at h2;exact h2
structure S8 where
 v:Int
 p:Int
def S8.d (s:S8):D:=.agg [I s.v,I s.p]
structure S8.ok (b:D7) (s:S8):Prop where
 v:0<=s.v/\s.v<b.op.length
 p:0<=s.p/\s.p<b.per
def preB (g:Nat->Bool) (n i:Nat):List Bool:=(List.range i).map g++List.replicate (n-i) false
theorem A8m (g:Nat->Bool) {n i:Nat} (h:i<=n):(preB g n i).length=n:=by unfold preB;simp;omega
theorem A8l {g:Nat->Bool} {n i:Nat} (h:i<n):(preB g n i).set i (g i)=preB g n (i+1):=by
 have hl:((List.range i).map g).length=i:=by simp
 obtain⟨k,hk⟩:∃k,n-i=k+1:=⟨n-i-1,by omega⟩
 unfold preB
 rw[K8 _ _ (by omega),hl,G2,hk,M1,E9,Q4,D2,D5,show n-(i+1)=k by omega];rfl
theorem A8n (b:D7) (c:List Int):preB (λi=>decide ((recAt b i).kind≠6)) b.recs.length b.recs.length=lvL b c 0:=by
 rw[VG]
 unfold preB
 rw[G2,lD,I3]
 refine L9 λi=> ?_
 rw[A8,A8]
 by_cases h:i<b.recs.length
 ·rw[F2 h,A3 h]
  show some (decide ((recAt b i).kind≠6))=some (decide (b.recs[i].kind≠6))
  have:recAt b i=b.recs[i]:=by unfold recAt;rw[A5,A3 h];rfl
  rw[this]
 ·rw[E0 (by simpa using h),E0 (by omega)];rfl
theorem OG (b:D7) (i:Nat):∀k,∃t,Y1 b (i+k)=Y1 b i++t
 |0=>⟨[],by simp⟩
 |k+1=>by
  obtain⟨t,ht⟩:=OG b i k
  refine⟨t++([i+k].filter λk=>match b.recs[k]? with
   |some r=>dbt r
   |none=>false),?_⟩
  rw[<-D5,<-ht]
  unfold Y1
  rw[<-aP,Q4,L6]
  rfl
theorem dbt_at {b:D7} {i:Nat} {r:Rec} (h:b.recs[i]? =some r) (hd:dbt r=true):(N6 b)[(Y1 b i).length]? =some i:=by
 have hi:=(A4.1 h).1
 have h1:=jW h
 rw[hd,if_pos rfl] at h1
 obtain⟨t,ht⟩:=OG b (i+1) (b.recs.length-(i+1))
 rw[show i+1+(b.recs.length-(i+1))=b.recs.length by omega,h1,D5] at ht
 have hd2:N6 b=Y1 b i++([i]++t):=ht
 rw[hd2,B3 (B1 _),G2];rfl
structure XSI where
 j:Nat
 n:Int
structure XTh where
 i:Nat
 a:Nat
 L:List D
theorem GV {L M:List Bool} {i:Nat} {x:Bool} {y:Int} (hy:y.toNat=i) (h:L.set i x=M):(L.map D.b).set (0+y.toNat) (.b x)=M.map D.b:=by rw[C1,hy,<-h,O7]
theorem GW {L:List Bool} {i:Nat} {y:Int} (hy:y.toNat=i) (h:i<L.length):∃z,(L.map D.b)[0+y.toNat]? =some (.b z):=⟨L[i],by rw[C1,hy,A8,A3 h];rfl⟩
theorem QI {L:List Bool} {i:Nat} {y:Int} (hy:y.toNat=i) (h:i<L.length):0+y.toNat<(L.map D.b).length:=by rw[C1,hy,A6];exact h
theorem DI (b:D7) (s:Int) (hs:s∈Z8 b) (h1:b.op.length<=16) (h2:b.recs.length<=64):C9 Tryz.prog 69 [.d b.d,.d (I s)] (E5 [.b true])/\C9 Tryz.prog 72 [.d b.d,.d (I s)] (E5 [.b true]):=by
 constructor
 all_goals
  have m1:(b.op.map I).length=b.op.length:=A6 _
  have m3:(b.recs.map Rec.d).length=b.recs.length:=A6 _
  rcases rB hs with⟨a1,a2,n,a3,a4⟩|⟨k,r,rfl,a2,a3⟩
  ·have g1:(b.op.map I)[s.toNat]? =some (I n):=by rw[A8,a3];rfl
   first|refine pU Tryz.func69 ?_|refine pU Tryz.func72 ?_
   repeat' ((conv=>whnf);first|refine Nam.mk m1 ?_|refine sT ?_|refine sP ?_ ?_<;>intro _|refine A9 g1 ?_|fail)
   all_goals exact fI
  ·have hk:=(A4.1 a2).1
   have g1:(b.recs.map Rec.d)[(16+((k:Nat):Int)-16).toNat]? =some r.d:=by rw[A8,show(16+((k:Nat):Int)-16).toNat=k by omega,a2];rfl
   first|refine pU Tryz.func69 ?_|refine pU Tryz.func72 ?_
   repeat' ((conv=>whnf);first|refine Nam.mk m3 ?_|refine sT ?_|refine sP ?_ ?_<;>intro _|refine A9 g1 ?_|fail)
   all_goals exact fI
theorem RE (b:D7) (s:Int) (hs:s∈Z8 b) (h1:b.op.length<=16) (h2:b.recs.length<=64):C9 Tryz.prog 69 [.d b.d,.d (I s)] (E5 [.b true]):=(DI b s hs h1 h2).1
theorem PP (b:D7) (s:Int) (hs:s∈Z8 b) (h1:b.op.length<=16) (h2:b.recs.length<=64):C9 Tryz.prog 72 [.d b.d,.d (I s)] (E5 [.b true]):=(DI b s hs h1 h2).2
theorem NJ (b:D7) (s:S8) (hs:s.ok b) (h1:b.op.length<=16):C9 Tryz.prog 119 [.d b.d,.d s.d] (E5 [.b true])/\C9 Tryz.prog 73 [.d b.d,.d s.d] (E5 [.b true]):=by
 constructor
 all_goals
  have m1:(b.op.map I).length=b.op.length:=A6 _
  have hv:=hs.v
  have hp:=hs.p
  first|refine pU Tryz.func119 ?_|refine pU Tryz.func73 ?_
  repeat' ((conv=>whnf);first|refine Nam.mk m1 ?_|refine sT ?_|refine sP ?_ ?_<;>intro _|fail)
  all_goals exact fI
theorem JF (b:D7) (s:S8) (hs:s.ok b) (h1:b.op.length<=16):C9 Tryz.prog 119 [.d b.d,.d s.d] (E5 [.b true]):=(NJ b s hs h1).1
theorem YF (b:D7) (s:S8) (hs:s.ok b) (h1:b.op.length<=16):C9 Tryz.prog 73 [.d b.d,.d s.d] (E5 [.b true]):=(NJ b s hs h1).2
theorem B0e (b:D7) (hb:b.ok) (c:List Int) (f:Bool) (hl:c.length=(N6 b).length) (hd:(N6 b).length<=8) (hcx:∀x∈c,0<=x/\x<=100):C9 Tryz.prog 215 [.d b.d,.d (.sl 1 f (c.map I))] (E5 [SL 1 ((aU b c).map D.b)])/\C9 Tryz.prog 216 [.d b.d,.d (.sl 1 f (c.map I))] (E5 [SL 1 ((aU b c).map D.b)]):=by
 constructor
 all_goals
  have hr64:=hb.r
  have m3:(b.recs.map Rec.d).length=b.recs.length:=A6 _
  obtain⟨g,hg⟩:∃g:Nat->Bool,g=λi=>decide ((recAt b i).kind≠6):=⟨_,rfl⟩
  first|refine pU Tryz.func215 ?_|refine pU Tryz.func216 ?_
  repeat' ((conv=>whnf);first|refine Nam.mk m3 ?_|refine sT ?_|refine sP ?_ ?_<;>intro _|fail)
  all_goals(conv=>whnf)
  refine lO (X:=XTh) (λx=>[(19,.d (I x.i))]) (λx=>[(1,.row 0 1 false x.L)]) (λx=>x.i<=b.recs.length/\x.L=(preB g b.recs.length x.i).map D.b) (λx=>b.recs.length-x.i) ⟨0,0,List.replicate ((b.recs.length:Nat):Int).toNat (.b false)⟩ sam rfl ⟨B9 _,by rw[B0];unfold preB;simp⟩ ?_
  rintro⟨i,a,L⟩ ⟨hi,hL⟩
  dsimp only at hi hL
  dsimp only
  by_cases hlt:i<b.recs.length
  ·obtain⟨r,hr⟩:∃r,b.recs[i]? =some r:=⟨_,A3 hlt⟩
   have hrA:recAt b i=r:=by unfold recAt;rw[A5,hr];rfl
   have hpl:=A8m g (n:=b.recs.length) (i:=i) hi
   have l1:=QI (L:=preB g b.recs.length i) (i:=i) (y:=(i:Int)) (by omega) (by omega)
   have q1:=GV (y:=(i:Int)) (by omega) (A8l (g:=g) hlt)
   obtain⟨z,gz⟩:=GW (L:=preB g b.recs.length i) (i:=i) (y:=(i:Int)) (by omega) (by omega)
   rw[<-hL] at l1 q1 gz
   by_cases hk:r.kind=6
   ·have hgi:g i=false:=by rw[hg];show decide _=_;rw[hrA,B6 (λh=>h hk)]
    rw[hgi] at q1
    repeat' ((conv=>whnf);first|refine Nam.mk m3 ?_|refine sT ?_|refine sP ?_ ?_<;>intro _|refine A9 (D4 hr) ?_|refine A9 gz ?_|refine J6 l1 q1 ?_|fail)
    all_goals(conv=>whnf)
    all_goals first|(exfalso;omega)|exact⟨⟨i+1,0,(preB g b.recs.length (i+1)).map D.b⟩,wE,⟨hlt,rfl⟩,by simp only;omega⟩
   ·have hgi:g i=true:=by rw[hg];show decide _=_;rw[hrA,C2 hk]
    rw[hgi] at q1
    repeat' ((conv=>whnf);first|refine Nam.mk m3 ?_|refine sT ?_|refine sP ?_ ?_<;>intro _|refine A9 (D4 hr) ?_|refine A9 gz ?_|refine J6 l1 q1 ?_|fail)
    all_goals(conv=>whnf)
    all_goals first|(exfalso;omega)|exact⟨⟨i+1,0,(preB g b.recs.length (i+1)).map D.b⟩,wE,⟨hlt,rfl⟩,by simp only;omega⟩
  ·obtain rfl:i=b.recs.length:=by omega
   rw[hg,A8n b c] at hL
   clear hlt hi
   repeat' ((conv=>whnf);first|refine Nam.mk m3 ?_|refine sT ?_|refine sP ?_ ?_<;>intro _|fail)
   all_goals((conv=>whnf);try exact xO)
   refine lO (X:=XTh) (λx=>[(34,.d (I x.i)),(8,.d (I x.a))]) (λx=>[(1,.row 0 1 false x.L)]) (λx=>x.i<=b.recs.length/\x.a=(Y1 b x.i).length/\x.L=(lvL b c x.a).map D.b) (λx=>b.recs.length-x.i) ⟨0,0,L⟩ sam rfl ⟨B9 _,rfl,hL⟩ ?_
   clear hL
   rintro⟨i,a,L⟩ ⟨hi,ha,hL⟩
   dsimp only at hi ha hL
   dsimp only
   by_cases hlt:i<b.recs.length
   ·obtain⟨r,hr⟩:∃r,b.recs[i]? =some r:=⟨_,A3 hlt⟩
    have hrA:recAt b i=r:=by unfold recAt;rw[A5,hr];rfl
    have hro:=hb.rs i r hr
    have hst:=jW hr
    by_cases hdb:r.kind≠0/\r.kind≠6
    ·have hdt:dbt r=true:=C2 hdb
     rw[hdt,if_pos rfl] at hst
     have hat:=dbt_at hr hdt
     rw[<-ha] at hat
     have hal:=(A4.1 hat).1
     have ha1:a+1=(Y1 b (i+1)).length:=by rw[hst,B4,<-ha];rfl
     obtain⟨x,hx⟩:∃x,c[a]? =some x:=⟨_,A3 (by omega)⟩
     have hxD:c.getD a 0=x:=by rw[A5,hx];rfl
     have hxb:=hcx x (A7 hx)
     have gc:(c.map I)[((a:Nat):Int).toNat]? =some (I x):=by rw[B0,A8,hx];rfl
     have hoth:=hro.2.1
     have hoj:r.kind=3∨r.kind=5->(0<=r.oth/\r.oth<=(b.recs.length:Int)-1):=λh=>by
      unfold jJ at hoth
      rw[if_neg (by omega)] at hoth
      exact hoth.1
     have hfo:r.f.ok b.op.length b.per:=by have:=hro.2.2;rw[if_neg hdb.2] at this;exact this
     have hfa:=hfo.2.1
     have hrn:0<=r.n/\r.n<=8:=by have:=hro.1;unfold eJ at this;split at this<;>omega
     have hkr:=hro.1.1
     have hs:=VH (b:=b) (c:=c) hat hrA hxD hlt (λh=>by have:=hoj h;omega)
     have hll:=QU b c a
     have l1:=QI (L:=lvL b c a) (i:=i) (y:=(i:Int)) (by omega) (by omega)
     obtain⟨z,gz⟩:=GW (L:=lvL b c a) (i:=i) (y:=(i:Int)) (by omega) (by omega)
     rw[<-hL] at l1 gz
     clear hoth hro
     by_cases hA:r.kind=1/\r.f.amt-r.n+x=0∨r.kind=4/\x=1
     ·rw[if_pos hA] at hs
      have q1:=GV (y:=(i:Int)) (by omega) hs.symm
      rw[<-hL] at q1
      repeat' ((conv=>whnf);first|refine Nam.mk m3 ?_|refine sT ?_|refine sP ?_ ?_<;>intro _|refine A9 (D4 hr) ?_|refine A9 gc ?_|refine A9 gz ?_|refine J6 l1 q1 ?_|fail)
      all_goals(conv=>whnf)
      all_goals first|(exfalso;omega)|exact⟨⟨i+1,a+1,(lvL b c (a+1)).map D.b⟩,wE,⟨hlt,ha1,rfl⟩,by simp only;omega⟩
     ·rw[if_neg hA] at hs
      by_cases hB:r.kind=3/\x=0
      ·have hoj:=hoj (.inl hB.1)
       rw[if_pos hB] at hs
       have l2:=QI (L:=lvL b c a) (i:=r.oth.toNat) (y:=r.oth) rfl (by omega)
       have q2:=GV (y:=r.oth) rfl hs.symm
       obtain⟨z2,gz2⟩:=GW (L:=lvL b c a) (i:=r.oth.toNat) (y:=r.oth) rfl (by omega)
       rw[<-hL] at q2 l2 gz2
       repeat' ((conv=>whnf);first|refine Nam.mk m3 ?_|refine sT ?_|refine sP ?_ ?_<;>intro _|refine A9 (D4 hr) ?_|refine A9 gc ?_|refine A9 gz2 ?_|refine J6 l2 q2 ?_|fail)
       all_goals(conv=>whnf)
       all_goals first|(exfalso;omega)|exact⟨⟨i+1,a+1,(lvL b c (a+1)).map D.b⟩,wE,⟨hlt,ha1,rfl⟩,by simp only;omega⟩
      ·rw[if_neg hB] at hs
       repeat' ((conv=>whnf);first|refine Nam.mk m3 ?_|refine sT ?_|refine sP ?_ ?_<;>intro _|refine A9 (D4 hr) ?_|refine A9 gc ?_|fail)
       all_goals(conv=>whnf)
       all_goals first|(exfalso;omega)|exact⟨⟨i+1,a+1,L⟩,wE,⟨hlt,ha1,by simp only;rw[hL,hs]⟩,by simp only;omega⟩
    ·have hdt:dbt r=false:=B6 hdb
     rw[hdt,if_neg (λh=>Bool.noConfusion h),I3] at hst
     have ha1:a=(Y1 b (i+1)).length:=by rw[hst,<-ha]
     repeat' ((conv=>whnf);first|refine Nam.mk m3 ?_|refine sT ?_|refine sP ?_ ?_<;>intro _|refine A9 (D4 hr) ?_|fail)
     all_goals(conv=>whnf)
     all_goals first|(exfalso;omega)|exact⟨⟨i+1,a,L⟩,wE,⟨hlt,ha1,hL⟩,by simp only;omega⟩
   ·obtain rfl:i=b.recs.length:=by omega
    have e:L=(aU b c).map D.b:=by rw[hL,ha];rfl
    have hel:(b.recs.length:Nat)=L.length:=by rw[e,A6,vS]
    repeat' ((conv=>whnf);first|refine sT ?_|refine sP ?_ ?_<;>intro _|fail)
    all_goals((conv=>whnf);try exact xO)
    refine Nam.mk (whole (by rw[B0];exact hel)) ?_
    conv=>whnf
    rw[e]
    exact DLe.refl _
theorem DH (b:D7) (hb:b.ok) (s:Int) (hs:s∈Z8 b) (c:List Int) (f:Bool) (hl:c.length=(N6 b).length) (hd:(N6 b).length<=8) (hcx:∀x∈c,0<=x/\x<=100):C9 Tryz.prog 201 [.d b.d,.d (I s),.d (.sl 1 f (c.map I))] (E5 [I (Q8 b s c)])/\C9 Tryz.prog 202 [.d b.d,.d (I s),.d (.sl 1 f (c.map I))] (E5 [I (Q8 b s c)]):=by
 constructor
 all_goals
  have hr64:=hb.r
  have ho16:=hb.o
  have hT:=B0e b hb c f hl hd hcx
  have hll:=vS b c
  unfold Q8
  rcases rB hs with⟨a1,a2,n,a3,a4⟩|⟨k,r,rfl,a2,a3⟩
  ·rw[if_pos (by omega)]
   first|refine pU Tryz.func201 ?_|refine pU Tryz.func202 ?_
   repeat' ((conv=>whnf);first|refine sT ?_|refine sP ?_ ?_<;>intro _|fail)
   all_goals exact fI
  ·have hk:=(A4.1 a2).1
   rw[if_neg (by omega),show(16+((k:Nat):Int)-16).toNat=k by omega]
   obtain⟨z,hz⟩:∃z,(aU b c)[k]? =some z:=⟨_,A3 (by omega)⟩
   have hzD:(aU b c).getD k false=z:=by rw[A5,hz];rfl
   have g1:((aU b c).map D.b)[(16+((k:Nat):Int)-16).toNat]? =some (.b z):=by rw[A8,show(16+((k:Nat):Int)-16).toNat=k by omega,hz];rfl
   rw[hzD]
   cases z with
   |false=>
    rw[if_pos rfl]
    first|refine pU Tryz.func201 ?_|refine pU Tryz.func202 ?_
    repeat' ((conv=>whnf);first|refine sT ?_|refine sP ?_ ?_<;>intro _|refine cA hT.1 ?_|refine cA hT.2 ?_|refine A9 g1 ?_|fail)
    all_goals exact fI
   |true=>
    rw[if_neg (λh=>Bool.noConfusion h)]
    have ek:(16+((k:Nat):Int)-16).toNat=k:=by omega
    have m5:(((aU b c).map D.b).take (16+((k:Nat):Int)-16).toNat).length=k:=by rw[ek,D0,A6];omega
    first|refine pU Tryz.func201 ?_|refine pU Tryz.func202 ?_
    repeat' ((conv=>whnf);first|refine Nam.mk m5 ?_|refine sT ?_|refine sP ?_ ?_<;>intro _|refine cA hT.1 ?_|refine cA hT.2 ?_|refine A9 g1 ?_|fail)
    all_goals((conv=>whnf);try exact xO)
    refine lO (X:=XSI) (λx=>[(29,.d (I x.j)),(9,.d (I x.n))]) (λ_=>[]) (λx=>x.j<=k/\x.n=16+AC ((aU b c).take x.j)/\(16<=x.n/\x.n<=16+x.j)) (λx=>k-x.j) ⟨0,16⟩ sam rfl ⟨B9 _,by simp[AC],by decide,by decide⟩ ?_
    rintro⟨j,n⟩ ⟨hj,hn,hn2⟩
    dsimp only at hj hn hn2
    dsimp only
    by_cases hjl:j<k
    ·obtain⟨y,hy⟩:∃y,(aU b c)[j]? =some y:=⟨_,A3 (by omega)⟩
     have g2:(((aU b c).map D.b).take (16+((k:Nat):Int)-16).toNat)[((j:Nat):Int).toNat]? =some (.b y):=by rw[ek,B0,I8 hjl,A8,hy];rfl
     have hst:(aU b c).take (j+1)=(aU b c).take j++[y]:=by rw[D1,hy];rfl
     cases y with
     |true=>
      have hn1:n+1=16+AC ((aU b c).take (j+1)):=by rw[hst,hn];unfold AC;rw[L6];simp;omega
      repeat' ((conv=>whnf);first|refine sT ?_|refine sP ?_ ?_<;>intro _|refine A9 g2 ?_|fail)
      all_goals(conv=>whnf)
      all_goals first|(exfalso;omega)|exact⟨⟨j+1,n+1⟩,wE,⟨hjl,hn1,by simp only;omega⟩,by simp only;omega⟩
     |false=>
      have hn1:n=16+AC ((aU b c).take (j+1)):=by rw[hst,hn];unfold AC;rw[L6];simp
      repeat' ((conv=>whnf);first|refine sT ?_|refine sP ?_ ?_<;>intro _|refine A9 g2 ?_|fail)
      all_goals(conv=>whnf)
      all_goals first|(exfalso;omega)|exact⟨⟨j+1,n⟩,wE,⟨hjl,hn1,by simp only;omega⟩,by simp only;omega⟩
    ·obtain rfl:j=k:=by omega
     repeat' ((conv=>whnf);first|refine sT ?_|refine sP ?_ ?_<;>intro _|fail)
     all_goals(conv=>whnf)
     all_goals first|(exfalso;omega)|(rw[hn];exact DLe.refl _)
theorem RD (b:D7) (hb:b.ok) (s:Int) (hs:s∈Z8 b) (c:List Int) (f:Bool) (hl:c.length=(N6 b).length) (hd:(N6 b).length<=8) (hcx:∀x∈c,0<=x/\x<=100):C9 Tryz.prog 201 [.d b.d,.d (I s),.d (.sl 1 f (c.map I))] (E5 [I (Q8 b s c)]):=(DH b hb s hs c f hl hd hcx).1
theorem PO (b:D7) (hb:b.ok) (s:Int) (hs:s∈Z8 b) (c:List Int) (f:Bool) (hl:c.length=(N6 b).length) (hd:(N6 b).length<=8) (hcx:∀x∈c,0<=x/\x<=100):C9 Tryz.prog 202 [.d b.d,.d (I s),.d (.sl 1 f (c.map I))] (E5 [I (Q8 b s c)]):=(DH b hb s hs c f hl hd hcx).2
theorem yZ (b:D7) (hb:b.ok) (hd:(N6 b).length<=8) (W:List D8) (hW:W.length=b.recs.length) (ver cv:Nat) (c:List Int) (hc:c.length=(N6 b).length) (hcx:∀x∈c,0<=x/\x<=100):
 let H:Hp:=[.vard b.d.cells,.var [.sref 4 ver 0 b.recs.length false],.vard [SL 1 ((N6 b).map λi=>I (i:Nat))],.vard xS,.row ver 7 false (W.map D8.d),.row cv 1 false (c.map I)]
 let H':Hp:=[.vard b.d.cells,.var [.sref 4 ver 0 b.recs.length false],.vard [SL 1 ((N6 b).map λi=>I (i:Nat))],.vard xS,.row ver 7 false ((R8 b c).map D8.d),.row cv 1 false (c.map I)]
 M4 Tryz.prog 93 [.sref 5 cv 0 c.length false,.ptr 0 0 0 0,.ptr 1 0 0 0,.ptr 2 0 0 0,.ptr 3 0 0 0] H λv h'=>okV H.length v=true/\h'.length=H.length/\h'.all (okB H.length)=true/\(v=.sref 4 ver 0 b.recs.length false/\h'=H'):=by
 intro H H'
 have hr64:=hb.r
 have m1:(b.recs.map Rec.d).length=b.recs.length:=A6 _
 have m2:((N6 b).map λi=>I (i:Nat)).length=(N6 b).length:=A6 _
 refine mI (E:=P9 Tryz.prog tt Tryz.f93.ntmps) (I6 T5 mixed) Tryz.func93 (by rfl) rfl (B5 rfl) ?_
 repeat' ((conv=>whnf);first|refine Nam.mk m1 ?_|refine sT ?_|refine sP ?_ ?_<;>intro _|fail)
 all_goals(conv=>whnf)
 refine lO (X:=Nat) (λi=>[(15,.d (I i))]) (λi=>[(4,.row ver 7 false ((pQ b W i).map D8.d))]) (λi=>i<=b.recs.length) (λi=>b.recs.length-i) 0 sam rfl (B9 _) ?_
 intro i hi
 by_cases hlt:i<b.recs.length
 ·obtain⟨r,hr⟩:∃r,b.recs[i]? =some r:=⟨_,A3 hlt⟩
  obtain⟨s,hs⟩:=VD hW hlt
  have hnx:=NF hW hr
  have g1:=X6 (x:=(i:Int)) (by omega) hs
  have l1:=iO (W:=pQ b W i) (x:=(i:Int)) (i:=i) (by omega) (by rw[IA hW hi];exact hlt)
  by_cases k6:r.kind=6
  ·have q1:((pQ b W i).map D8.d).set (0+((i:Nat):Int).toNat) (D8.d ⟨r.f,false⟩)=(pQ b W (i+1)).map D8.d:=by
    rw[bJ (i:=i) (by omega),<-hnx,B6 (λh=>h k6)]
   repeat' ((conv=>whnf);first|refine Nam.mk m1 ?_|refine sT ?_|refine sP ?_ ?_<;>intro _|refine A9 (D4 hr) ?_|refine A9 g1 ?_|refine J6 l1 q1 ?_|fail)
   all_goals(conv=>whnf)
   all_goals first|(exfalso;omega)|exact⟨i+1,wE,hlt,by omega⟩
  ·have q1:((pQ b W i).map D8.d).set (0+((i:Nat):Int).toNat) (D8.d ⟨r.f,true⟩)=(pQ b W (i+1)).map D8.d:=by
    rw[bJ (i:=i) (by omega),<-hnx,C2 k6]
   repeat' ((conv=>whnf);first|refine Nam.mk m1 ?_|refine sT ?_|refine sP ?_ ?_<;>intro _|refine A9 (D4 hr) ?_|refine A9 g1 ?_|refine J6 l1 q1 ?_|fail)
   all_goals(conv=>whnf)
   all_goals first|(exfalso;omega)|exact⟨i+1,wE,hlt,by omega⟩
 ·have hie:i=b.recs.length:=by omega
  rw[hie,VE hW]
  repeat' ((conv=>whnf);first|refine Nam.mk m2 ?_|refine sT ?_|refine sP ?_ ?_<;>intro _|fail)
  all_goals((conv=>whnf);try exact xO)
  clear hi hlt hie
  refine lO (X:=Nat) (λk=>[(32,.d (I k))]) (λk=>[(4,.row ver 7 false ((I7 b c k).map D8.d))]) (λk=>k<=(N6 b).length) (λk=>(N6 b).length-k) 0 sam rfl (B9 _) ?_
  intro k hk
  by_cases hlt:k<(N6 b).length
  ·obtain⟨i,hi⟩:∃i,(N6 b)[k]? =some i:=⟨_,A3 hlt⟩
   obtain⟨r,hr,hdb⟩:=mL (A7 hi)
   obtain⟨x,hx⟩:∃x,c[k]? =some x:=⟨_,A3 (by omega)⟩
   have hxb:=hcx x (A7 hx)
   have hil:=(A4.1 hr).1
   have hro:=hb.rs i r hr
   have hoth:=hro.2.1
   have hrn:0<=r.n/\r.n<=8:=by have:=hro.1;unfold eJ at this;split at this<;>omega
   have hkr:=hro.1.1
   have hnd:r.kind≠0/\r.kind≠6:=G4 hdb
   have hiD:(N6 b).getD k 0=i:=by rw[A5,hi];rfl
   have hxD:c.getD k 0=x:=by rw[A5,hx];rfl
   have hrA:recAt b i=r:=by unfold recAt;rw[A5,hr];rfl
   have hst:I7 b c (k+1)=bI (I7 b c k) r i x:=by rw[I7,hiD,hrA,hxD]
   have hbn:=rH hb hcx k
   have hlen:=U1 b c k
   have gk:((N6 b).map λi=>I (i:Nat))[((k:Nat):Int).toNat]? =some (I (i:Nat)):=by rw[B0,A8,hi];rfl
   have gc:(c.map I)[0+((k:Nat):Int).toNat]? =some (I x):=by rw[C1,B0,A8,hx];rfl
   have hoj:r.kind=3∨r.kind=5->(0<=r.oth/\r.oth<=(b.recs.length:Int)-1)/\r.oth≠i:=λh=>by
    unfold jJ at hoth
    rw[if_neg (by omega)] at hoth
    exact⟨hoth.1,hoth.2.1⟩
   have hcs:r.kind=1∨r.kind=2∨r.kind=3∨r.kind=4∨r.kind=5:=by omega
   clear hoth hro hdb
   rcases hcs with hk1|hk2|hk3|hk4|hk5
   ·have hA:bI (I7 b c k) r i x=modS (I7 b c k) i (tD r x):=by unfold bI;rw[if_pos hk1]
    have hR:=UO (I7 b c k) r i ver x (by omega) (λs hs=>by have:=hbn s hs;omega) (by omega) (by omega)
    dsimp only at hR
    rw[U1,<-hA,<-hst] at hR
    have gf:xS[0+r.kind.toNat*1]? =some (xT 132):=by rw[hk1];rfl
    repeat' ((conv=>whnf);first|refine Nam.mk m2 ?_|refine sT ?_|refine sP ?_ ?_<;>intro _|refine A9 gk ?_|refine A9 (D4 hr) ?_|refine A9 gc ?_|refine A9 gf ?_|refine H6.upd rfl rfl hR [4] (by decide) rfl rfl (cJ rfl rfl) ?_|refine E6.upd rfl rfl hR [4] (by decide) rfl rfl (cJ rfl rfl) ?_|fail)
    all_goals(conv=>whnf)
    all_goals first|(exfalso;omega)|exact⟨k+1,wE,hlt,by omega⟩
   ·have hA:bI (I7 b c k) r i x=modS (I7 b c k) i (LV x):=by unfold bI;rw[if_neg (by omega),if_pos hk2]
    have hR:=UN (I7 b c k) r i ver x (by omega) (λs hs=>by have:=hbn s hs;omega) (by omega)
    dsimp only at hR
    rw[U1,<-hA,<-hst] at hR
    have gf:xS[0+r.kind.toNat*1]? =some (xT 133):=by rw[hk2];rfl
    repeat' ((conv=>whnf);first|refine Nam.mk m2 ?_|refine sT ?_|refine sP ?_ ?_<;>intro _|refine A9 gk ?_|refine A9 (D4 hr) ?_|refine A9 gc ?_|refine A9 gf ?_|refine H6.upd rfl rfl hR [4] (by decide) rfl rfl (cJ rfl rfl) ?_|refine E6.upd rfl rfl hR [4] (by decide) rfl rfl (cJ rfl rfl) ?_|fail)
    all_goals(conv=>whnf)
    all_goals first|(exfalso;omega)|exact⟨k+1,wE,hlt,by omega⟩
   ·have hA:bI (I7 b c k) r i x=(if x=0 then modS (I7 b c k) r.oth.toNat gone else I7 b c k):=by unfold bI;rw[if_neg (by omega),if_neg (by omega),if_pos hk3]
    have hR:=UM (I7 b c k) r i ver x (by have:=hoj (.inl hk3);omega) (by omega)
    dsimp only at hR
    rw[U1,<-hA,<-hst] at hR
    have gf:xS[0+r.kind.toNat*1]? =some (xT 134):=by rw[hk3];rfl
    repeat' ((conv=>whnf);first|refine Nam.mk m2 ?_|refine sT ?_|refine sP ?_ ?_<;>intro _|refine A9 gk ?_|refine A9 (D4 hr) ?_|refine A9 gc ?_|refine A9 gf ?_|refine H6.upd rfl rfl hR [4] (by decide) rfl rfl (cJ rfl rfl) ?_|refine E6.upd rfl rfl hR [4] (by decide) rfl rfl (cJ rfl rfl) ?_|fail)
    all_goals(conv=>whnf)
    all_goals first|(exfalso;omega)|exact⟨k+1,wE,hlt,by omega⟩
   ·have hA:bI (I7 b c k) r i x=(if x=1 then modS (I7 b c k) i gone else I7 b c k):=by unfold bI;rw[if_neg (by omega),if_neg (by omega),if_neg (by omega),if_pos hk4]
    have hR:=UL (I7 b c k) r i ver x (by omega) (by omega)
    dsimp only at hR
    rw[U1,<-hA,<-hst] at hR
    have gf:xS[0+r.kind.toNat*1]? =some (xT 135):=by rw[hk4];rfl
    repeat' ((conv=>whnf);first|refine Nam.mk m2 ?_|refine sT ?_|refine sP ?_ ?_<;>intro _|refine A9 gk ?_|refine A9 (D4 hr) ?_|refine A9 gc ?_|refine A9 gf ?_|refine H6.upd rfl rfl hR [4] (by decide) rfl rfl (cJ rfl rfl) ?_|refine E6.upd rfl rfl hR [4] (by decide) rfl rfl (cJ rfl rfl) ?_|fail)
    all_goals(conv=>whnf)
    all_goals first|(exfalso;omega)|exact⟨k+1,wE,hlt,by omega⟩
   ·have hA:bI (I7 b c k) r i x=(if x=1 then ES (I7 b c k) i r.oth.toNat else I7 b c k):=by unfold bI;rw[if_neg (by omega),if_neg (by omega),if_neg (by omega),if_neg (by omega),if_pos hk5]
    have hR:=UK (I7 b c k) r i ver x (by omega) (by have:=hoj (.inr hk5);omega) (hoj (.inr hk5)).2 (by omega)
    dsimp only at hR
    rw[U1,<-hA,<-hst] at hR
    have gf:xS[0+r.kind.toNat*1]? =some (xT 136):=by rw[hk5];rfl
    repeat' ((conv=>whnf);first|refine Nam.mk m2 ?_|refine sT ?_|refine sP ?_ ?_<;>intro _|refine A9 gk ?_|refine A9 (D4 hr) ?_|refine A9 gc ?_|refine A9 gf ?_|refine H6.upd rfl rfl hR [4] (by decide) rfl rfl (cJ rfl rfl) ?_|refine E6.upd rfl rfl hR [4] (by decide) rfl rfl (cJ rfl rfl) ?_|fail)
    all_goals(conv=>whnf)
    all_goals first|(exfalso;omega)|exact⟨k+1,wE,hlt,by omega⟩
  ·have hke:k=(N6 b).length:=by omega
   subst hke
   repeat' ((conv=>whnf);first|refine sT ?_|refine sP ?_ ?_<;>intro _|fail)
   all_goals(conv=>whnf)
   all_goals first|(exfalso;omega)|exact⟨rfl,rfl,rfl,rfl⟩
end Go.PM

/- TopTrace: part 13 of the proof: for every input the law returns true, and its arguments read behind the call as they read before; where the library's table is as its own text lays it. -/
import Derived.Test.YtefjfjfcjihcpaaGreatDoorQ12
set_option maxRecDepth 10000
set_option maxHeartbeats 400000000
set_option linter.unusedSectionVars false
namespace Go.PM
def tab {α:Type} (f:Nat->Nat->α):List α:=(List.range 256).map λj=>f (j/16) (j%16)
theorem jZ {α:Type} (f:Nat->Nat->α):(tab f).length=256:=by unfold tab;rw[A6,M6]
theorem pD {α:Type} (f:Nat->Nat->α) (j:Nat):(tab f)[j]? =if j<256 then some (f (j/16) (j%16)) else none:=by
 unfold tab
 rw[A8]
 by_cases h:j<256
 ·rw[F2 h,if_pos h];rfl
 ·rw[E0 (by rw[M6];omega),if_neg h];rfl
theorem dm (p:Nat) {v:Nat} (hv:v<16):(p*16+v)/16=p/\(p*16+v)%16=v:=by omega
theorem A1r {α:Type} {f:Nat->Nat->α} {p v:Nat} (hp:p<16) (hv:v<16):(tab f)[p*16+v]? =some (f p v):=by
 rw[pD,if_pos (by omega),(dm p hv).1,(dm p hv).2]
theorem qW {α:Type} {f g:Nat->Nat->α} (h:∀p v,p<16->v<16->f p v=g p v):tab f=tab g:=by
 refine L9 λj=> ?_
 rw[pD,pD]
 by_cases hj:j<256
 ·rw[if_pos hj,if_pos hj,h _ _ (by omega) (by omega)]
 ·rw[if_neg hj,if_neg hj]
theorem A1q {α:Type} {f:Nat->Nat->α} {p v:Nat} (x:α) (hp:p<16) (hv:v<16):(tab f).set (p*16+v) x=tab λq u=>if q=p/\u=v then x else f q u:=by
 refine L9 λj=> ?_
 rw[K5,jZ,pD,pD]
 by_cases hj:j<256
 ·by_cases e:p*16+v=j
  ·subst e
   rw[if_pos rfl,if_pos hj,if_pos hj,if_pos (dm p hv)]
  ·rw[if_neg e,if_pos hj,if_pos hj,if_neg (by omega)]
 ·rw[if_neg (show ¬j<256 from hj),if_neg hj,if_neg (by omega)]
def opF (b:D7) (p:Nat) (q u:Nat):Int:=if q<p/\u<b.op.length then b.op.getD u 0 else 0
theorem A7e {b:D7} {p:Nat} (hp:p<16) (hn:b.op.length<=16):(tab (opF b p)).take (p*16)++b.op++(tab (opF b p)).drop (p*16+b.op.length)=tab (opF b (p+1)):=by
 have hl:((tab (opF b p)).take (p*16)).length=p*16:=by rw[D0,jZ];omega
 refine L9 λj=> ?_
 rw[pD]
 by_cases h1:j<p*16
 ·rw[D5,B8 (by omega),I8 h1,pD,if_pos (by omega),if_pos (by omega)]
  unfold opF
  have:(j/16<p/\j%16<b.op.length)↔(j/16<p+1/\j%16<b.op.length):=by omega
  simp only[this]
 ·by_cases h2:j<p*16+b.op.length
  ·rw[D5,B3 (by omega),hl,B8 (by omega),if_pos (by omega)]
   unfold opF
   have e1:j/16=p:=by omega
   have e2:j%16=j-p*16:=by omega
   rw[if_pos (by omega),e2,A5,A3 (by omega)];rfl
  ·rw[B3 (by rw[B4,hl];omega),B4,hl,J4,show p*16+b.op.length+(j-(p*16+b.op.length))=j by omega,pD]
   by_cases hj:j<256
   ·rw[if_pos hj,if_pos hj]
    unfold opF
    have:(j/16<p/\j%16<b.op.length)↔(j/16<p+1/\j%16<b.op.length):=by omega
    simp only[this]
   ·rw[if_neg hj,if_neg hj]
theorem TM (b:D7):tab (opF b 0)=List.replicate 256 0:=by
 refine L9 λj=> ?_
 rw[pD,J2]
 by_cases hj:j<256
 ·rw[if_pos hj,if_pos hj];rfl
 ·rw[if_neg hj,if_neg hj]
def spF (b:D7) (h:Nat->Nat->Nat->Int) (k p v:Nat) (q u:Nat):Int:=
 if q<b.per.toNat/\u<b.op.length then(if q<p∨q=p/\u<v then h (k+1) u q else h k u q) else 0
theorem TX {b:D7} {h:Nat->Nat->Nat->Int} (h0:∀u q,h 0 u q=b.op.getD u 0):tab (opF b b.per.toNat)=tab (spF b h 0 0 0):=qW λq u _ _=>by
 unfold opF spF
 by_cases e:q<b.per.toNat/\u<b.op.length
 ·rw[if_pos e,if_pos e,if_neg (by omega),h0]
 ·rw[if_neg e,if_neg e]
theorem A7s {b:D7} {h:Nat->Nat->Nat->Int} {k p v:Nat} (hp:p<b.per.toNat) (hv:v<b.op.length):spF b h k p v p v=h k v p:=by
 unfold spF;rw[if_pos ⟨hp,hv⟩,if_neg (by omega)]
theorem B2y {b:D7} {h:Nat->Nat->Nat->Int} {k p v:Nat} (hp:p<b.per.toNat) (hv:v<b.op.length) (hp16:b.per.toNat<=16) (hv16:b.op.length<=16):(tab (spF b h k p v)).set (p*16+v) (h (k+1) v p)=tab (spF b h k p (v+1)):=by
 rw[A1q _ (by omega) (by omega)]
 refine qW λq u _ _=> ?_
 unfold spF
 by_cases e:q=p/\u=v
 ·obtain⟨rfl,rfl⟩:=e
  rw[if_pos ⟨rfl,rfl⟩,if_pos ⟨hp,hv⟩,if_pos (by omega)]
 ·rw[if_neg e]
  have:(q<p∨q=p/\u<v)↔(q<p∨q=p/\u<v+1):=by omega
  simp only[this]
theorem A7q (b:D7) (h:Nat->Nat->Nat->Int) (k p:Nat):tab (spF b h k p b.op.length)=tab (spF b h k (p+1) 0):=qW λq u _ _=>by
 unfold spF
 by_cases e:q<b.per.toNat/\u<b.op.length
 ·have:(q<p∨q=p/\u<b.op.length)↔(q<p+1∨q=p+1/\u<0):=by omega
  simp only[this]
 ·rw[if_neg e,if_neg e]
theorem A7r (b:D7) (h:Nat->Nat->Nat->Int) (k:Nat):tab (spF b h k b.per.toNat 0)=tab (spF b h (k+1) 0 0):=qW λq u _ _=>by
 unfold spF
 by_cases e:q<b.per.toNat/\u<b.op.length
 ·rw[if_pos e,if_pos e,if_pos (by omega),if_neg (by omega)]
 ·rw[if_neg e,if_neg e]
theorem A1y {b:D7} {h:Nat->Nat->Nat->Int} {k:Nat} (hk:∀u q,h (k+1) u q=h k u q):tab (spF b h k 0 0)=tab (spF b h (k+1) 0 0):=qW λq u _ _=>by
 unfold spF
 by_cases e:q<b.per.toNat/\u<b.op.length
 ·rw[if_pos e,if_pos e,if_neg (by omega),if_neg (by omega),hk]
 ·rw[if_neg e,if_neg e]
theorem least0 (b:D7) (c0:List Int) (u q:Nat):U7 b c0 0 u q=b.op.getD u 0:=by unfold U7 iA;omega
theorem great0 (b:D7) (c0:List Int) (u q:Nat):R3 b c0 0 u q=b.op.getD u 0:=by unfold R3 iA;omega
theorem ZQ (b:D7) (c0:List Int) {k:Nat} (hk:(recAt b k).kind≠6) (u q:Nat):U7 b c0 (k+1) u q=U7 b c0 k u q+loM (nF b c0 k) u q:=by
 unfold U7;rw[iA,if_neg hk];omega
theorem ZU (b:D7) (c0:List Int) {k:Nat} (hk:(recAt b k).kind≠6) (u q:Nat):R3 b c0 (k+1) u q=R3 b c0 k u q+hiM (nF b c0 k) u q:=by
 unfold R3;rw[iA,if_neg hk];omega
theorem ZR (b:D7) (c0:List Int) {k:Nat} (hk:(recAt b k).kind=6) (u q:Nat):U7 b c0 (k+1) u q=U7 b c0 k u q:=by
 unfold U7;rw[iA,if_pos hk];omega
theorem ZV (b:D7) (c0:List Int) {k:Nat} (hk:(recAt b k).kind=6) (u q:Nat):R3 b c0 (k+1) u q=R3 b c0 k u q:=by
 unfold R3;rw[iA,if_pos hk];omega
theorem OH {s:D8} {A:Int} (hA:0<=A) (h: -A<=s.f.amt/\s.f.amt<=A) (v p:Int): -(2*A)<=K7 s v p/\K7 s v p<=2*A:=by
 unfold K7
 (repeat' split)<;>omega
theorem UU {b:D7} (hb:b.ok) (hd:(N6 b).length<=8) {c0:List Int} (hc:W7 c0 (G0 b)) (hm:∀x∈G0 b,x<=17) (k:Nat):∀s∈nF b c0 k,-100000<=s.f.amt/\s.f.amt<=4194304:=by
 refine A8v λc hcg=> ?_
 have hcb:=VS hcg hc hm
 have hB:=rH hb hcb (N6 b).length
 by_cases hk:k<(R8 b c).length
 ·have hs:(R8 b c)[k]? =some ((R8 b c).getD k O5):=by rw[A5,A3 hk];rfl
  have:=(hB _ (A7 hs)).1
  omega
 ·rw[A5,E0 (by omega)]
  show -100000<=O5.f.amt/\O5.f.amt<=4194304
  simp only[O5];omega
theorem A2j {b:D7} (hb:b.ok) (hd:(N6 b).length<=8) {c0:List Int} (hc:W7 c0 (G0 b)) (hm:∀x∈G0 b,x<=17) {n:Nat} (hn:n<=b.recs.length) (u q:Nat):
 (-1000000000<=U7 b c0 n u q/\U7 b c0 n u q<=1000000000)/\(-1000000000<=R3 b c0 n u q/\R3 b c0 n u q<=1000000000):=by
 have hr:=hb.r
 have hop:0<=b.op.getD u 0/\b.op.getD u 0<=1048576:=by
  by_cases h:u<b.op.length
  ·rw[A5,A3 h];exact hb.op _ (R5 h)
  ·rw[A5,E0 (by omega)];decide
 have key:∀k,((-8388608<=loM (nF b c0 k) u q/\loM (nF b c0 k) u q<=8388608)/\(-8388608<=hiM (nF b c0 k) u q/\hiM (nF b c0 k) u q<=8388608)):=λk=>B3y (by omega) λs hs=>by
  have:=UU hb hd hc hm k s hs
  have:=OH (A:=4194304) (s:=s) (by omega) (by omega) u q
  omega
 have h1:=GD b (A:=8388608) (by omega) n λk _=>(key k).1
 have h2:=GD b (A:=8388608) (by omega) n λk _=>(key k).2
 unfold U7 R3
 omega
def LR (b:D7) (h:Nat->Nat->Nat->Int) (q u:Nat):Int:=spF b h b.recs.length 0 0 q u
theorem QV {b:D7} {h:Nat->Nat->Nat->Int} {q u:Nat} (hq:q<b.per.toNat) (hu:u<b.op.length):LR b h q u=h b.recs.length u q:=by
 unfold LR spF;rw[if_pos ⟨hq,hu⟩,if_neg (by omega)]
instance (b:D7) (c0:List Int) (v p:Nat) (r:Rec):Decidable (WZ b c0 v p r):=by unfold WZ;infer_instance
def kZ (b:D7) (c0:List Int):Nat->Nat->Nat->Bool
 |0,_,_=>false
 |i+1,q,u=>kZ b c0 i q u||decide (WZ b c0 u q (recAt b i))
theorem OP {b:D7} {c0:List Int} {q u:Nat}:∀{n:Nat},n<=b.recs.length->(kZ b c0 n q u=true↔∃r∈b.recs.take n,WZ b c0 u q r)
 |0,_=>by simp[kZ]
 |n+1,hn=>by
  have hr:b.recs[n]? =some (recAt b n):=by unfold recAt;rw[A5,A3 (by omega)];rfl
  rw[kZ,Q6,OP (n:=n) (by omega),decide_eq_true_iff,D1,hr,P2]
  constructor
  ·rintro(⟨r,h1,h2⟩|h)
   ·exact⟨r,O8 _ h1,h2⟩
   ·exact⟨_,by simp,h⟩
  ·rintro⟨r,h1,h2⟩
   rcases K0.1 h1 with h1|h1
   ·exact .inl ⟨r,h1,h2⟩
   ·rw[H9.1 h1] at h2;exact .inr h2
theorem B1y {b:D7} {c0:List Int} {q u:Nat}:uU b c0 u q↔kZ b c0 b.recs.length q u=true∨R3 b c0 b.recs.length u q<0:=by
 rw[OP (B1 _),I5];rfl
theorem B1x (b:D7) (c0:List Int):tab (kZ b c0 0)=List.replicate 256 false:=by
 refine L9 λj=> ?_
 rw[pD,J2]
 by_cases hj:j<256
 ·rw[if_pos hj,if_pos hj];rfl
 ·rw[if_neg hj,if_neg hj]
theorem WY {b:D7} {c0:List Int} {i:Nat} (h:∀q u,¬WZ b c0 u q (recAt b i)):tab (kZ b c0 i)=tab (kZ b c0 (i+1)):=qW λq u _ _=>by
 rw[kZ,B6 (h q u),aQ]
theorem B4s {b:D7} {c0:List Int} {i p v:Nat} (hp:p<16) (hv:v<16) (h:∀q u,WZ b c0 u q (recAt b i)↔q=p/\u=v):(tab (kZ b c0 i)).set (p*16+v) true=tab (kZ b c0 (i+1)):=by
 rw[A1q _ hp hv]
 refine qW λq u _ _=> ?_
 rw[kZ]
 by_cases e:q=p/\u=v
 ·rw[if_pos e,C2 ((h q u).2 e),wI]
 ·rw[if_neg e,B6 (λhh=>e ((h q u).1 hh)),aQ]
end Go.PM
namespace Go.PM
open Go.Proofs
theorem B1d {b:D7} {p:Nat} {A:List Int} (hA:A=tab (opF b p)) (hp:p<16) (hn:b.op.length<=16):(A.map I).take (0+((p:Nat):Int).toNat*16)++(b.op.map I).flatMap D.cells++(A.map I).drop (0+((p:Nat):Int).toNat*16+(b.op.map I).length)=(tab (opF b (p+1))).map I:=by
 subst hA
 rw[C1,B0,B0o,A6,<-mB,<-List.map_drop,<-D2,<-D2,A7e hp hn]
theorem B3q {b:D7} {c0:List Int} (hm:∀x∈G0 b,1<=x) (k:Nat):∃s r,nF b c0 k=s::r:=by
 have h:=HP (A7 (JA (c0:=c0) hm)) k
 cases hO:nF b c0 k with
 |nil=>rw[hO] at h;cases h
 |cons s r=>exact⟨s,r,rfl⟩
theorem TO {A:List Int} {f:Nat->Nat->Int} {p v:Nat} {x:Int} (hA:A=tab f) (hp:p<16) (hv:v<16) (hx:f p v=x):(A.map I)[0+((p:Nat):Int).toNat*16+((v:Nat):Int).toNat*1]? =some (I x):=by
 rw[C1,B0,B0,L2,hA,A8,A1r hp hv,hx];rfl
theorem A1s {A:List Int} {f:Nat->Nat->Int} {p v:Nat} (hA:A=tab f) (hp:p<16) (hv:v<16):0+((p:Nat):Int).toNat*16+((v:Nat):Int).toNat*1<(A.map I).length:=by
 rw[A6,hA,jZ];omega
theorem TN {A:List Int} {b:D7} {h:Nat->Nat->Nat->Int} {k p v:Nat} {x:Int} (hA:A=tab (spF b h k p v)) (hp:p<b.per.toNat) (hv:v<b.op.length) (hp16:b.per.toNat<=16) (hv16:b.op.length<=16) (hx:x=h (k+1) v p):
 (A.map I).set (0+((p:Nat):Int).toNat*16+((v:Nat):Int).toNat*1) (I x)=(tab (spF b h k p (v+1))).map I:=by
 rw[C1,B0,B0,L2,hA,hx,<-B2y hp hv hp16 hv16,O7]
structure XLb where
 j:Nat
 lo:Int
 hi:Int
structure XLa where
 p:Nat
 A:List Int
 B:List Int
theorem EH (b:D7) (hb:b.ok) (hd:(N6 b).length<=8) (c0:List Int) (f1 f2:Bool) (hc:W7 c0 (G0 b)) (hm:∀x∈G0 b,1<=x/\x<=17) (hG:(cZ (G0 b) c0).length<=100000)
 (hO:∀f1 f2,C9 Tryz.prog 213 [.d b.d,.d (.sl 1 f1 ((G0 b).map I)),.d (.sl 1 f2 (c0.map I))] (E5 [SL 1 ((List.range b.recs.length).map λk=>SL 7 ((nF b c0 k).map D8.d))])):
 C9 Tryz.prog 200 [.d b.d,.d (.sl 1 f1 ((G0 b).map I)),.d (.sl 1 f2 (c0.map I))] (E5 [.agg ((tab (LR b (U7 b c0))).map I),.agg ((tab (LR b (R3 b c0))).map I)]):=by
 have hr64:=hb.r
 have ho16:=hb.o
 have hp16:=hb.p
 have m1:(b.op.map I).length=b.op.length:=A6 _
 refine pU Tryz.func200 ?_
 repeat' ((conv=>whnf);first|refine sT ?_|refine sP ?_ ?_<;>intro _|fail)
 all_goals(conv=>whnf)
 refine lO (X:=XLa) (λx=>[(20,.d (I x.p))]) (λx=>[(1,.vard (x.A.map I)),(2,.vard (x.B.map I))]) (λx=>x.p<=b.per.toNat/\x.A=tab (opF b x.p)/\x.B=tab (opF b x.p)) (λx=>b.per.toNat-x.p) ⟨0,List.replicate 256 0,List.replicate 256 0⟩ sam rfl ⟨B9 _,(TM b).symm,(TM b).symm⟩ ?_
 rintro⟨p,A,B⟩ ⟨hp,hA,hB⟩
 dsimp only at hp hA hB
 dsimp only
 by_cases hlt:p<b.per.toNat
 ·have lA:A.length=256:=by rw[hA];exact jZ _
  have lB:B.length=256:=by rw[hB];exact jZ _
  repeat' ((conv=>whnf);first|refine Nam.mk m1 ?_|refine sT ?_|refine sP ?_ ?_<;>intro _|refine Nam.mk (B1d hA (by omega) ho16) ?_|refine Nam.mk (B1d hB (by omega) ho16) ?_|fail)
  all_goals(conv=>whnf)
  all_goals exact⟨⟨p+1,tab (opF b (p+1)),tab (opF b (p+1))⟩,wE,⟨hlt,rfl,rfl⟩,by simp only;omega⟩
 ·obtain rfl:p=b.per.toNat:=by omega
  clear hlt hp
  rw[TX (least0 b c0)] at hA
  rw[TX (great0 b c0)] at hB
  have m2:((List.range b.recs.length).map λk=>SL 7 ((nF b c0 k).map D8.d)).length=b.recs.length:=by simp
  have m3:(b.recs.map Rec.d).length=b.recs.length:=A6 _
  repeat' ((conv=>whnf);first|refine Nam.mk m2 ?_|refine sT ?_|refine sP ?_ ?_<;>intro _|refine cA (hO _ _) ?_|fail)
  all_goals(conv=>whnf)
  refine lO (X:=XLa) (λx=>[(41,.d (I x.p))]) (λx=>[(1,.vard (x.A.map I)),(2,.vard (x.B.map I))]) (λx=>x.p<=b.recs.length/\x.A=tab (spF b (U7 b c0) x.p 0 0)/\x.B=tab (spF b (R3 b c0) x.p 0 0)) (λx=>b.recs.length-x.p) ⟨0,A,B⟩ sam rfl ⟨B9 _,hA,hB⟩ ?_
  clear hA hB
  rintro⟨k,A,B⟩ ⟨hk,hA,hB⟩
  dsimp only at hk hA hB
  dsimp only
  by_cases hlt:k<b.recs.length
  ·obtain⟨r,hr⟩:∃r,b.recs[k]? =some r:=⟨_,A3 hlt⟩
   have hrA:recAt b k=r:=by unfold recAt;rw[A5,hr];rfl
   have gO:((List.range b.recs.length).map λk=>SL 7 ((nF b c0 k).map D8.d))[((k:Nat):Int).toNat]? =some (SL 7 ((nF b c0 k).map D8.d)):=by rw[B0,A8,F2 hlt];rfl
   by_cases hk6:r.kind=6
   ·have e1:=A1y (b:=b) (h:=U7 b c0) (k:=k) (ZR b c0 (by rw[hrA];exact hk6))
    have e2:=A1y (b:=b) (h:=R3 b c0) (k:=k) (ZV b c0 (by rw[hrA];exact hk6))
    repeat' ((conv=>whnf);first|refine Nam.mk m3 ?_|refine sT ?_|refine sP ?_ ?_<;>intro _|refine A9 gO ?_|refine A9 (D4 hr) ?_|fail)
    all_goals(conv=>whnf)
    all_goals first|(exfalso;omega)|exact⟨⟨k+1,A,B⟩,wE,⟨hlt,hA.trans e1,hB.trans e2⟩,by simp only;omega⟩
   ·obtain⟨s,O,hOk⟩:=B3q (λx hx=>(hm x hx).1) (c0:=c0) k
    have hOl:O.length<=100000:=by
     have:=BF b k (cZ (G0 b) c0) (cZ (G0 b) c0).length
     rw[I5] at this
     have e:(jI b k (cZ (G0 b) c0)).length=O.length+1:=N8 List.length hOk
     omega
    have hoa:=UU hb hd hc (λx hx=>(hm x hx).2) k
    have hls:=ZQ b c0 (k:=k) (by rw[hrA];exact hk6)
    have hgs:=ZU b c0 (k:=k) (by rw[hrA];exact hk6)
    rw[hOk] at hls hgs hoa gO
    repeat' ((conv=>whnf);first|refine Nam.mk m3 ?_|refine sT ?_|refine sP ?_ ?_<;>intro _|refine A9 gO ?_|refine A9 (D4 hr) ?_|fail)
    all_goals((conv=>whnf);try exact xO)
    refine lO (X:=XLa) (λx=>[(55,.d (I x.p))]) (λx=>[(1,.vard (x.A.map I)),(2,.vard (x.B.map I))]) (λx=>x.p<=b.per.toNat/\x.A=tab (spF b (U7 b c0) k x.p 0)/\x.B=tab (spF b (R3 b c0) k x.p 0)) (λx=>b.per.toNat-x.p) ⟨0,A,B⟩ sam rfl ⟨B9 _,hA,hB⟩ ?_
    clear hA hB
    rintro⟨p,A,B⟩ ⟨hp,hA,hB⟩
    dsimp only at hp hA hB
    dsimp only
    by_cases hpl:p<b.per.toNat
    ·repeat' ((conv=>whnf);first|refine Nam.mk m1 ?_|refine sT ?_|refine sP ?_ ?_<;>intro _|fail)
     all_goals((conv=>whnf);try exact xO)
     refine lO (X:=XLa) (λx=>[(61,.d (I x.p))]) (λx=>[(1,.vard (x.A.map I)),(2,.vard (x.B.map I))]) (λx=>x.p<=b.op.length/\x.A=tab (spF b (U7 b c0) k p x.p)/\x.B=tab (spF b (R3 b c0) k p x.p)) (λx=>b.op.length-x.p) ⟨0,A,B⟩ sam rfl ⟨B9 _,hA,hB⟩ ?_
     clear hA hB
     rintro⟨v,A,B⟩ ⟨hv,hA,hB⟩
     dsimp only at hv hA hB
     dsimp only
     by_cases hvl:v<b.op.length
     ·have hC0:=jH s v p (by have:=hoa s (.head _);omega)
      have gs:((s::O).map D8.d)[((0:Nat):Int).toNat]? =some s.d:=rfl
      have m4:((s::O).map D8.d).length=O.length+1:=by simp
      have m5:(O.map D8.d).length=O.length:=A6 _
      repeat' ((conv=>whnf);first|refine Nam.mk m1 ?_|refine Nam.mk m4 ?_|refine Nam.mk m5 ?_|refine sT ?_|refine sP ?_ ?_<;>intro _|refine A9 gs ?_|refine cA hC0 ?_|fail)
      all_goals((conv=>whnf);try exact xO)
      have hcl:∀o∈s::O,-10000000<=K7 o v p/\K7 o v p<=10000000:=λo ho=>by
       have:=hoa o ho
       have:=OH (A:=4194304) (s:=o) (by omega) (by omega) v p
       omega
      refine lO (X:=XLb) (λx=>[(74,.d (I x.j)),(13,.d (I x.lo)),(14,.d (I x.hi))]) (λ_=>[]) (λx=>x.j<=O.length/\(x.lo=(O.take x.j).foldl (λa o=>min a (K7 o v p)) (K7 s v p)/\x.hi=(O.take x.j).foldl (λa o=>max a (K7 o v p)) (K7 s v p))/\(-10000000<=x.lo/\x.lo<=10000000)/\(-10000000<=x.hi/\x.hi<=10000000)) (λx=>O.length-x.j) ⟨0,K7 s v p,K7 s v p⟩ sam rfl ⟨B9 _,⟨rfl,rfl⟩,hcl s (.head _),hcl s (.head _)⟩ ?_
      rintro⟨j,lo,hi⟩ ⟨hj,⟨hlo,hhi⟩,hl1,hh1⟩
      dsimp only at hj hlo hhi hl1 hh1
      dsimp only
      by_cases hjl:j<O.length
      ·obtain⟨o,ho⟩:∃o,O[j]? =some o:=⟨_,A3 hjl⟩
       have hom:o∈s::O:=.tail _ (A7 ho)
       have hCo:=jH o v p (by have:=hoa o hom;omega)
       have hco:=hcl o hom
       have go:(O.map D8.d)[((j:Nat):Int).toNat]? =some o.d:=by rw[B0,A8,ho];rfl
       have n1:(if K7 o v p<lo then K7 o v p else lo)=(O.take (j+1)).foldl (λa o=>min a (K7 o v p)) (K7 s v p):=by rw[D1,ho,P2,oY,<-hlo];show _=min lo (K7 o v p);split<;>omega
       have n2:(if K7 o v p>hi then K7 o v p else hi)=(O.take (j+1)).foldl (λa o=>max a (K7 o v p)) (K7 s v p):=by rw[D1,ho,P2,oY,<-hhi];show _=max hi (K7 o v p);split<;>omega
       repeat' ((conv=>whnf);first|refine sT ?_|refine sP ?_ ?_<;>intro _|refine A9 go ?_|refine cA hCo ?_|fail)
       all_goals(conv=>whnf)
       all_goals first|(exfalso;omega)|exact⟨⟨j+1,if K7 o v p<lo then K7 o v p else lo,if K7 o v p>hi then K7 o v p else hi⟩,wE,⟨hjl,⟨n1,n2⟩,by simp only;split<;>omega,by simp only;split<;>omega⟩,by simp only;omega⟩
      ·obtain rfl:j=O.length:=by omega
       rw[I5] at hlo hhi
       have hbd:=A2j hb hd hc (λx hx=>(hm x hx).2) (n:=k) (by omega) v p
       have xl:U7 b c0 k v p+lo=U7 b c0 (k+1) v p:=by rw[hls,hlo];rfl
       have xg:R3 b c0 k v p+hi=R3 b c0 (k+1) v p:=by rw[hgs,hhi];rfl
       have gA:=TO hA (p:=p) (v:=v) (by omega) (by omega) (A7s hpl hvl)
       have gB:=TO hB (p:=p) (v:=v) (by omega) (by omega) (A7s hpl hvl)
       have lA:=A1s hA (p:=p) (v:=v) (by omega) (by omega)
       have lB:=A1s hB (p:=p) (v:=v) (by omega) (by omega)
       have qA:=TN hA hpl hvl (by omega) ho16 xl
       have qB:=TN hB hpl hvl (by omega) ho16 xg
       repeat' ((conv=>whnf);first|refine sT ?_|refine sP ?_ ?_<;>intro _|refine A9 gA ?_|refine A9 gB ?_|refine J6 lA qA ?_|refine J6 lB qB ?_|fail)
       all_goals(conv=>whnf)
       all_goals first|(exfalso;omega)|exact⟨⟨v+1,tab (spF b (U7 b c0) k p (v+1)),tab (spF b (R3 b c0) k p (v+1))⟩,wE,⟨hvl,rfl,rfl⟩,by simp only;omega⟩
     ·obtain rfl:v=b.op.length:=by omega
      repeat' ((conv=>whnf);first|refine Nam.mk m1 ?_|refine sT ?_|refine sP ?_ ?_<;>intro _|fail)
      all_goals(conv=>whnf)
      all_goals first|(exfalso;omega)|exact⟨⟨p+1,A,B⟩,wE,⟨hpl,hA.trans (A7q _ _ _ _),hB.trans (A7q _ _ _ _)⟩,by simp only;omega⟩
    ·obtain rfl:p=b.per.toNat:=by omega
     repeat' ((conv=>whnf);first|refine Nam.mk m1 ?_|refine sT ?_|refine sP ?_ ?_<;>intro _|fail)
     all_goals(conv=>whnf)
     all_goals first|(exfalso;omega)|exact⟨⟨k+1,A,B⟩,wE,⟨hlt,hA.trans (A7r _ _ _),hB.trans (A7r _ _ _)⟩,by simp only;omega⟩
  ·obtain rfl:k=b.recs.length:=by omega
   have lA:A.length=256:=by rw[hA];exact jZ _
   have lB:B.length=256:=by rw[hB];exact jZ _
   have kA:(A.map I).length=256:=by rw[A6];exact lA
   have kB:(B.map I).length=256:=by rw[A6];exact lB
   repeat' ((conv=>whnf);first|refine Nam.mk m1 ?_|refine sT ?_|refine sP ?_ ?_<;>intro _|fail)
   all_goals((conv=>whnf);try exact xO)
   have bA:Nat.beq (A.map I).length 256=true:=by rw[kA];rfl
   have bB:Nat.beq (B.map I).length 256=true:=by rw[kB];rfl
   have eA:A=tab (LR b (U7 b c0)):=hA
   have eB:B=tab (LR b (R3 b c0)):=hB
   repeat' (first|refine WW bA ?_|refine WW bB ?_|(conv=>whnf);first|refine sT ?_|refine sP ?_ ?_<;>intro _|(rw[kA];(conv=>whnf))|(rw[kB];(conv=>whnf))|fail)
   rw[eA,eB]
   exact⟨DLe.refl _,DLe.refl _,rfl⟩
noncomputable def KE (b:D7) (c0:List Int):List D:=match aM b c0 with
 |some (v,p)=>[I v,I p,.b true,I 0]
 |none=>[I 0,I 0,.b false,I 0]
theorem yW {α:Type} {g:α->D} {A:List α} {f:Nat->Nat->α} {p v:Int} {x:α} (hA:A=tab f) (hp:0<=p/\p<16) (hv:0<=v/\v<16) (hx:f p.toNat v.toNat=x):(A.map g)[0+p.toNat*16+v.toNat*1]? =some (g x):=by
 rw[C1,L2,hA,A8,A1r (by omega) (by omega),hx];rfl
theorem B3h {α:Type} {g:α->D} {A:List α} {f:Nat->Nat->α} {p v:Int} (hA:A=tab f) (hp:0<=p/\p<16) (hv:0<=v/\v<16):0+p.toNat*16+v.toNat*1<(A.map g).length:=by
 rw[A6,hA,jZ];omega
structure XBk where
 i:Nat
 X:List Bool
theorem EI (b:D7) (hw:EW b) (he:jF b=0) (c0:List Int) (f:Bool) (hc:W7 c0 (G0 b))
 (hL:∀f1 f2,C9 Tryz.prog 200 [.d b.d,.d (.sl 1 f1 ((G0 b).map I)),.d (.sl 1 f2 (c0.map I))] (E5 [.agg ((tab (LR b (U7 b c0))).map I),.agg ((tab (LR b (R3 b c0))).map I)])):
 C9 Tryz.prog 165 [.d b.d,.d (.sl 1 f (c0.map I))] (E5 (KE b c0)):=by
 obtain⟨hb,hM,hml,hd,hm⟩:=bZ he
 have hMany:=kD b hw
 rw[hM,he] at hMany
 have hc1:=hc.1
 have hr64:=hb.r
 have ho16:=hb.o
 have hp16:=hb.p
 have hBeg:=λf1 f2=>kV c0 (G0 b) f1 f2 (by omega) (by omega) (λy hy=>by have:=hm y hy;omega)
 rw[C2 hc] at hBeg
 have m1:(b.op.map I).length=b.op.length:=A6 _
 have m3:(b.recs.map Rec.d).length=b.recs.length:=A6 _
 obtain⟨A,hA⟩:∃A,A=tab (LR b (U7 b c0)):=⟨_,rfl⟩
 obtain⟨B',hB⟩:∃B',B'=tab (LR b (R3 b c0)):=⟨_,rfl⟩
 rw[<-hA,<-hB] at hL
 have kA:(A.map I).length=256:=by rw[A6,hA,jZ]
 have kB:(B'.map I).length=256:=by rw[A6,hB,jZ]
 have bA:Nat.beq (A.map I).length 256=true:=by rw[kA];rfl
 have bB:Nat.beq (B'.map I).length 256=true:=by rw[kB];rfl
 refine pU Tryz.func165 ?_
 repeat' (first|refine WW bA ?_|refine WW bB ?_|(conv=>whnf);first|refine Nam.mk m3 ?_|refine sT ?_|refine sP ?_ ?_<;>intro _|refine cA hMany ?_|refine cA (hBeg _ _) ?_|refine cA (hL _ _) ?_|(rw[kA];(conv=>whnf))|(rw[kB];(conv=>whnf))|fail)
 all_goals(conv=>whnf)
 all_goals first|(exfalso;omega)|(rename_i q;exact Bool.noConfusion (bA.symm.trans q))|(rename_i q;exact Bool.noConfusion (bB.symm.trans q))|skip
 refine lO (X:=XBk) (λx=>[(40,.d (I x.i))]) (λx=>[(3,.vard (x.X.map D.b))]) (λx=>x.i<=b.recs.length/\x.X=tab (kZ b c0 x.i)) (λx=>b.recs.length-x.i) ⟨0,List.replicate 256 false⟩ sam rfl ⟨B9 _,(B1x b c0).symm⟩ ?_
 rintro⟨i,X⟩ ⟨hi,hX⟩
 dsimp only at hi hX
 dsimp only
 by_cases hlt:i<b.recs.length
 ·obtain⟨r,hr⟩:∃r,b.recs[i]? =some r:=⟨_,A3 hlt⟩
  have hrA:recAt b i=r:=by unfold recAt;rw[A5,hr];rfl
  have hro:=hb.rs i r hr
  by_cases hk6:r.kind=6
  ·have hcO:r.f.okC b.op.length b.per:=by have:=hro.2.2;rw[if_pos hk6] at this;exact this
   unfold F8.okC at hcO
   obtain⟨_,_,_,hs,hp,ha⟩:=hcO
   have hn:0<=r.n/\r.n<=8:=by have:=hro.1.2;unfold eJ at this;rw[if_pos (.inr hk6)] at this;exact this
   have hbd:=A2j hb hd hc (λx hx=>(hm x hx).2) (n:=b.recs.length) (B1 _) r.f.src.toNat r.f.per.toNat
   have gA:=yW (g:=I) hA (p:=r.f.per) (v:=r.f.src) (by omega) (by omega) (QV (by omega) (by omega))
   have gB:=yW (g:=I) hB (p:=r.f.per) (v:=r.f.src) (by omega) (by omega) (QV (by omega) (by omega))
   have lX:=B3h (g:=D.b) hX (p:=r.f.per) (v:=r.f.src) (by omega) (by omega)
   have hbr:∀q u:Nat,WZ b c0 u q (recAt b i)->q=r.f.per.toNat/\u=r.f.src.toNat:=λq u h=>by
    rw[hrA] at h
    have h1:=h.2.1.1
    have h2:=h.2.1.2
    omega
   by_cases hcd:r.f.amt+r.n<U7 b c0 b.recs.length r.f.src.toNat r.f.per.toNat∨r.f.amt-r.n>R3 b c0 b.recs.length r.f.src.toNat r.f.per.toNat
   ·have hq:=B4s (b:=b) (c0:=c0) (i:=i) (p:=r.f.per.toNat) (v:=r.f.src.toNat) (by omega) (by omega) (λq u=>⟨hbr q u,λ⟨e1,e2⟩=>by
     rw[hrA,e1,e2];exact⟨hk6,⟨by omega,by omega⟩,hcd⟩⟩)
    have qX:(X.map D.b).set (0+r.f.per.toNat*16+r.f.src.toNat*1) (.b true)=(tab (kZ b c0 (i+1))).map D.b:=by rw[C1,L2,<-hq,hX,O7]
    repeat' ((conv=>whnf);first|refine Nam.mk m3 ?_|refine sT ?_|refine sP ?_ ?_<;>intro _|refine A9 (D4 hr) ?_|refine A9 gA ?_|refine A9 gB ?_|refine J6 lX qX ?_|fail)
    all_goals(conv=>whnf)
    all_goals first|(exfalso;omega)|exact⟨⟨i+1,tab (kZ b c0 (i+1))⟩,wE,⟨hlt,rfl⟩,by simp only;omega⟩
   ·have hq:=WY (b:=b) (c0:=c0) (i:=i) (λq u h=>by
     obtain⟨e1,e2⟩:=hbr q u h
     rw[hrA,e1,e2] at h
     exact hcd h.2.2)
    repeat' ((conv=>whnf);first|refine Nam.mk m3 ?_|refine sT ?_|refine sP ?_ ?_<;>intro _|refine A9 (D4 hr) ?_|refine A9 gA ?_|refine A9 gB ?_|fail)
    all_goals(conv=>whnf)
    all_goals first|(exfalso;omega)|exact⟨⟨i+1,X⟩,wE,⟨hlt,hX.trans hq⟩,by simp only;omega⟩
  ·have hq:=WY (b:=b) (c0:=c0) (i:=i) (λq u h=>by rw[hrA] at h;exact hk6 h.1)
   repeat' ((conv=>whnf);first|refine Nam.mk m3 ?_|refine sT ?_|refine sP ?_ ?_<;>intro _|refine A9 (D4 hr) ?_|fail)
   all_goals(conv=>whnf)
   all_goals first|(exfalso;omega)|exact⟨⟨i+1,X⟩,wE,⟨hlt,hX.trans hq⟩,by simp only;omega⟩
 ·obtain rfl:i=b.recs.length:=by omega
  clear hlt hi
  repeat' ((conv=>whnf);first|refine Nam.mk m1 ?_|refine sT ?_|refine sP ?_ ?_<;>intro _|fail)
  all_goals((conv=>whnf);try exact xO)
  refine lO (X:=Nat) (λp=>[(86,.d (I p))]) (λ_=>[]) (λp=>p<=b.per.toNat/\∀q,q<p->∀u,u<b.op.length->¬uU b c0 u q) (λp=>b.per.toNat-p) 0 sam rfl ⟨B9 _,λq hq=>by omega⟩ ?_
  rintro p ⟨hp,hnp⟩
  by_cases hpl:p<b.per.toNat
  ·repeat' ((conv=>whnf);first|refine Nam.mk m1 ?_|refine sT ?_|refine sP ?_ ?_<;>intro _|fail)
   all_goals((conv=>whnf);try exact xO)
   refine lO (X:=Nat) (λv=>[(92,.d (I v))]) (λ_=>[]) (λv=>v<=b.op.length/\∀u,u<v->¬uU b c0 u p) (λv=>b.op.length-v) 0 sam rfl ⟨B9 _,λu hu=>by omega⟩ ?_
   rintro v ⟨hv,hnv⟩
   by_cases hvl:v<b.op.length
   ·have gB:=yW (g:=I) hB (p:=(p:Nat)) (v:=(v:Nat)) (x:=R3 b c0 b.recs.length v p) (by omega) (by omega) (by rw[B0,B0];exact QV hpl hvl)
    have gX:=yW (g:=D.b) hX (p:=(p:Nat)) (v:=(v:Nat)) (x:=kZ b c0 b.recs.length p v) (by omega) (by omega) (by rw[B0,B0])
    have hbP:=B1y (b:=b) (c0:=c0) (q:=p) (u:=v)
    cases hbt:kZ b c0 b.recs.length p v with
    |true=>
     rw[hbt] at gX
     have hbad:uU b c0 v p:=hbP.2 (.inl hbt)
     have hM:=KD hvl hpl hbad hnv hnp
     have eM:KE b c0=[I v,I p,.b true,I 0]:=by unfold KE;rw[hM]
     rw[eM]
     repeat' ((conv=>whnf);first|refine sT ?_|refine sP ?_ ?_<;>intro _|refine A9 gX ?_|refine A9 gB ?_|fail)
     all_goals(conv=>whnf)
     all_goals first|(exfalso;omega)|exact⟨DLe.refl _,DLe.refl _,DLe.refl _,DLe.refl _,rfl⟩
    |false=>
     rw[hbt] at gX
     by_cases hg:R3 b c0 b.recs.length v p<0
     ·have hbad:uU b c0 v p:=hbP.2 (.inr hg)
      have hM:=KD hvl hpl hbad hnv hnp
      have eM:KE b c0=[I v,I p,.b true,I 0]:=by unfold KE;rw[hM]
      rw[eM]
      repeat' ((conv=>whnf);first|refine sT ?_|refine sP ?_ ?_<;>intro _|refine A9 gX ?_|refine A9 gB ?_|fail)
      all_goals(conv=>whnf)
      all_goals first|(exfalso;omega)|exact⟨DLe.refl _,DLe.refl _,DLe.refl _,DLe.refl _,rfl⟩
     ·have hnb:¬uU b c0 v p:=λh=>(hbP.1 h).elim (λh=>by rw[hbt] at h;cases h) hg
      repeat' ((conv=>whnf);first|refine sT ?_|refine sP ?_ ?_<;>intro _|refine A9 gX ?_|refine A9 gB ?_|fail)
      all_goals(conv=>whnf)
      all_goals first|(exfalso;omega)|exact⟨v+1,wE,⟨hvl,λu hu=>by
       by_cases e:u=v
       ·rw[e];exact hnb
       ·exact hnv u (by omega)⟩,by omega⟩
   ·obtain rfl:v=b.op.length:=by omega
    repeat' ((conv=>whnf);first|refine sT ?_|refine sP ?_ ?_<;>intro _|fail)
    all_goals(conv=>whnf)
    all_goals first|(exfalso;omega)|exact⟨p+1,wE,⟨hpl,λq hq=>by
     by_cases e:q=p
     ·rw[e];exact hnv
     ·exact hnp q (by omega)⟩,by omega⟩
  ·obtain rfl:p=b.per.toNat:=by omega
   have eM:KE b c0=[I 0,I 0,.b false,I 0]:=by unfold KE;rw[A0p hnp]
   rw[eM]
   repeat' ((conv=>whnf);first|refine sT ?_|refine sP ?_ ?_<;>intro _|fail)
   all_goals(conv=>whnf)
   all_goals first|(exfalso;omega)|exact⟨DLe.refl _,DLe.refl _,DLe.refl _,DLe.refl _,rfl⟩
theorem KG (A:List (List Int)):∀(k:Nat) (x:Int),(blocks A x k).length=k*A.length
 |0,_=>by simp[blocks]
 |k+1,x=>by rw[blocks,B4,A6,KG A k,P3];omega
theorem XK:∀(ms:List Int),(∀x∈ms,1<=x)->((jX ms).length:Int)=U6 ms
 |[],_=>rfl
 |m::ms,h=>by
  have hm:=h m (.head _)
  rw[jX,KG,U6,<-XK ms λx hx=>h x (.tail _ hx),Q5,vC (by omega)]
theorem mQ:∀(ms:List Int),(∀x∈ms,1<=x)->1<=U6 ms
 |[],_=>M7 _
 |m::ms,h=>by
  have hm:=h m (.head _)
  have ih:=mQ ms λx hx=>h x (.tail _ hx)
  have:=aZ hm ih (by decide) (by omega)
  show 1<=m*U6 ms
  omega
theorem HI:∀(ms:List Int) (k:Nat),(∀x∈ms,1<=x)->U6 (ms.drop k)<=U6 ms
 |ms,0,_=>M7 _
 |[],k+1,_=>M7 _
 |m::ms,k+1,h=>by
  have hm:=h m (.head _)
  have ih:=HI ms k λx hx=>h x (.tail _ hx)
  have hp:=mQ ms λx hx=>h x (.tail _ hx)
  have:=qT hm (show 0<=U6 ms by omega)
  show U6 (ms.drop k)<=m*U6 ms
  omega
theorem nI {b:D7} (h:jF b=0):U6 (G0 b)<=4096:=by
 unfold jF at h
 by_cases hok:b.ok
 ·rw[if_pos hok] at h
  by_cases h8:(N6 b).length>8
  ·rw[if_pos h8] at h;exact absurd h (by decide)
  ·rw[if_neg h8] at h
   by_cases hp:U6 (G0 b)>4096
   ·rw[if_pos hp] at h;exact absurd h (by decide)
   ·omega
 ·rw[if_neg hok] at h;exact absurd h (by decide)
theorem JB {b:D7} (h:jF b=0) (c0:List Int):(cZ (G0 b) c0).length<=4096:=by
 obtain⟨_,_,_,_,hm⟩:=bZ h
 unfold cZ
 rw[A6]
 have h1:=XK ((G0 b).drop c0.length) λx hx=>(hm x (aX hx)).1
 have h2:=HI (G0 b) c0.length λx hx=>(hm x hx).1
 have h3:=nI h
 omega
theorem zA (b:D7) (he:jF b=0) (h8:b.recs.length<=8) (c0:List Int) (hc:W7 c0 (G0 b)) (f1 f2:Bool):
 C9 Tryz.prog 213 [.d b.d,.d (.sl 1 f1 ((G0 b).map I)),.d (.sl 1 f2 (c0.map I))] (E5 [SL 1 ((List.range b.recs.length).map λk=>SL 7 ((nF b c0 k).map D8.d))]):=by
 obtain⟨hb,_,_,hd,hm⟩:=bZ he
 have hG:(cZ (G0 b) c0).length<=100000:=by have:=JB he c0;omega
 exact outN b hb hd _ h8 rfl c0 f1 f2 hc hm hG
theorem rG (b:D7) (hw:EW b) (he:jF b=0) (h8:b.recs.length<=8) (c0:List Int) (f:Bool) (hc:W7 c0 (G0 b)):
 C9 Tryz.prog 165 [.d b.d,.d (.sl 1 f (c0.map I))] (E5 (KE b c0)):=by
 obtain⟨hb,_,_,hd,hm⟩:=bZ he
 have hG:(cZ (G0 b) c0).length<=100000:=by have:=JB he c0;omega
 exact EI b hw he c0 f hc λf1 f2=>EH b hb hd c0 f1 f2 hc hm hG λf1 f2=>zA b he h8 c0 hc f1 f2
structure fO (b:D7):Prop where
 w:EW b
 e:jF b=0
 r8:b.recs.length<=8
 o1:0<b.op.length
 o4:b.op.length<=4
 p3:b.per<=3
def chD (c:List Int):D:=match c with
 |[]=>.sl 0 true []
 |x::c=>.sl 1 false ((x::c).map I)
theorem B1l (c:List Int):DLe (chD c) (.sl 1 false (c.map I)):=by
 cases c with
 |nil=>exact DLe.nil 0 1 true
 |cons x c=>exact DLe.refl _
theorem C9.ch {P:Program} {f:FuncId} {x:D} {c:List Int} {v:V} (h:C9 P f [.d x,.d (.sl 1 false (c.map I))] v):C9 P f [.d x,.d (chD c)] v:=C9.le (args':=[.d x,.d (.sl 1 false (c.map I))]) ⟨VLe.refl _,B1l c,rfl⟩ h
theorem C9.ch3 {P:Program} {f:FuncId} {x y:D} {c:List Int} {v:V} (h:C9 P f [.d x,.d y,.d (.sl 1 false (c.map I))] v):C9 P f [.d x,.d y,.d (chD c)] v:=C9.le (args':=[.d x,.d y,.d (.sl 1 false (c.map I))]) ⟨VLe.refl _,VLe.refl _,B1l c,rfl⟩ h
abbrev HV:D:=.sl 0 true []
def EQ (c:List Int) (v p:Int):List D:=[chD c,I 1,I v,I p,HV,I 0,HV,I 0,.b false,HV,I 0]
def rU (b:D7) (s:Int) (c:List Int) (kn:Bool):List D:=[chD c,I 0,I 0,I 0,SL 1 (b.op.map I),I b.per,SL 6 ((T1 b c).fl.map F8.d),I (Q8 b s c),.b kn,if kn then SL 1 (K1 (U3 (T1 b c) (Q8 b s c))) else HV,I 0]
noncomputable def QW (b:D7) (s:Int) (c:List Int):List D:=if Y2 b c then rU b s c false else EQ c (-1) (-1)
noncomputable def nN (b:D7) (s:Int):Nat->List Int->List (List D)
 |0,c=>match aM b c with
  |some (v,p)=>[EQ c v p]
  |none=>[QW b s c]
 |k+1,c=>match aM b c with
  |some (v,p)=>[EQ c v p]
  |none=>(List.range ((G0 b).getD c.length 0).toNat).flatMap λn=>nN b s k (c++[((n:Nat):Int)])
theorem JL {α β:Type} {f:α->List β} {q:Nat}:∀(l:List α),(∀x∈l,(f x).length<=q)->(l.flatMap f).length<=l.length*q
 |[],_=>by simp
 |x::l,h=>by
  have h1:=h x (.head _)
  have h2:=JL l λy hy=>h y (.tail _ hy)
  rw[oZ,B4,M2,P3];omega
def oG (l:List Int):Nat:=(U6 l).toNat
theorem HG {b:D7} (hm:∀x∈G0 b,1<=x/\x<=17) {i:Nat} {y:Int} (hy:(G0 b)[i]? =some y):oG ((G0 b).drop i)=y.toNat*oG ((G0 b).drop (i+1)):=by
 have hi:=(A4.1 hy).1
 have he:(G0 b)[i]=y:=(A4.1 hy).2
 have hy1:=hm y (A7 hy)
 have hp:=mQ ((G0 b).drop (i+1)) λx hx=>(hm x (aX hx)).1
 unfold oG
 rw[dM hi,he]
 show(y*U6 _).toNat=_
 rw[Int.toNat_mul (by omega) (by omega)]
theorem vN {b:D7} (hm:∀x∈G0 b,1<=x/\x<=17) (i:Nat):1<=oG ((G0 b).drop i):=by
 have hp:=mQ ((G0 b).drop i) λx hx=>(hm x (aX hx)).1
 unfold oG;omega
theorem pS {b:D7} (hm:∀x∈G0 b,1<=x/\x<=17) (s:Int):∀(k:Nat) (c:List Int),c.length+k=(G0 b).length->(nN b s k c).length<=oG ((G0 b).drop c.length)
 |0,c,hc=>by
  have:=vN hm c.length
  unfold nN
  split<;>simpa using this
 |k+1,c,hc=>by
  have h1:=vN hm c.length
  unfold nN
  split
  ·simpa using h1
  ·obtain⟨y,hy⟩:∃y,(G0 b)[c.length]? =some y:=⟨_,A3 (by omega)⟩
   have hD:(G0 b).getD c.length 0=y:=by rw[A5,hy];rfl
   rw[hD,HG hm hy]
   have:=JL (f:=λn:Nat=>nN b s k (c++[((n:Nat):Int)])) (q:=oG ((G0 b).drop (c.length+1))) (List.range y.toNat) λn _=>by
    have:=pS hm s k (c++[((n:Nat):Int)]) (by rw[B4,F1];omega)
    rw[B4,F1] at this;exact this
   rw[M6] at this;exact this
theorem nW {c m:List Int} {n:Nat} {y:Int} (hc:W7 c m) (hy:m[c.length]? =some y) (hn:(n:Int)<y):W7 (c++[(n:Int)]) m:=by
 have hl:=(A4.1 hy).1
 refine⟨by rw[B4,F1];omega,λi x z hx hz=> ?_⟩
 by_cases hi:i<c.length
 ·rw[B8 hi] at hx;exact hc.2 i x z hx hz
 ·rw[B3 (by omega)] at hx
  have hi2:i-c.length=0:=by
   have:=(A4.1 hx).1;simp at this;omega
  have hie:i=c.length:=by omega
  subst hie
  rw[G2] at hx
  simp at hx;subst hx
  rw[hy] at hz;cases hz
  omega
theorem Y0 (m:List Int):W7 [] m:=⟨B9 _,λi x y h=>by simp at h⟩
theorem qL {c m:List Int} (hc:W7 c m) (hm:∀x∈m,x<=17):∀x∈c,0<=x/\x<=100:=λx hx=>by
 obtain⟨i,hi⟩:=D9.1 hx
 have hil:=(A4.1 hi).1
 obtain⟨y,hy⟩:∃y,m[i]? =some y:=⟨_,A3 (by have:=hc.1;omega)⟩
 have:=hc.2 i x y hi hy
 have:=hm y (A7 hy)
 omega
theorem yN {b:D7} (he:jF b=0) {c:List Int} (hc:W7 c (G0 b)) (hl:c.length=(G0 b).length):iL b c=0:=by
 obtain⟨_,hM,_⟩:=bZ he
 unfold iL
 rw[if_neg (λh=>h he),hM,if_neg (λh=>h.elim (λh=>h hl) (λh=>h hc))]
end Go.PM

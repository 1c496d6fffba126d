/- TopTrace: part 12 of the proof: for every input the law returns true, and its arguments read behind the call as they read before; where the library's table is as its own text lays it. -/
import Derived.Test.YtefjfjfcjihcpaaGreatDoorQ11
set_option maxRecDepth 10000
set_option maxHeartbeats 400000000
set_option linter.unusedSectionVars false
namespace Go.PM
theorem InC.mem:∀{ms s:List Int},InC ms s->(∀m∈ms,m<=17)->∀x∈s,0<=x/\x<=100
 |[],[],_,_=>λx hx=>by cases hx
 |m::ms,y::s,h,hm=>λx hx=>by
  rcases J0.1 hx with rfl|hx
  ·have:=hm m (.head _);have:=h.1;omega
  ·exact InC.mem h.2 (λk hk=>hm k (.tail _ hk)) x hx
 |[],_::_,h,_=>by cases h
 |_::_,[],h,_=>by cases h
theorem B0h {m c0 c:List Int} (h:c∈cZ m c0) (hl:c0.length<=m.length):c.length=m.length:=by
 obtain⟨s,rfl,hs⟩:=uJ.1 h
 have:=InC.len hs
 rw[B4,this,aA];omega
theorem VS {m c0 c:List Int} (h:c∈cZ m c0) (hb:W7 c0 m) (hm:∀x∈m,x<=17):∀x∈c,0<=x/\x<=100:=by
 obtain⟨s,rfl,hs⟩:=uJ.1 h
 intro x hx
 rcases K0.1 hx with hx|hx
 ·obtain⟨i,hi⟩:=D9.1 hx
  have hil:=(A4.1 hi).1
  obtain⟨y,hy⟩:∃y,m[i]? =some y:=⟨_,A3 (by have:=hb.1;omega)⟩
  have:=hb.2 i x y hi hy
  have:=hm y (A7 hy)
  omega
 ·exact hs.mem (λk hk=>hm k (aX hk)) x hx
def Y8 (c:List Int) (j:Nat):List Int:=c.take j++List.replicate (c.length-j) 0
theorem PF {c:List Int} {j:Nat} (h:j<=c.length):(Y8 c j).length=c.length:=by
 unfold Y8;rw[B4,D0,K9];omega
theorem PH (c:List Int):Y8 c c.length=c:=by
 unfold Y8;rw[I5,G2];simp
theorem PG {c:List Int} {i j:Nat} (h:i<j) (hl:j<=c.length):(Y8 c j)[i]? =c[i]? :=by
 unfold Y8
 rw[B8 (by rw[D0];omega),I8 h]
theorem PE {c:List Int} {j:Nat} (h:j<c.length):(Y8 c (j+1)).set j 0=Y8 c j:=by
 unfold Y8
 obtain⟨x,hx⟩:∃x,c[j]? =some x:=⟨_,A3 h⟩
 have ht:(c.take j).length=j:=by rw[D0];omega
 rw[D1,hx,P2,D5,K8 _ _ (by omega),ht,G2,List.singleton_append,E9,show c.length-j=(c.length-(j+1))+1 by omega,M1]
theorem B0i {m c0 c:List Int} (hm:∀x∈m,1<=x) (hl:c0.length<=m.length) {t:Nat} (h:(cZ m c0)[t]? =some c) (hf:∀i,c0.length<=i->∀x y,c[i]? =some x->m[i]? =some y->x=y-1):(cZ m c0)[t+1]? =none:=by
 obtain⟨s,rfl,hs⟩:=uJ.1 (A7 h)
 rw[NK hm h,xX hs.len];rfl
 intro i y x _ h1 h2
 refine hf (c0.length+i) (by omega) x y (by rw[B3 (by omega),show c0.length+i-c0.length=i by omega];exact h2) ?_
 rw[J4] at h1;exact h1
theorem A4y {m c0 c:List Int} (hm:∀x∈m,1<=x) (hl:c0.length<=m.length) {t:Nat} (h:(cZ m c0)[t]? =some c) {j:Nat} {x y:Int} (hj:c0.length<=j) (hx:c[j]? =some x) (hy:m[j]? =some y) (hlt:x≠y-1)
 (hf:∀i,j<i->∀x y,c[i]? =some x->m[i]? =some y->x=y-1):(cZ m c0)[t+1]? =some ((Y8 c (j+1)).set j (x+1)):=by
 obtain⟨s,rfl,hs⟩:=uJ.1 (A7 h)
 have hsl:=hs.len
 have hjl:j<(c0++s).length:=(A4.1 hx).1
 rw[B4] at hjl
 obtain⟨k,rfl⟩:∃k,j=c0.length+k:=⟨j-c0.length,by omega⟩
 have hx':s[k]? =some x:=by rw[B3 (by omega),show c0.length+k-c0.length=k by omega] at hx;exact hx
 have hy':(m.drop c0.length)[k]? =some y:=by rw[J4];exact hy
 have hxy:=hs.at k y x hy' hx'
 rw[NK hm h,HW hsl hy' hx' (by omega) (λi y' x' hi h1 h2=>hf (c0.length+i) (by omega) x' y' (by rw[B3 (by omega),show c0.length+i-c0.length=i by omega];exact h2) (by rw[J4] at h1;exact h1))]
 simp only[Q3,W8]
 unfold Y8
 have hdl:(m.drop c0.length).length=s.length:=hsl.symm
 have ht:((c0++s).take (c0.length+k)).length=c0.length+k:=by rw[D0,B4];omega
 have hx2:(c0++s)[c0.length+k]? =some x:=hx
 rw[D1,hx2,P2,D5,K8 _ _ (by omega),ht,G2,List.singleton_append,E9,List.take_append,C7 (show c0.length<=c0.length+k by omega),show c0.length+k-c0.length=k by omega,D5,B4,hdl,show c0.length+s.length-(c0.length+k+1)=s.length-(k+1) by omega]
end Go.PM
namespace Go.PM
open Go.Proofs
theorem B1e {m:Nat} {c0:List Int} {z:D} (hz:z=I 0) (h:c0.length<=m):List.take 0 (List.replicate ((m:Nat):Int).toNat z)++c0.map I++List.drop (0+(c0.map I).length) (List.replicate ((m:Nat):Int).toNat z)=(c0++List.replicate (m-c0.length) 0).map I:=by
 subst hz
 rw[B0,A6,C1,List.take_zero,G5,List.drop_replicate,D2,M8]
theorem A4s {n v sz m:Nat} {ro full:Bool} {xs:List D} {r:List V} {h:Hp} {k:List V->Hp->Prop} (hn:h[n]? =some (.row v sz ro xs)) (hm:m=xs.length)
 (hk:O3 r (h.set n (.row v sz true xs)) λds h=>k (.d (.sl sz full xs)::ds) h):O3 (.sref n v 0 m full::r) h k:=by
 show uI (.sref n v 0 m full) h λd h=>O3 r h λds h=>k (.d d::ds) h
 unfold uI
 refine A9 hn ?_
 exact Chk.mk ⟨rfl,by omega⟩ (Nam.mk (y:=xs) (by rw[O4,hm,I5]) (vK (A4.1 hn).1 hk))
theorem H6.borW {P:Program} {f:FuncId} {n v sz m:Nat} {ro full:Bool} {d:D} {xs:List D} {h:Hp} {k:Res->Prop} {x:V} (hc:C9 P f [.d (.sl sz full xs),.d d] x) (hv:x.light=true) (hn:h[n]? =some (.row v sz ro xs)) (hm:m=xs.length) (hk:k (.keep [n] x)):H6 P f [.sref n v 0 m full,.d d] h k:=
 .ofK (BX hc hv (λh' hp=>A4s (by have:=hp 0 n rfl;simpa using this) hm ⟨rfl,VLe.refl _,VLe.refl _,rfl⟩)) hn hk
structure XOd where
 j:Nat
 z:List Int
theorem tR {z:List Int} {i:Nat} {x y:Int} (hy:y.toNat=i) (h:z[i]? =some x):(z.map I)[0+y.toNat]? =some (I x):=by rw[C1,hy,A8,h];rfl
theorem A4d {z:List Int} {i:Nat} {x y:Int} (hy:y.toNat=i) (h:z[i]? =some x):(z.map I)[y.toNat]? =some (I x):=by rw[hy,A8,h];rfl
theorem yX {z w:List Int} {i:Nat} {x y:Int} (hy:y.toNat=i) (h:z.set i x=w):(z.map I).set (0+y.toNat) (I x)=w.map I:=by rw[C1,hy,<-h,O7]
theorem QH {z:List Int} {i:Nat} {y:Int} (hy:y.toNat=i) (h:i<z.length):0+y.toNat<(z.map I).length:=by rw[C1,hy,A6];exact h
def QE (i k t:Nat):Nat:=if k<i then t+1 else t
theorem B2g (O:List D8) (s:D8):(wV O s).length<=O.length+1:=by
 unfold wV;split<;>simp
theorem BF (b:D7) (k:Nat) (cs:List (List Int)):∀t,(jI b k (cs.take t)).length<=t
 |0=>by simp[jI]
 |t+1=>by
  have ih:=BF b k cs t
  by_cases h:t<cs.length
  ·rw[D1,A3 h,P2,HO]
   have:=B2g (jI b k (cs.take t)) ((R8 b cs[t]).getD k O5)
   omega
  ·rw[C7 (by omega),<-C7 (show cs.length<=t by omega)];omega
theorem ZB {b:D7} {k:Nat} {cs:List (List Int)} {t:Nat} {c:List Int} {s:D8} {L:List D8} (hc:cs[t]? =some c) (hs:(R8 b c)[k]? =some s) (hL:L=jI b k (cs.take t)):jI b k (cs.take (t+1))=wV L s:=by
 rw[D1,hc,P2,HO,hL,A5,hs];rfl
theorem A9v {L:List D8} (h:L≠[]):∃y,L[L.length-1]? =some y/\y∈L:=by
 have:0<L.length:=lE.2 h
 exact⟨L[L.length-1],A3 (by omega),R5 _⟩
abbrev sZ {α:Type} {l:List α} {i:Nat} {x:α} (_:l[i]? =some x):Nat:=i
abbrev lit {N a:Nat} (_:a=N):Nat:=N
def hvC (v n:Nat->Nat):Nat->List V
 |0=>[]
 |k+1=>hvC v n k++[.sref (13+k) (v k) 0 (n k) false]
def hvR (v:Nat->Nat) (d:Nat->List D):Nat->List (Nat×Blk)
 |0=>[]
 |k+1=>hvR v d k++[(13+k,.row (v k) 7 false (d k))]
def hvB (v n:Nat->Nat):Nat->List (Nat×Blk)
 |0=>[]
 |k+1=>[(1,.var (hvC v n (k+1)))]
def hvD (d:Nat->List D):Nat->List D
 |0=>[]
 |k+1=>hvD d k++[.sl 7 false (d k)]
theorem B0a {d e:Nat->List D}:∀N:Nat,(∀k,k<N->d k=e k)->hvD d N=(List.range N).map λk=>.sl 7 false (e k)
 |0,_=>rfl
 |N+1,h=>by rw[hvD,B0a N λk hk=>h k (by omega),h N (by omega),Q4,D2];rfl
structure XI where
 i:Nat
 v:Nat->Nat
 n:Nat->Nat
 d:Nat->List D
structure XO where
 t:Nat
 cur:List Int
 W:List D8
 v:Nat->Nat
 n:Nat->Nat
 d:Nat->List D
theorem FA {b:D7} {cs:List (List Int)} {t K N m:Nat} {n:Nat->Nat} {d:Nat->List D} {e:List D} (hG:∀k,k<N->n k=(d k).length/\d k=(jI b k (cs.take (QE K k t))).map D8.d) (h1:m=e.length) (h2:e=(jI b K (cs.take (t+1))).map D8.d):
 ∀k,k<N->(bif Nat.beq k K then m else n k)=(bif Nat.beq k K then e else d k).length/\(bif Nat.beq k K then e else d k)=(jI b k (cs.take (QE (K+1) k t))).map D8.d:=λk hk=>by
 by_cases h:k=K
 ·subst h
  rw[kJ,show QE (k+1) k t=t+1 from if_pos (by omega)]
  exact⟨h1,h2⟩
 ·rw[show Nat.beq k K=false from(by cases e:Nat.beq k K with|true=>exact absurd (B2 e) h|false=>rfl),show QE (K+1) k t=QE K k t by unfold QE;split<;>split<;>omega]
  exact hG k hk
theorem mE {h h1:Hp} {K:Hp->Prop} (a:WkH h h1) (c:∃h2,WkH h1 h2/\K h2):∃h2,WkH h h2/\K h2:=let ⟨h2,e,d⟩:=c;⟨h2,a.trans e,d⟩
def LZ (N:Nat):Prop:=∀(b:D7) (hb:b.ok) (hd:(N6 b).length<=8) (hn:b.recs.length=N) (c0:List Int) (f1 f2:Bool) (hc:W7 c0 (G0 b)) (hm:∀x∈G0 b,1<=x/\x<=17) (hG:(cZ (G0 b) c0).length<=100000),
    C9 Tryz.prog 213 [.d b.d,.d (.sl 1 f1 ((G0 b).map I)),.d (.sl 1 f2 (c0.map I))] (E5 [SL 1 ((List.range N).map λk=>SL 7 ((nF b c0 k).map D8.d))])
theorem otS {p:Prop} (h:p:=by
 unfold LZ
 intro b hb hd hn c0 f1 f2 hc hm hG
 have hr64:=hb.r
 have ho16:=hb.o
 have hD:=iS b ⟨by omega,by omega⟩
 have m1:=(A6 Rec.d).trans hn
 have m4:((G0 b).map I).length=(G0 b).length:=A6 _
 have m5:(c0.map I).length=c0.length:=A6 _
 have hml:(G0 b).length=(N6 b).length:=A6 _
 have ck1:(0:Int)<=((G0 b).length:Nat)/\(((G0 b).length:Nat):Int)<=((G0 b).length:Nat)/\(((G0 b).length:Nat):Int)<=room:=by simp[room];omega
 refine pUH Tryz.func213 ?_
 repeat' ((conv=>whnf);first|refine Nam.mk m1 ?_|refine Nam.mk m4 ?_|refine Chk.mk ck1 ?_|refine sT ?_|refine sP ?_ ?_<;>intro _|refine Alt.r ?_|refine bO Tryz.func55 ?_|refine cA pM ?_|refine cA hD ?_|refine bO Tryz.func219 ?_|refine rA Tryz.func221 ?_|fail)
 all_goals(conv=>whnf)
 refine Chk.mk ⟨rfl,by simp,by simp;exact hc.1⟩ ?_
 conv=>whnf
 refine Nam.mk (B1e rfl hc.1) ?_
 repeat' ((conv=>whnf);first|refine Nam.mk m1 ?_|refine Nam.mk m4 ?_|refine sT ?_|refine sP ?_ ?_<;>intro _|fail)
 all_goals(conv=>whnf)
 (try(refine L3.virtC 1 0 0 7 false (by decide) rfl rfl ?_;(conv=>whnf)))
 (try(refine L3.virtV 1 1 0 7 false (by decide) rfl rfl ?_;(conv=>whnf)))
 (try(refine L3.virtV 1 2 0 7 false (by decide) rfl rfl ?_;(conv=>whnf)))
 (try(refine L3.virtV 1 3 0 7 false (by decide) rfl rfl ?_;(conv=>whnf)))
 (try(refine L3.virtV 1 4 0 7 false (by decide) rfl rfl ?_;(conv=>whnf)))
 (try(refine L3.virtV 1 5 0 7 false (by decide) rfl rfl ?_;(conv=>whnf)))
 (try(refine L3.virtV 1 6 0 7 false (by decide) rfl rfl ?_;(conv=>whnf)))
 (try(refine L3.virtV 1 7 0 7 false (by decide) rfl rfl ?_;(conv=>whnf)))
 try simp only[J3,over,E9,H4,P4,H8,E8,L4,G5,I1,hvC,hvR,hvB,Nat.reduceAdd]
 refine lY 11 Tryz.f213.ntmps (X:=XO) (λ_=>[]) (λx=>hvB x.v x.n (lit hn)++[(7,.row 0 7 false (x.W.map D8.d)),(12,.row 0 1 false (x.cur.map I))]++hvR x.v x.d (lit hn))
  (λx=>((cZ (G0 b) c0)[x.t]? =some x.cur/\x.W.length=lit hn)/\∀k,k<lit hn->x.n k=(x.d k).length/\x.d k=(jI b k ((cZ (G0 b) c0).take x.t)).map D8.d)
  (λx=>(cZ (G0 b) c0).length-x.t) ⟨0,c0++List.replicate ((G0 b).length-c0.length) 0,List.replicate (lit hn) O5,λ_=>0,λ_=>0,λ_=>[]⟩ sam rfl ⟨⟨JA λx hx=>(hm x hx).1,rfl⟩,λk hk=>⟨rfl,rfl⟩⟩ ?_
 rintro⟨t,cur,W,v,n,d⟩ ⟨⟨hcur,hW⟩,hO⟩
 dsimp only[lit] at hcur hW hO
 try simp only[J3,over,E9,H4,P4,H8,E8,L4,G5,I1,hvC,hvR,hvB,Nat.reduceAdd,lit]
 have hin:=A7 hcur
 have hcl:=B0h hin hc.1
 have hcb:=VS hin hc λx hx=>(hm x hx).2
 have hcI:cur.length=((G0 b).length:Int).toNat:=by omega
 have hR:=yZ b hb hd W (by omega) 0 0 cur (by omega) hcb
 dsimp only at hR
 rw[hcI,hn] at hR
 repeat' ((conv=>whnf);first|refine sT ?_|refine sP ?_ ?_<;>intro _|fail)
 all_goals(conv=>whnf)
 refine E6.updV rfl rfl hR [4,8,6,5,7,12] (by decide) rfl rfl aN ?_
 ·rintro _ _ ⟨rfl,rfl⟩ _
  clear hR
  try simp only[J3,over,E9,H4,P4,H8,E8,L4,G5,I1,hvC,hvR,hvB,Nat.reduceAdd,lit]
  repeat' ((conv=>whnf);first|refine sT ?_|refine sP ?_ ?_<;>intro _|fail)
  all_goals(conv=>whnf)
  have htG:t<(cZ (G0 b) c0).length:=(A4.1 hcur).1
  refine lOE (X:=XI) (λx=>[(27,.d (I x.i))]) (λx=>hvB x.v x.n (lit hn)++hvR x.v x.d (lit hn))
   (λx=>x.i<=lit hn/\∀k,k<lit hn->x.n k=(x.d k).length/\x.d k=(jI b k ((cZ (G0 b) c0).take (QE x.i k t))).map D8.d)
   (λx=>lit hn-x.i) ⟨0,v,n,d⟩ sam rfl ⟨B9 _,hO⟩ (λy=>⟨rfl,rfl⟩) ?_
  clear hO
  rintro⟨i,v,n,d⟩ ⟨hi,hO⟩
  dsimp only[lit] at hi hO
  try simp only[J3,over,E9,H4,P4,H8,E8,L4,G5,I1,hvC,hvR,hvB,Nat.reduceAdd,lit]
  by_cases hlt:i<lit hn
  ·have hlr:=cI b cur
   dsimp only[lit] at hlt
   have hcase:i=0∨i=1∨i=2∨i=3∨i=4∨i=5∨i=6∨i=7:=by omega
   obtain⟨s,hs⟩:∃s,(R8 b cur)[i]? =some s:=⟨_,A3 (by omega)⟩
   have gs:=A4a hs
   obtain⟨L,hL⟩:∃L,L=jI b i ((cZ (G0 b) c0).take t):=⟨_,rfl⟩
   have hL':=ZB hcur hs hL
   have hLl:=BF b i (cZ (G0 b) c0) t
   rw[<-hL] at hLl
   have hdK:d i=L.map D8.d:=by rw[hL,(hO i hlt).2,show QE i i t=t from if_neg (cO _)]
   have hnL:n i=L.length:=by rw[(hO i hlt).1,hdK,A6]
   have m7:(L.map D8.d).length=L.length:=A6 _
   have hC:=BQ L s false (by omega)
   have ck2:0+L.length=(L.map D8.d).length:=by omega
   have ck3:L.length+1<=room:=by simp[room];omega
   have yes:s∈L->L.map D8.d=(jI b i ((cZ (G0 b) c0).take (t+1))).map D8.d:=λh=>by rw[hL'];unfold wV;rw[if_pos h]
   have no:¬s∈L->L.map D8.d++[s.d]=(jI b i ((cZ (G0 b) c0).take (t+1))).map D8.d:=λh=>by rw[hL'];unfold wV;rw[if_neg h,D2];rfl
   have m8:L.length+1=(L.map D8.d++[s.d]).length:=by rw[B4,m7];rfl
   have hpos:s∈L->0<L.length:=λh=>List.length_pos_of_mem h
   clear hL' hL
   rcases hcase with rfl|rfl|rfl|rfl|rfl|rfl|rfl|rfl
   all_goals first|(exfalso;omega)|skip
   all_goals
    rw[hdK,hnL]
    repeat' ((conv=>whnf);first|refine sT ?_|refine sP ?_ ?_<;>intro _|refine A9 gs ?_|refine H6.borW hC rfl rfl m7.symm ?_|refine Chk.mk ⟨rfl,ck2,ck3⟩ ?_|fail)
    ·rename_i hz
     obtain⟨y,hy,hyL⟩:=A9v (L:=L) (λe=>by rw[e] at hz;exact absurd hz (by decide))
     have gy:=X6 (x:=(L.length:Int)-1) (by omega) hy
     have hE:=B0p y s
     repeat' ((conv=>whnf);first|refine Nam.dec hE (λ_=> ?_) (λ_=> ?_)|refine sT ?_|refine sP ?_ ?_<;>intro _|refine A9 gy ?_|refine A9 gs ?_|refine H6.borW hC rfl rfl m7.symm ?_|refine Chk.mk ⟨rfl,ck2,ck3⟩ ?_|fail)
     all_goals(conv=>whnf)
     all_goals first
      |(have hx:s∈L:=by(rename_i hq;exact hq▸hyL)
        exact⟨⟨sZ hs+1,λk=>v k,λk=>bif Nat.beq k (sZ hs) then L.length else n k,λk=>bif Nat.beq k (sZ hs) then L.map D8.d else d k⟩,⟨sam,rfl⟩,⟨hlt,FA hO m7.symm (yes hx)⟩,by simp only[lit,sZ];omega⟩)
      |(have hx:s∈L:=G4 (by assumption)
        exact⟨⟨sZ hs+1,λk=>v k,λk=>bif Nat.beq k (sZ hs) then L.length else n k,λk=>bif Nat.beq k (sZ hs) then L.map D8.d else d k⟩,⟨sam,rfl⟩,⟨hlt,FA hO m7.symm (yes hx)⟩,by simp only[lit,sZ];omega⟩)
      |(have hx:¬s∈L:=X5 (by assumption)
        exact⟨⟨sZ hs+1,λk=>bif Nat.beq k (sZ hs) then v k+1 else v k,λk=>bif Nat.beq k (sZ hs) then L.length+1 else n k,λk=>bif Nat.beq k (sZ hs) then L.map D8.d++[s.d] else d k⟩,⟨sam,rfl⟩,⟨hlt,FA hO m8 (no hx)⟩,by simp only[lit,sZ];omega⟩)
    all_goals(conv=>whnf)
    all_goals first
     |(have hx:s∈L:=G4 (by assumption)
       have:=hpos hx
       exfalso;omega)
     |(have hx:¬s∈L:=X5 (by assumption)
       exact⟨⟨sZ hs+1,λk=>bif Nat.beq k (sZ hs) then v k+1 else v k,λk=>bif Nat.beq k (sZ hs) then L.length+1 else n k,λk=>bif Nat.beq k (sZ hs) then L.map D8.d++[s.d] else d k⟩,⟨sam,rfl⟩,⟨hlt,FA hO m8 (no hx)⟩,by simp only[lit,sZ];omega⟩)
  ·dsimp only[lit] at hlt
   have hie:i=lit hn:=by dsimp only[lit];omega
   dsimp only[lit] at hie
   subst hie
   clear hlt hi
   have hsel:∀k,k<lit hn->QE (lit hn) k t=t+1:=λk hk=>if_pos hk
   dsimp only[lit] at hsel
   repeat' ((conv=>whnf);first|refine sT ?_|refine sP ?_ ?_<;>intro _|fail)
   all_goals(conv=>whnf)
   try simp only[J3,over,E9,H4,P4,H8,E8,L4,G5,I1,hvC,hvR,hvB,Nat.reduceAdd,lit]
   refine lY 11 Tryz.f213.ntmps (X:=XOd) (λx=>[(5,.d (I ((x.j:Int)-1)))]) (λx=>[(12,.row 0 1 false (x.z.map I))])
    (λx=>x.z=Y8 cur x.j/\(c0.length<=x.j/\x.j<=cur.length)/\∀i,x.j<=i->∀x y,cur[i]? =some x->(G0 b)[i]? =some y->x=y-1) (λx=>x.j)
    ⟨((G0 b).length:Int).toNat,cur⟩ sam rfl ⟨by rw[<-hcI,PH],⟨by have:=hc.1;simp only;omega,by simp only;omega⟩,λi hi x y hx _=>by
      have:=(A4.1 hx).1
      simp only at hi;omega⟩ ?_
   rintro⟨j,z⟩ ⟨hz,⟨hj1,hj2⟩,hf⟩
   dsimp only at hz hj1 hj2 hf
   try simp only[J3,over,E9,H4,P4,H8,E8,L4,G5,I1,hvC,hvR,hvB,Nat.reduceAdd,lit]
   have hmx:=λx hx=>(hm x hx).1
   have hlr:=cI b cur
   by_cases hje:j=c0.length
   ·have hend:=B0i hmx hc.1 hcur (λi hi=>hf i (by omega))
    repeat' ((conv=>whnf);first|refine Nam.mk m5 ?_|refine sT ?_|refine sP ?_ ?_<;>intro _|fail)
    all_goals((conv=>whnf);try exact xO)
    have hall:(cZ (G0 b) c0).take (t+1)=(cZ (G0 b) c0):=C7 (List.getElem?_eq_none_iff.1 hend)
    have hln:∀k,k<lit hn->n k=(d k).length:=λk hk=>(hO k hk).1
    dsimp only[lit] at hln
    have hvd:=B0a (d:=d) (e:=λk=>(nF b c0 k).map D8.d) (lit hn) λk hk=>by rw[(hO k hk).2,hsel k hk,hall];rfl
    (try refine mE (WkH.cellV (n:=1) (i:=0) (m:=13) rfl rfl rfl (hln 0 (by decide))) ?_)
    (try refine mE (WkH.cellV (n:=1) (i:=1) (m:=14) rfl rfl rfl (hln 1 (by decide))) ?_)
    (try refine mE (WkH.cellV (n:=1) (i:=2) (m:=15) rfl rfl rfl (hln 2 (by decide))) ?_)
    (try refine mE (WkH.cellV (n:=1) (i:=3) (m:=16) rfl rfl rfl (hln 3 (by decide))) ?_)
    (try refine mE (WkH.cellV (n:=1) (i:=4) (m:=17) rfl rfl rfl (hln 4 (by decide))) ?_)
    (try refine mE (WkH.cellV (n:=1) (i:=5) (m:=18) rfl rfl rfl (hln 5 (by decide))) ?_)
    (try refine mE (WkH.cellV (n:=1) (i:=6) (m:=19) rfl rfl rfl (hln 6 (by decide))) ?_)
    (try refine mE (WkH.cellV (n:=1) (i:=7) (m:=20) rfl rfl rfl (hln 7 (by decide))) ?_)
    (try refine mE (WkH.toVard (n:=1) (ds:=hvD d (lit hn)) rfl) ?_)
    refine⟨_,WkH.refl _,?_⟩
    conv=>whnf
    repeat' ((conv=>whnf);first|refine sT ?_|refine sP ?_ ?_<;>intro _|refine Chk.mk ⟨rfl,B1 _⟩ ?_|refine Nam.mk hvd ?_|fail)
    all_goals(conv=>whnf)
    exact DLe.full _ _ _
   ·obtain⟨x,hx⟩:∃x,cur[j-1]? =some x:=⟨_,A3 (by omega)⟩
    obtain⟨y,hy⟩:∃y,(G0 b)[j-1]? =some y:=⟨_,A3 (by omega)⟩
    have hyb:=hm y (A7 hy)
    have hxb:=hcb x (A7 hx)
    have hzx:z[j-1]? =some x:=by rw[hz,PG (by omega) hj2];exact hx
    have hzl:z.length=cur.length:=by rw[hz];exact PF hj2
    have g1:=tR (y:=(j:Int)-1) (by omega) hzx
    have g2:=A4d (y:=(j:Int)-1) (by omega) hy
    have l1:=QH (z:=z) (i:=j-1) (y:=(j:Int)-1) (by omega) (by omega)
    have hjj:j-1+1=j:=by omega
    by_cases hxy:x=y-1
    ·have q1:=yX (z:=z) (x:=0) (y:=(j:Int)-1) (w:=Y8 cur (j-1)) (i:=j-1) (by omega) (by rw[hz];have:=PE (c:=cur) (j:=j-1) (by omega);rw[hjj] at this;exact this)
     have hf':∀i,j-1<=i->∀x y,cur[i]? =some x->(G0 b)[i]? =some y->x=y-1:=λi hi x' y' h1 h2=>by
      by_cases e:i=j-1
      ·subst e
       rw[hx] at h1;rw[hy] at h2;cases h1;cases h2;exact hxy
      ·exact hf i (by omega) x' y' h1 h2
     repeat' ((conv=>whnf);first|refine Nam.mk m5 ?_|refine sT ?_|refine sP ?_ ?_<;>intro _|refine A9 g1 ?_|refine A9 g2 ?_|refine J6 l1 q1 ?_|fail)
     all_goals(conv=>whnf)
     all_goals first|(exfalso;omega)|exact⟨⟨j-1,Y8 cur (j-1)⟩,Wm.end (by repeat(first|exact trivial|refine And.intro rfl ?_|refine And.intro (N8 (λn=>V.d (I n)) (by dsimp only;omega)) ?_)) rfl rfl rfl,⟨rfl,⟨by simp only;omega,by simp only;omega⟩,hf'⟩,by simp only;omega⟩
    ·have hnext:=A4y hmx hc.1 hcur (j:=j-1) (by omega) hx hy hxy (λi hi=>hf i (by omega))
     have q1:=yX (z:=z) (x:=x+1) (y:=(j:Int)-1) (i:=j-1) (by omega) (show z.set (j-1) (x+1)=(Y8 cur (j-1+1)).set (j-1) (x+1) by rw[hz,hjj])
     repeat' ((conv=>whnf);first|refine Nam.mk m5 ?_|refine sT ?_|refine sP ?_ ?_<;>intro _|refine A9 g1 ?_|refine A9 g2 ?_|refine J6 l1 q1 ?_|fail)
     all_goals(conv=>whnf)
     all_goals first|(exfalso;omega)|exact⟨⟨t+1,(Y8 cur (j-1+1)).set (j-1) (x+1),R8 b cur,v,n,d⟩,wE,⟨⟨hnext,by simp only[lit];omega⟩,λk hk=>⟨(hO k hk).1,by have h:=(hO k hk).2;rw[hsel k hk] at h;exact h⟩⟩,by simp only;omega⟩):p:=h
theorem out0:LZ 0:=otS
theorem out1:LZ 1:=otS
theorem out2:LZ 2:=otS
theorem out3:LZ 3:=otS
theorem out4:LZ 4:=otS
theorem out5:LZ 5:=otS
theorem out6:LZ 6:=otS
theorem out7:LZ 7:=otS
theorem out8:LZ 8:=otS
theorem outN (b:D7) (hb:b.ok) (hd:(N6 b).length<=8) (N:Nat) (hN:N<=8) (hn:b.recs.length=N) (c0:List Int) (f1 f2:Bool) (hc:W7 c0 (G0 b)) (hm:∀x∈G0 b,1<=x/\x<=17) (hG:(cZ (G0 b) c0).length<=100000):
 C9 Tryz.prog 213 [.d b.d,.d (.sl 1 f1 ((G0 b).map I)),.d (.sl 1 f2 (c0.map I))] (E5 [SL 1 ((List.range N).map λk=>SL 7 ((nF b c0 k).map D8.d))]):=by
 have hcase:N=0∨N=1∨N=2∨N=3∨N=4∨N=5∨N=6∨N=7∨N=8:=by omega
 clear hN
 rcases hcase with rfl|rfl|rfl|rfl|rfl|rfl|rfl|rfl|rfl
 ·exact out0 b hb hd hn c0 f1 f2 hc hm hG
 ·exact out1 b hb hd hn c0 f1 f2 hc hm hG
 ·exact out2 b hb hd hn c0 f1 f2 hc hm hG
 ·exact out3 b hb hd hn c0 f1 f2 hc hm hG
 ·exact out4 b hb hd hn c0 f1 f2 hc hm hG
 ·exact out5 b hb hd hn c0 f1 f2 hc hm hG
 ·exact out6 b hb hd hn c0 f1 f2 hc hm hG
 ·exact out7 b hb hd hn c0 f1 f2 hc hm hG
 ·exact out8 b hb hd hn c0 f1 f2 hc hm hG
end Go.PM

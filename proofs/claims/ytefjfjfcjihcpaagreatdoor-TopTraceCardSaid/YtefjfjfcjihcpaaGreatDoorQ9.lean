/- TopTrace: part 9 of the proof: for every input the law returns true, and its arguments read behind the call as they read before; where the library's table is as its own text lays it. -/
import Derived.Test.YtefjfjfcjihcpaaGreatDoorQ8
set_option maxRecDepth 10000
set_option maxHeartbeats 400000000
set_option linter.unusedSectionVars false
namespace Go.PM
open Go.Proofs
theorem PS {h:Hp} {a b:Nat} {x y:Blk} (hx:h[a]? =some x) (hy:h[b]? =some y):∀(i m:Nat),[a,b][i]? =some m->h[m]? =[x,y][i]?
 |0,m,hi=>by simp at hi;subst hi;exact hx
 |1,m,hi=>by simp at hi;subst hi;exact hy
 |i+2,m,hi=>by simp at hi
theorem A2q {h:Hp} {a b c d:Nat} {x y z u:Blk} (hx:h[a]? =some x) (hy:h[b]? =some y) (hz:h[c]? =some z) (hu:h[d]? =some u):∀(i m:Nat),[a,b,c,d][i]? =some m->h[m]? =[x,y,z,u][i]?
 |0,m,hi=>by simp at hi;subst hi;exact hx
 |1,m,hi=>by simp at hi;subst hi;exact hy
 |2,m,hi=>by simp at hi;subst hi;exact hz
 |3,m,hi=>by simp at hi;subst hi;exact hu
 |i+4,m,hi=>by simp at hi
structure XE where
 j:Nat
 rows:List (List Rat)
 piv:List Nat
def lN (p j:Nat) (rows:List (List Rat)) (i:Nat):List (List Rat):=(jG p j rows).take i++(rows.set p (bY p j rows)).drop i
theorem A4p (p j:Nat) (rows:List (List Rat)):lN p j rows 0=rows.set p (bY p j rows):=rfl
theorem A9o {p j m w:Nat} {rows:List (List Rat)} (hw:Wid m w rows) (hp:p<m):lN p j rows m=jG p j rows:=by
 unfold lN
 rw[C7 (by rw[(jM hw hp).len];exact B1 _),List.drop_of_length_le (by rw[L5,hw.len];exact B1 _),I3]
theorem TV {p j i:Nat} {rows:List (List Rat)} {r:List Rat} (h:rows[i]? =some r):(jG p j rows)[i]? =some (newRow p j rows i r):=by
 unfold jG;rw[OZ,h];rfl
theorem A9n {p j i m w:Nat} {rows:List (List Rat)} (hw:Wid m w rows) (hp:p<m) (hi:i<m) {r:List Rat} (h:rows[i]? =some r):(lN p j rows i)[i]? =some (if i=p then bY p j rows else r):=by
 unfold lN
 have hl:((jG p j rows).take i).length=i:=by rw[D0,(jM hw hp).len];omega
 rw[B3 (by omega),hl,G2,J4,W2,K5]
 by_cases hip:p=i
 ·subst hip;rw[if_pos rfl,if_pos rfl,if_pos (by have:=hw.len;omega)]
 ·rw[if_neg hip,if_neg (λe=>hip e.symm),h]
theorem A4q {p j i m w:Nat} {rows:List (List Rat)} (hw:Wid m w rows) (hp:p<m) (hi:i<m) {r:List Rat} (h:rows[i]? =some r):(lN p j rows i).set i (newRow p j rows i r)=lN p j rows (i+1):=by
 have hl:((jG p j rows).take i).length=i:=by rw[D0,(jM hw hp).len];omega
 have hs:=TV (p:=p) (j:=j) h
 unfold lN
 rw[K8 _ _ (by omega),hl,G2,D1,hs,D5]
 congr 1
 have hlen:i<(rows.set p (bY p j rows)).length:=by rw[L5,hw.len];exact hi
 rw[dM hlen,E9];rfl
theorem ZJ {p j i m w:Nat} {rows:List (List Rat)} (hw:Wid m w rows) (hp:p<m) (hi:i<=m):(lN p j rows i)[p]? =some (bY p j rows):=by
 obtain⟨r,hr⟩:∃r,rows[p]? =some r:=⟨_,A3 (by have:=hw.len;omega)⟩
 have hl:((jG p j rows).take i).length=i:=by rw[D0,(jM hw hp).len];omega
 unfold lN
 by_cases hpi:p<i
 ·rw[B8 (by omega),I8 hpi,TV hr]
  unfold newRow;rw[if_pos rfl]
 ·rw[B3 (by omega),hl,J4,K5,if_pos (by omega),if_pos (by rw[hw.len];omega)]
theorem VF (rows:List (List Rat)) (i:Nat) (r:List Rat):(K1 rows).set i (bF r)=K1 (rows.set i r):=by unfold K1;rw[O7]
theorem HY {p j i m w:Nat} {rows:List (List Rat)} (hw:Wid m w rows) (hp:p<m) (hi:i<=m):(lN p j rows i).length=m:=by
 unfold lN
 rw[B4,D0,aA,L5,(jM hw hp).len,hw.len];omega
theorem A5m (w m n ver:Nat) (rows0 rowsN:List (List Rat)) (pivN:List Nat) (hw:Wid m w rows0) (hm:m<=32) (hw2:w<1000) (hn:n<=32) (hnw:n<=w)
 (hst:∀j rows piv p,j<n->T4 rows0 j rows piv->rI piv j rows=some p->CL (2^2048) p j w m rows)
 (hnx:∀j rows piv,j<n->T4 rows0 j rows piv->∃p,rI piv j rows=some p) (hend:T4 rows0 n rowsN pivN):
 let H:Hp:=[.var (sC 1 ver m (RX n (PL []) (TL []))),.row ver 1 false (K1 rows0)]
 let H':Hp:=[.var (sC 1 ver m (RX n (PL pivN) (TL pivN))),.row ver 1 false (K1 rowsN)]
 M4 Tryz.prog 154 [.ptr 0 0 0 0] H λv h'=>v=E5 []/\h'.length=H.length/\h'.all (okB H.length)=true/\(h'=H'):=by
 intro H H'
 refine uP Tryz.func154 ?_
 repeat' ((conv=>whnf);first|refine sT ?_|refine sP ?_ ?_<;>intro _|fail)
 all_goals(conv=>whnf)
 refine lO (X:=XE) (λx=>[(12,.d (I x.j))]) (λx=>[(0,.var (sC 1 ver m (RX n (PL x.piv) (TL x.piv)))),(1,.row ver 1 false (K1 x.rows))]) (λx=>x.j<=n/\T4 rows0 x.j x.rows x.piv) (λx=>n-x.j) ⟨0,rows0,[]⟩ sam rfl ⟨B9 _,.zero⟩ ?_
 rintro⟨j,rows,piv⟩ ⟨hj,he⟩
 dsimp only at hj he
 dsimp only
 have ho:=he.ok (n:=n) hw
 have hwr:=ho.wid
 have hpl:=ho.plen
 have hP:=SW (piv:=piv) (by omega)
 by_cases hlt:j<n
 ·obtain⟨p,hp⟩:=hnx j rows piv hlt he
  have hok:=hst j rows piv p hlt he hp
  obtain⟨p1,p2,p3⟩:=mS hp
  rw[hwr.len] at p1
  have hK:=WK 0 1 (by decide) w m n j p ver false rows piv (PL piv) hP hwr hm (by omega) hp
  obtain⟨rp,hrp⟩:∃r,rows[p]? =some r:=⟨_,A3 (by have:=hwr.len;omega)⟩
  have hrpw:=hwr.wid rp (A7 hrp)
  have hrpD:rows.getD p []=rp:=by rw[A5,hrp];rfl
  obtain⟨by',hby⟩:∃x,rp[j]? =some x:=⟨_,A3 (by omega)⟩
  have hbyE:ent rows p j=by':=by unfold ent;rw[hrpD,A5,hby];rfl
  have hpr:(rp.map λx=>x/by')=bY p j rows:=by unfold bY;rw[hrpD,hbyE]
  have hentp:∀(c:Nat) (x:Rat),rp[c]? =some x->ent rows p c=x:=λc x hx=>by unfold ent;rw[hrpD,A5,hx];rfl
  have hnz:=hok.nz
  have hbl:=hok.bl
  rw[hbyE] at hnz hbl
  have hdiv:∀x∈rp,Z9 x/\lim (qn x*by'.den)/\lim (x.den*qn by'):=λx hx=>by
   obtain⟨c,hc⟩:=D9.1 hx
   have:=hok.div c (by have:=(A4.1 hc).1;omega)
   rw[hentp c x hc,hbyE] at this
   exact⟨this.1,this.2.1,this.2.2⟩
  have hE:=A5n 0 1 2 3 (by decide) rp by' (by omega) hbl hnz hdiv false ver m false (RX n (PL (piv++[p])) (TL (piv++[p]))) (K1 rows)
  rw[hpr] at hE
  have q1:0+3+((j:Nat):Int).toNat*1<(sC 1 ver m (RX n (PL piv) (TL piv))).length:=by rw[A8d hP (KV _)];omega
  have q2:(sC 1 ver m (RX n (PL piv) (TL piv))).set (0+3+((j:Nat):Int).toNat*1) (.d (I p))=sC 1 ver m (RX n (PL (piv++[p])) (TL piv)):=by
   rw[show 0+3+((j:Nat):Int).toNat*1=j+3 by omega,B3g (by omega),B5b (by omega),hpl]
  have q3:0+35+((p:Nat):Int).toNat*1<(sC 1 ver m (RX n (PL (piv++[p])) (TL piv))).length:=by rw[A8d (SW (by rw[B4];simp;omega)) (KV _)];omega
  have q4:(sC 1 ver m (RX n (PL (piv++[p])) (TL piv))).set (0+35+((p:Nat):Int).toNat*1) (.d (.b true))=sC 1 ver m (RX n (PL (piv++[p])) (TL (piv++[p]))):=by
   rw[show 0+35+((p:Nat):Int).toNat*1=p+35 by omega,B3f (SW (by rw[B4];simp;omega)),B5a (by omega)]
  have g1:(K1 rows)[0+((p:Nat):Int).toNat]? =some (bF rp):=by rw[C1];exact fW hrp
  have g2:(rp.map rD)[((j:Nat):Int).toNat]? =some (rD by'):=by rw[B0,A8,hby];rfl
  have q5:0+((p:Nat):Int).toNat<(K1 rows).length:=by unfold K1;rw[A6,hwr.len];omega
  have q6:(K1 rows).set (0+((p:Nat):Int).toNat) (bF (bY p j rows))=K1 (lN p j rows 0):=by
   rw[C1,B0,VF,A4p]
  repeat' ((conv=>whnf);first|refine sT ?_|refine sP ?_ ?_<;>intro _|refine E6.keepN hK rfl (PS rfl rfl) ?_|refine J6 q1 q2 ?_|refine J6 q3 q4 ?_|refine J6 q5 q6 ?_|refine A9 g1 ?_|refine A9 g2 ?_|refine H6.keepN hE rfl rfl (A2q rfl rfl rfl rfl) ?_|fail)
  all_goals((conv=>whnf);try exact xO)
  refine lO (X:=Nat) (λi=>[(61,.d (I i))]) (λi=>[(1,.row ver 1 false (K1 (lN p j rows i)))]) (λi=>i<=m) (λi=>m-i) 0 sam rfl (B9 _) ?_
  intro i hi
  by_cases hil:i<m
  ·obtain⟨r,hr⟩:∃r,rows[i]? =some r:=⟨_,A3 (by have:=hwr.len;omega)⟩
   have hrw:=hwr.wid r (A7 hr)
   have hrD:rows.getD i []=r:=by rw[A5,hr];rfl
   have hml:=A9n (j:=j) hwr p1 hil hr
   have hnext:=A4q (j:=j) hwr p1 hil hr
   have hmp:=ZJ (j:=j) hwr p1 hi
   have g4:(K1 (lN p j rows i))[0+((p:Nat):Int).toNat]? =some (bF (bY p j rows)):=by rw[C1];exact fW hmp
   by_cases hip:i=p
   ·subst hip
    rw[if_pos rfl] at hml
    have hpw:=nE (j:=j) hwr p1
    obtain⟨f,hf⟩:∃x,(bY i j rows)[j]? =some x:=⟨_,A3 (by omega)⟩
    have g5:((bY i j rows).map rD)[((j:Nat):Int).toNat]? =some (rD f):=by rw[B0,A8,hf];rfl
    have hsame:lN i j rows i=lN i j rows (i+1):=by
     rw[<-hnext]
     unfold newRow
     rw[if_pos rfl]
     refine L9 λk=> ?_
     by_cases hk:i=k
     ·subst hk;rw[G1 (by rw[HY hwr p1 hi];exact hil),hml]
     ·rw[C3 hk]
    repeat' ((conv=>whnf);first|refine sT ?_|refine sP ?_ ?_<;>intro _|refine A9 g4 ?_|refine A9 g5 ?_|fail)
    all_goals((conv=>whnf);try exact xO)
    refine⟨i+1,?_,hil,by omega⟩
    rw[<-hsame]
    exact Wm.end sam rfl rfl (U9 (dQ (q:=5) (cS (b:=1) (by decide))) rfl)
   ·rw[if_neg hip] at hml
    obtain⟨f,hf⟩:∃x,r[j]? =some x:=⟨_,A3 (by omega)⟩
    have hfD:r.getD j 0=f:=by rw[A5,hf];rfl
    have g5:(r.map rD)[((j:Nat):Int).toNat]? =some (rD f):=by rw[B0,A8,hf];rfl
    have g6:(K1 (lN p j rows i))[0+((i:Nat):Int).toNat]? =some (bF r):=by rw[C1];exact fW hml
    have hz:(str (qn f)).toList=(⟨#[]⟩:ByteArray).toList↔f=0:=by rw[<-fP,LH,zC]
    have hfE:ent rows i j=f:=by unfold ent;rw[hrD,hfD]
    by_cases hf0:f=0
    ·have hzz:=hz.2 hf0
     have hsame:lN p j rows i=lN p j rows (i+1):=by
      rw[<-hnext]
      unfold newRow
      rw[if_neg hip,if_pos (hfD.trans hf0)]
      refine L9 λk=> ?_
      by_cases hk:i=k
      ·subst hk;rw[G1 (by rw[HY hwr p1 hi];exact hil),hml]
      ·rw[C3 hk]
     repeat' ((conv=>whnf);first|refine Dec.t hzz ?_|refine sT ?_|refine sP ?_ ?_<;>intro _|refine A9 g6 ?_|refine A9 g5 ?_|fail)
     all_goals((conv=>whnf);try exact xO)
     refine⟨i+1,?_,hil,by omega⟩
     rw[<-hsame]
     exact Wm.end sam rfl rfl (U9 (dQ (q:=5) (cS (b:=1) (by decide))) rfl)
    ·have hzz:¬(str (qn f)).toList=(⟨#[]⟩:ByteArray).toList:=λhh=>hf0 (hz.1 hh)
     have hnr:newRow p j rows i r=fM f r (bY p j rows):=by unfold newRow;rw[if_neg hip,hfD,if_neg hf0]
     rw[hnr] at hnext
     have hpw:=nE (j:=j) hwr p1
     have hsub:∀(c:Nat) (x y:Rat),r[c]? =some x->(bY p j rows)[c]? =some y->(Z9 f/\Z9 y/\lim (qn f*qn y)/\lim (f.den*y.den))/\lim (qn x*(f*y).den+qn (f*y)*x.den)/\lim (x.den*(f*y).den):=λc x y hx hy=>by
      have hcw:c<w:=by have:=(A4.1 hx).1;omega
      have h9:=hok.sub i c hil hcw
      have ey:y=ent rows p c/ent rows p j:=by rw[<-RO,A5,hy];rfl
      have ex:ent rows i c=x:=by unfold ent;rw[hrD,A5,hx];rfl
      rw[<-ey,hfE,ex] at h9
      exact⟨⟨h9.1,h9.2.1,h9.2.2.1,h9.2.2.2.1⟩,h9.2.2.2.2.1,h9.2.2.2.2.2⟩
     have hB:=A6f 0 1 2 5 (by decide) r (bY p j rows) f (by omega) (by omega) hsub false false ver m false (RX n (PL (piv++[p])) (TL (piv++[p]))) (K1 (lN p j rows i))
     have q7:0+((i:Nat):Int).toNat<(K1 (lN p j rows i)).length:=by unfold K1;rw[A6,HY hwr p1 hi];omega
     have q8:(K1 (lN p j rows i)).set (0+((i:Nat):Int).toNat) (bF (fM f r (bY p j rows)))=K1 (lN p j rows (i+1)):=by
      rw[C1,B0,VF,hnext]
     repeat' ((conv=>whnf);first|refine Dec.f hzz ?_|refine sT ?_|refine sP ?_ ?_<;>intro _|refine A9 g6 ?_|refine A9 g5 ?_|refine A9 g4 ?_|refine J6 q7 q8 ?_|refine H6.keepN hB rfl rfl (A2q rfl rfl rfl rfl) ?_|fail)
     all_goals((conv=>whnf);try exact xO)
     exact⟨i+1,Wm.end sam rfl rfl (U9 (dQ (q:=5) (cS (b:=1) (by decide))) rfl),hil,by omega⟩
  ·have hie:i=m:=by omega
   subst hie
   have hme:=A9o (j:=j) hwr p1
   repeat' ((conv=>whnf);first|refine sT ?_|refine sP ?_ ?_<;>intro _|fail)
   all_goals((conv=>whnf);try exact xO)
   refine⟨⟨j+1,lN p j rows i,piv++[p]⟩,Wm.end sam rfl rfl (U9 (dQ (q:=3) (cS (b:=1) (by decide))) rfl),⟨hlt,by dsimp only;rw[hme];exact .succ he hp⟩,by show n-(j+1)<n-j;omega⟩
 ·have hje:j=n:=by omega
  subst hje
  obtain⟨rfl,rfl⟩:=he.uniq hend
  repeat' ((conv=>whnf);first|refine sT ?_|refine sP ?_ ?_<;>intro _|fail)
  all_goals((conv=>whnf);try exact xO)
  exact⟨VLe.refl _,U9 (cS (q:=2) (b:=1) (by decide)) rfl,rfl⟩
theorem RQ (m n ver:Nat) (ro:Bool) (rows:List (List Rat)) (piv:List Nat) (P:List Int) (hP:P.length=32) (hl:rows.length=m) (hm:m<=32) (ht:∀i,i<m->piv.contains i=true):
 let H:Hp:=[.var (sC 1 ver m (RX n P (TL piv))),.row ver 1 ro (K1 rows)]
 M4 Tryz.prog 155 [.ptr 0 0 0 0] H λv h'=>okV H.length v=true/\h'.length=H.length/\h'.all (okB H.length)=true/\(v=E5 [I (-1)]/\h'=H):=by
 intro H
 refine lI Tryz.func155 ?_ ?_
 ·show(okB 2 (sB 1 ver m (RX n P (TL piv)))&&(true&&true))=true
  rw[cS (by decide)];rfl
 repeat' ((conv=>whnf);first|refine sT ?_|refine sP ?_ ?_<;>intro _|fail)
 all_goals(conv=>whnf)
 refine lO (X:=Nat) (λi=>[(10,.d (I i))]) (λ_=>[]) (λi=>i<=m) (λi=>m-i) 0 sam rfl (B9 _) ?_
 intro i hi
 by_cases hlt:i<m
 ·obtain⟨r,hr⟩:∃r,rows[i]? =some r:=⟨_,A3 (by omega)⟩
  have g1:(K1 rows)[0+((i:Nat):Int).toNat]? =some (bF r):=by rw[C1];exact fW hr
  have g3:(sC 1 ver m (RX n P (TL piv)))[0+35+((i:Nat):Int).toNat*1]? =some (.d (.b true)):=by
   rw[show 0+35+((i:Nat):Int).toNat*1=i+35 by omega,<-ht i hlt]
   exact A8b hP (SU (by omega))
  repeat' ((conv=>whnf);first|refine sT ?_|refine sP ?_ ?_<;>intro _|refine A9 g1 ?_|refine A9 g3 ?_|fail)
  all_goals(conv=>whnf)
  all_goals first|(exfalso;omega)|exact⟨i+1,Wm.end sam rfl rfl (U9 (dQ (q:=2) (cS (b:=1) (by decide))) rfl),hlt,by omega⟩
 ·repeat' ((conv=>whnf);first|refine sT ?_|refine sP ?_ ?_<;>intro _|fail)
  all_goals exact fI
theorem RP (a b:Nat) (hab:a≠b) (m n ver:Nat) (ro:Bool) (rows:List (List Rat)) (piv:List Nat) (P:List Int) (hP:P.length=32) (hl:rows.length=m) (hm:m<=32) (ht:∀i,i<m->piv.contains i=true):
 mC Tryz.prog 155 [.ptr a 0 0 0] [a,b] [.var (sC b ver m (RX n P (TL piv))),.row ver 1 ro (K1 rows)] (.d (I (-1))):=by
 have h:=eW (by show(okB 2 (sB 1 ver m (RX n P (TL piv)))&&(true&&true))=true;rw[cS (by decide)];rfl) (by rfl) (RQ m n ver ro rows piv P hP hl hm ht) [a,b] (BG hab) rfl
 simp only[E8,L4] at h
 rw[show Blk.var (sC 1 ver m (RX n P (TL piv)))=sB 1 ver m (RX n P (TL piv)) from rfl,rF] at h
 exact h
def fG (n i:Nat):List Rat:=(List.range n).map λj=>if j=i then 1 else 0
def fA (A:List (List Rat)) (b:List Rat):List (List Rat):=A.mapIdx λi r=>r++[b.getD i 0]++fG A.length i
theorem XB {A:List (List Rat)} {b:List Rat} {i:Nat} {r:List Rat} (h:A[i]? =some r):(fA A b)[i]? =some (r++[b.getD i 0]++fG A.length i):=by
 unfold fA;rw[OZ,h];rfl
theorem AF {m n:Nat} {A:List (List Rat)} {b:List Rat} (h:Rows m n A):Wid m (n+1+m) (fA A b):=
 ⟨by unfold fA;rw[List.length_mapIdx,h.len],λr hr=>by
   unfold fA at hr
   obtain⟨i,hi,rfl⟩:=List.mem_mapIdx.1 hr
   have:=h.wid _ (R5 hi)
   simp[fG,this,h.len];omega⟩
theorem Wk.liftTo {N:Nat} {ts:Tm} {h:Hp} {t m ver lo len sz:Nat} {ro full:Bool} {xs:List D} (ys:List D) (ht:look ts t=.sref m ver lo len full) (hm:h[m]? =some (.row ver sz ro xs)) (hl:lo+len<=xs.length) (hy:(xs.drop lo).take len=ys):
 Wk N ts h ((t,.d (.sl sz full ys))::ts) (h.set m (.row ver sz true xs)):=by subst hy;exact Wk.liftT ht hm hl
theorem A7a {n i:Nat} (hi:i<n):(List.replicate n (0:Rat)).set i 1=fG n i:=by
 unfold fG
 refine L9 λk=> ?_
 rw[K5,A8]
 by_cases hk:k<n
 ·rw[F2 hk]
  by_cases h:i=k
  ·subst h;rw[if_pos rfl,if_pos (by simpa using hi)];simp
  ·rw[if_neg h];simp[hk];exact λe=>absurd e.symm h
 ·rw[E0 (by simpa using hk)]
  by_cases h:i=k
  ·omega
  ·rw[if_neg h,E0 (by simp;omega)];rfl
theorem A6i {A:List (List Rat)} {b:List Rat} {i:Nat} {r:List Rat} (h:A[i]? =some r):(fA A b).take (i+1)=(fA A b).take i++[r++[b.getD i 0]++fG A.length i]:=by
 rw[D1,XB h];rfl
theorem A5l (a c:Nat) (hac:a≠c) (w m n ver:Nat) (rows0 rowsN:List (List Rat)) (pivN:List Nat) (hw:Wid m w rows0) (hm:m<=32) (hw2:w<1000) (hn:n<=32) (hnw:n<=w)
 (hst:∀j rows piv p,j<n->T4 rows0 j rows piv->rI piv j rows=some p->CL (2^2048) p j w m rows)
 (hnx:∀j rows piv,j<n->T4 rows0 j rows piv->∃p,rI piv j rows=some p) (hend:T4 rows0 n rowsN pivN) {h:Hp}
 (h0:h[a]? =some (.var (sC c ver m (RX n (PL []) (TL []))))) (h1:h[c]? =some (.row ver 1 false (K1 rows0))) {k:V->Hp->Prop}
 (hk:k (E5 []) ((h.set a (.var (sC c ver m (RX n (PL pivN) (TL pivN))))).set c (.row ver 1 false (K1 rowsN)))):E6 Tryz.prog 154 [.ptr a 0 0 0] h k:=by
 have hrun:=A5m w m n ver rows0 rowsN pivN hw hm hw2 hn hnw hst hnx hend
 clear hst hnx
 refine E6.upd (by show(okB 2 (sB 1 ver m (RX n (PL []) (TL [])))&&(true&&true))=true;rw[cS (by decide)];rfl) rfl hrun [a,c] (BG hac) rfl rfl (λi mm hi=> ?_) ?_
 ·match i,hi with
  |0,hi=>simp at hi;subst hi;rw[h0];show some (sB c ver m _)=some (P4 [a,c] (sB 1 ver m _));rw[rF];rfl
  |1,hi=>simp at hi;subst hi;rw[h1];rfl
 ·rintro _ rfl _
  refine⟨_,WkH.refl _,?_⟩
  have e:P4 [a,c] (Blk.var (sC 1 ver m (RX n (PL pivN) (TL pivN))))=.var (sC c ver m (RX n (PL pivN) (TL pivN))):=by
   show P4 [a,c] (sB 1 ver m _)=sB c ver m _;rw[rF];rfl
  simp only[E8,L4,e]
  exact hk
theorem B2k {piv:List Nat} {j:Nat} (h:j<piv.length) (h2:piv.length<=32):(PL piv)[j]? =some ((piv.getD j 0:Nat):Int):=by
 unfold PL
 rw[B8 (by simpa using h),A8,A5,A3 h];rfl
abbrev cE:D:=D.agg [B false,.s ⟨#[]⟩,.s ⟨#[]⟩]
theorem IH (m ver:Nat) (A:List (List Rat)) (b:List Rat) (h:Rows m m A) (hm:0<m) (hm2:m<=32) (hb:b.length=m) (hq:∀r∈A,∀q∈r,Z9 q) (hqb:∀q∈b,Z9 q) (rowsN:List (List Rat)) (pivN:List Nat)
 (hst:∀j rows piv p,j<m->T4 (fA A b) j rows piv->rI piv j rows=some p->CL (2^2048) p j (m+1+m) m rows)
 (hnx:∀j rows piv,j<m->T4 (fA A b) j rows piv->∃p,rI piv j rows=some p) (hend:T4 (fA A b) m rowsN pivN) (f:Bool):
 C9 Tryz.prog 108 [.d (.sl 1 f (K1 A)),.d (bF b)] (E5 [I 1,bF (sV m rowsN pivN),.sl 0 true [],I 0]):=by
 have hC:=IG m m A b h hm hm2 hm2 hb hq hqb f
 have hU:=oK m m A h hm f
 have hN0:C9 Tryz.prog 189 [.d (I 0)] (E5 [rD 0]):=sN 0 (by decide)
 have hN1:C9 Tryz.prog 189 [.d (I 1)] (E5 [rD 1]):=sN 1 (by decide)
 have hl:=h.len
 have m1:(K1 A).length=m:=by unfold K1;rw[A6,hl]
 refine pU Tryz.func108 ?_
 repeat' ((conv=>whnf);first|refine Nam.mk m1 ?_|refine sT ?_|refine sP ?_ ?_<;>intro _|refine cA hC ?_|refine cA hU ?_|refine bO Tryz.func153 ?_|fail)
 all_goals((conv=>whnf);try exact xO)
 refine L3.virtC 1 1 0 1 false (by decide) rfl rfl ?_
 conv=>whnf
 refine lO (X:=Nat) (λi=>[(16,.d (I i))]) (λi=>[(1,.var (sC 2 i i (RX m (PL []) (TL [])))),(2,.row i 1 false (K1 ((fA A b).take i)))]) (λi=>i<=m) (λi=>m-i) 0 sam rfl (B9 _) ?_
 intro i hi
 by_cases hlt:i<m
 ·obtain⟨r,hr⟩:∃r,A[i]? =some r:=⟨_,A3 (by omega)⟩
  have g1:=fW hr
  repeat' ((conv=>whnf);first|refine Nam.mk m1 ?_|refine sT ?_|refine sP ?_ ?_<;>intro _|refine A9 g1 ?_|fail)
  all_goals((conv=>whnf);try exact xO)
  rw[B0]
  refine lO (X:=Nat) (λj=>[(26,.d (I j))]) (λj=>[(3,.row 0 3 false ((List.replicate j (rD 0))++List.replicate (m-j) cE))]) (λj=>j<=m) (λj=>m-j) 0 sam rfl (B9 _) ?_
  intro j hj
  by_cases hjl:j<m
  ·obtain⟨k,hk⟩:∃k,m-j=k+1:=⟨m-j-1,by omega⟩
   have q1:0+((j:Nat):Int).toNat<(List.replicate j (rD 0)++List.replicate (m-j) cE).length:=by simp;omega
   have q2:(List.replicate j (rD 0)++List.replicate (m-j) cE).set (0+((j:Nat):Int).toNat) (rD 0)=List.replicate (j+1) (rD 0)++List.replicate (m-(j+1)) cE:=by
    rw[C1,B0,K8 _ _ (by simp),K9,G2,hk,M1,E9,List.replicate_succ',D5,show m-(j+1)=k by omega];rfl
   have g2:(List.replicate j (rD 0)++List.replicate (m-j) cE)[0+((j:Nat):Int).toNat]? =some cE:=by
    rw[C1,B0,B3 (by simp),K9,G2,hk,M1];rfl
   repeat' ((conv=>whnf);first|refine sT ?_|refine sP ?_ ?_<;>intro _|refine cA hN0 ?_|refine A9 g2 ?_|refine J6 q1 q2 ?_|fail)
   all_goals((conv=>whnf);try exact xO)
   exact⟨j+1,Wm.end sam rfl rfl (U9 rfl (U9 (dQ (q:=4) (cS (b:=2) (by decide))) rfl)),hjl,by omega⟩
  ·have hje:j=m:=by omega
   subst hje
   rw[G2,lD,I3]
   have hbi:b[i]? =some (b.getD i 0):=by rw[A5,A3 (by omega)];rfl
   have q3:0+((i:Nat):Int).toNat<(List.replicate j (rD 0)).length:=by simp;omega
   have q4:(List.replicate j (rD 0)).set (0+((i:Nat):Int).toNat) (rD 1)=(fG j i).map rD:=by
    rw[C1,B0,<-A7a hlt,O7,M8]
   have g3:(List.replicate j (rD 0))[0+((i:Nat):Int).toNat]? =some (rD 0):=by
    rw[C1,B0,J2,if_pos hlt]
   have hsl:((b.map rD).take ((i:Nat)+1:Int).toNat).drop ((i:Nat):Int).toNat=[b.getD i 0].map rD:=by
    rw[show((i:Nat)+1:Int).toNat=i+1 by omega,B0,<-mB,<-List.map_drop,D1,hbi,List.drop_append_of_le_length (by simp;omega)];simp
   have ltk:(K1 (List.take i (fA A b))).length=i:=by unfold K1 fA;simp;omega
   have ck1:0+i=(K1 (List.take i (fA A b))).length:=by rw[ltk,C1]
   have ck2:i+[bF (r++[b.getD i 0]++fG j i)].length<=room:=by simp[room];omega
   have hK:C9 Tryz.prog 190 [.d (.sl 1 true [bF r,.sl 3 false (((b.map rD).take ((i:Nat)+1:Int).toNat).drop ((i:Nat):Int).toNat),.sl 3 false ((fG j i).map rD)])] (E5 [bF (r++[b.getD i 0]++fG j i)]):=by
    rw[hsl]
    have:=bQ (args:=[.d (.sl 1 true [bF r,bF [b.getD i 0],bF (fG j i)])]) rfl (A0l (r.map rD) ([b.getD i 0].map rD) ((fG j i).map rD) false false false (by have:=h.wid r (A7 hr);simp[fG];omega))
    rw[show bF (r++[b.getD i 0]++fG j i)=.sl 3 false (r.map rD++[b.getD i 0].map rD++(fG j i).map rD) by unfold bF SL;simp]
    exact this
   repeat' ((conv=>whnf);first|refine qP.mk _ _ (Wk.liftTo (t:=8) (m:=3) ((fG j i).map rD) rfl rfl (by simp[fG]) (whole (by simp[fG]))) ?_|refine sT ?_|refine sP ?_ ?_<;>intro _|refine cA hN1 ?_|refine A9 g3 ?_|refine J6 q3 q4 ?_|refine H6.of hK ?_|refine Chk.mk ⟨rfl,ck1,ck2⟩ ?_|fail)
   all_goals((conv=>whnf);try exact xO)
   have e1:X1 (K1 (List.take i (fA A b))) 0++[bF (r++[b.getD i 0]++fG j i)]=K1 (List.take (i+1) (fA A b)):=by
    rw[A6i hr,hl];unfold K1;rw[D2];rfl
   rw[e1]
   exact⟨i+1,Wm.end sam rfl rfl (U9 rfl (U9 (dQ (q:=3) (cS (b:=2) (by decide))) rfl)),hlt,by omega⟩
 ·have hie:i=m:=by omega
  subst hie
  rw[C7 (by unfold fA;simp;omega)]
  have hw:=AF (b:=b) h
  have hrun:∀{h:Hp} (h0:h[1]? =some (.var (sC 2 i i (RX i (PL []) (TL []))))) (h1:h[2]? =some (.row i 1 false (K1 (fA A b)))) {k:V->Hp->Prop}
   (hk:k (E5 []) ((h.set 1 (.var (sC 2 i i (RX i (PL pivN) (TL pivN))))).set 2 (.row i 1 false (K1 rowsN)))),E6 Tryz.prog 154 [.ptr 1 0 0 0] h k:=
   λh0 h1 k hk=>A5l 1 2 (by decide) (i+1+i) i i i (fA A b) rowsN pivN hw hm2 (by omega) hm2 (by omega) hst hnx hend h0 h1 hk
  clear hst hnx
  have ho:=hend.ok (n:=i) hw
  have hpl:=ho.plen
  have hwr:=ho.wid
  have hcl:=ho.clean
  have ht:∀k,k<i->pivN.contains k=true:=λk hk=>by
   obtain⟨l,hl,e⟩:=tX i (λk=>pivN.getD k 0) hcl.lt hcl.inj k hk
   have:k∈pivN:=by
    rw[<-e,A5,A3 (by omega)];exact R5 _
   simpa using this
  have hB:=RP 1 2 (by decide) i i i false rowsN pivN (PL pivN) (SW (by omega)) hwr.len hm2 ht
  repeat' ((conv=>whnf);first|refine sT ?_|refine sP ?_ ?_<;>intro _|refine hrun rfl rfl ?_|refine E6.keepN hB rfl (PS rfl rfl) ?_|refine bO Tryz.func159 ?_|fail)
  all_goals((conv=>whnf);try exact xO)
  refine lO (X:=Nat) (λk=>[(13,.d (I k))]) (λ_=>[]) (λk=>k<=i) (λk=>i-k) 0 sam rfl (B9 _) ?_
  intro k hk
  by_cases hlt2:k<i
  ·have g1:(sC 2 i i (RX i (PL pivN) (TL pivN)))[0+3+((k:Nat):Int).toNat*1]? =some (.d (I ((pivN.getD k 0:Nat):Int))):=by
    rw[show 0+3+((k:Nat):Int).toNat*1=k+3 by omega];exact A8c (B2k (by omega) (by omega))
   repeat' ((conv=>whnf);first|refine sT ?_|refine sP ?_ ?_<;>intro _|refine A9 g1 ?_|fail)
   all_goals((conv=>whnf);try exact xO)
   exact⟨k+1,Wm.end sam rfl rfl (U9 rfl (U9 (dQ (q:=3) (cS (b:=2) (by decide))) rfl)),hlt2,by omega⟩
  ·have hke:k=i:=by omega
   subst hke
   repeat' ((conv=>whnf);first|refine sT ?_|refine sP ?_ ?_<;>intro _|fail)
   all_goals((conv=>whnf);try exact xO)
   refine L3.virt 2 0 3 false (by decide) rfl ?_
   conv=>whnf
   have sl:(sV k rowsN pivN).length=k:=by unfold sV;simp
   refine lO (X:=Nat) (λx=>[(29,.d (I x)),(2,.sref 3 x 0 x false)]) (λx=>[(3,.row x 3 false (((sV k rowsN pivN).take x).map rD))]) (λx=>x<=k) (λx=>k-x) 0 sam rfl (B9 _) ?_
   intro x hx
   by_cases hlt3:x<k
   ·have g1:(sC 2 k k (RX k (PL pivN) (TL pivN)))[0+3+((x:Nat):Int).toNat*1]? =some (.d (I ((pivN.getD x 0:Nat):Int))):=by
     rw[show 0+3+((x:Nat):Int).toNat*1=x+3 by omega];exact A8c (B2k (by omega) (by omega))
    have hpx:=hcl.lt x hlt3
    obtain⟨rp,hrp⟩:∃r,rowsN[pivN.getD x 0]? =some r:=⟨_,A3 (by have:=hwr.len;omega)⟩
    have hrw:=hwr.wid rp (A7 hrp)
    have g2:(K1 rowsN)[0+((pivN.getD x 0:Nat):Int).toNat]? =some (bF rp):=by rw[C1];exact fW hrp
    have hE:rp[k]? =some (ent rowsN (pivN.getD x 0) k):=by
     unfold ent
     have:rowsN.getD (pivN.getD x 0) []=rp:=by rw[A5,hrp];rfl
     rw[this,A5,A3 (by omega)];rfl
    have g3:(rp.map rD)[((k:Nat):Int).toNat]? =some (rD (ent rowsN (pivN.getD x 0) k)):=by rw[B0,A8,hE];rfl
    have hS:(sV k rowsN pivN)[x]? =some (ent rowsN (pivN.getD x 0) k):=by unfold sV;rw[A8,F2 hlt3];rfl
    have hT:(sV k rowsN pivN).take (x+1)=(sV k rowsN pivN).take x++[ent rowsN (pivN.getD x 0) k]:=by rw[D1,hS];rfl
    have ck1:0+x=(((sV k rowsN pivN).take x).map rD).length:=by rw[A6,D0,sl];omega
    have ck2:x+1<=room:=by simp[room];omega
    repeat' ((conv=>whnf);first|refine sT ?_|refine sP ?_ ?_<;>intro _|refine A9 g1 ?_|refine A9 g2 ?_|refine A9 g3 ?_|refine Chk.mk ⟨rfl,ck1,ck2⟩ ?_|fail)
    all_goals((conv=>whnf);try exact xO)
    have e1:X1 (((sV k rowsN pivN).take x).map rD) 0++[D.agg (rD (ent rowsN (pivN.getD x 0) k)).cells]=((sV k rowsN pivN).take (x+1)).map rD:=by
     rw[hT,D2];rfl
    rw[e1]
    exact⟨x+1,Wm.end sam rfl rfl (U9 rfl (U9 (dQ (q:=4) (cS (b:=2) (by decide))) rfl)),hlt3,by omega⟩
   ·have hxe:x=k:=by omega
    subst hxe
    rw[C7 (by omega)]
    repeat' ((conv=>whnf);first|refine sT ?_|refine sP ?_ ?_<;>intro _|refine Nam.mk (y:=0) rfl ?_|fail)
    all_goals((conv=>whnf);try exact xO)
    refine Nam.mk (whole (by rw[A6,sl])) ?_
    conv=>whnf
    exact⟨DLe.refl _,DLe.refl _,DLe.refl _,DLe.refl _,rfl⟩
def sA (l:List Int):List (D×D):=l.map λn=>(I n,D.b true)
theorem AP (n:Int):∀l:List Int,cY tt 3 (I n) (sA l)=if n∈l then some (.b true) else none
 |[]=>rfl
 |m::l=>by
  have ih:=AP n l
  show(if eqD tt 4 3 [I n] [I m] then some (.b true) else cY tt 3 (I n) (sA l))=_
  rw[show eqD tt 4 3 [I n] [I m]=(n==m) from rfl,ih]
  by_cases h:n=m
  ·simp[h]
  ·simp[h]
theorem TF (n:Int):∀l:List Int,n∉l->nJ tt 3 (I n) (.b true) (sA l)=sA (l++[n])
 |[],_=>rfl
 |m::l,h=>by
  have ih:=TF n l λhh=>h (.tail _ hh)
  show(if eqD tt 4 3 [I n] [I m] then(I n,D.b true)::sA l else(I m,D.b true)::nJ tt 3 (I n) (.b true) (sA l))=_
  rw[show eqD tt 4 3 [I n] [I m]=(n==m) from rfl,if_neg (by simp;exact λe=>h (e▸.head _)),ih]
  rfl
def TH (f g:F8):Prop:=f.kind=3/\g.kind=3/\f.label=g.label
instance (f g:F8):Decidable (TH f g):=by unfold TH;infer_instance
structure V8.ok (h:V8):Prop where
 nv:h.op.length<=16
 np:0<=h.per/\h.per<=16
 nf:h.fl.length<=64
 op:∀n∈h.op,0<=n/\n<=1048576
 fl:∀f∈h.fl,f.ok h.op.length h.per
 lab:h.fl.Pairwise λf g=>¬TH f g
instance (h:V8):Decidable h.ok:=decidable_of_iff (h.op.length<=16/\(0<=h.per/\h.per<=16)/\h.fl.length<=64/\(∀n∈h.op,0<=n/\n<=1048576)/\(∀f∈h.fl,f.ok h.op.length h.per)/\h.fl.Pairwise λf g=>¬TH f g)
 ⟨λ⟨a,b,c,d,e,f⟩=>⟨a,b,c,d,e,f⟩,λ⟨a,b,c,d,e,f⟩=>⟨a,b,c,d,e,f⟩⟩
structure B4z (h:V8):Prop where
 o:h.op.length<2^63
 f:h.fl.length<2^63
theorem V9 {α:Type} {p:α->Prop} {l:List α} {i:Nat} {x:α} (hx:l[i]? =some x) (hp:p x) (h:∀y∈l.take i,p y):∀y∈l.take (i+1),p y:=λy hy=>by
 rw[D1,hx,K0] at hy
 rcases hy with hy|hy
 ·exact h y hy
 ·simp at hy;subst hy;exact hp
theorem MN {α:Type} {r:α->α->Prop} {l:List α} {i:Nat} {x:α} (hx:l[i]? =some x) (hp:∀y∈l.take i,r y x) (h:(l.take i).Pairwise r):(l.take (i+1)).Pairwise r:=by
 rw[D1,hx,jL]
 exact⟨h,List.pairwise_singleton _ _,λy hy z hz=>by simp at hz;subst hz;exact hp y hy⟩
theorem B3o {α:Type} {r:α->α->Prop} {l:List α} {i j:Nat} {x y:α} (h:l.Pairwise r) (hij:i<j) (hx:l[i]? =some x) (hy:l[j]? =some y):r x y:=by
 obtain⟨h1,rfl⟩:=A4.1 hx
 obtain⟨h2,rfl⟩:=A4.1 hy
 exact List.pairwise_iff_getElem.1 h i j h1 h2 hij
def wS (l:List F8):List Int:=(l.filter λf=>decide (f.kind=3)).map F8.label
theorem RH (h:V8) (hw:B4z h):C9 Tryz.prog 51 [.d h.d] (E5 [.b (decide h.ok)]):=by
 have hwo:=hw.o
 have hwf:=hw.f
 refine pU Tryz.func51 ?_
 repeat' ((conv=>whnf);first|refine sT ?_|refine sP ?_ ?_<;>intro _|refine E6.ofB (dK _ _ _) (λ_=> ?_) (λ_=> ?_)|refine H6.ofB (dK _ _ _) (λ_=> ?_) (λ_=> ?_)|fail)
 all_goals(conv=>whnf)
 all_goals try simp only[F3,K3] at*
 all_goals try first
  |(rw[B6 (λhh:h.ok=>by have:=hh.nv;omega)];exact DLe.refl _)
  |(rw[B6 (λhh:h.ok=>by have:=hh.nf;omega)];exact DLe.refl _)
  |(rename_i hx;rw[B6 (λhh:h.ok=>hx hh.np)];exact DLe.refl _)
 rename_i g1 g2 g3
 refine lO (X:=Nat) (λi=>[(27,.d (I i))]) (λ_=>[]) (λi=>i<=h.op.length/\∀n∈h.op.take i,0<=n/\n<=1048576) (λi=>h.op.length-i) 0 sam rfl ⟨B9 _,by simp⟩ ?_
 rintro i ⟨hi,hm⟩
 by_cases hlt:i<h.op.length
 ·obtain⟨n,hx,_⟩:=dI hlt
  repeat' ((conv=>whnf);first|refine sT ?_|refine sP ?_ ?_<;>intro _|refine A9 (D4 hx) ?_|refine E6.ofB (dK _ _ _) (λ_=> ?_) (λ_=> ?_)|refine H6.ofB (dK _ _ _) (λ_=> ?_) (λ_=> ?_)|fail)
  all_goals(conv=>whnf)
  all_goals try simp only[F3,K3] at*
  all_goals first
   |(have hn:0<=n/\n<=1048576:=by assumption
     exact⟨i+1,wE,⟨hlt,V9 hx hn hm⟩,by omega⟩)
   |(have hn:¬(0<=n/\n<=1048576):=by assumption
     rw[B6 (λhh:h.ok=>hn (hh.op n (A7 hx)))];exact DLe.refl _)
 ·have:i=h.op.length:=by omega
  subst this
  rw[I5] at hm
  clear hi hlt
  repeat' ((conv=>whnf);first|refine sT ?_|refine sP ?_ ?_<;>intro _|fail)
  all_goals(conv=>whnf)
  refine lO (X:=Nat) (λi=>[(39,.d (I i))]) (λi=>[(1,.map tt 3 (sA (wS (h.fl.take i))))]) (λi=>i<=h.fl.length/\(∀f∈h.fl.take i,f.ok h.op.length h.per)/\(h.fl.take i).Pairwise λf g=>¬TH f g) (λi=>h.fl.length-i) 0 sam rfl ⟨B9 _,by simp,by simp⟩ ?_
  rintro i ⟨hi,hm2,hp⟩
  by_cases hlt:i<h.fl.length
  ·obtain⟨f,hx,_⟩:=dI hlt
   have hl:wS (h.fl.take (i+1))=wS (h.fl.take i)++wS [f]:=by unfold wS;rw[D1,hx,L6,D2];rfl
   have hmem:f.label∈wS (h.fl.take i)↔∃g∈h.fl.take i,g.kind=3/\g.label=f.label:=by
    unfold wS
    simp only[K4,bS,F3]
    constructor
    ·rintro⟨g,⟨a,b⟩,c⟩;exact⟨g,a,b,c⟩
    ·rintro⟨g,a,b,c⟩;exact⟨g,⟨a,b⟩,c⟩
   have hF:=BL h f (by omega) (by omega)
   by_cases hfo:f.ok h.op.length h.per
   ·rw[C2 hfo] at hF
    by_cases hk:f.kind=3
    ·by_cases hin:f.label∈wS (h.fl.take i)
     ·have hget:(cY tt 3 (I f.label) (sA (wS (h.fl.take i)))).getD (.b false)=.b true:=by rw[AP,if_pos hin];rfl
      obtain⟨g,g1,g2,g3⟩:=hmem.1 hin
      have hno:¬h.ok:=λhh=>by
       obtain⟨j,hj⟩:=D9.1 g1
       have hji:j<i:=by
        have:=(A4.1 hj).1
        rw[D0] at this;omega
       rw[I8 hji] at hj
       exact B3o hh.lab hji hj hx ⟨g2,hk,g3⟩
      rw[B6 hno]
      repeat' ((conv=>whnf);first|refine sT ?_|refine sP ?_ ?_<;>intro _|refine A9 (D4 hx) ?_|refine cA hF ?_|refine Nam.mk hget ?_|fail)
      all_goals first|(exfalso;omega)|skip
      all_goals exact fJ
     ·have hget:(cY tt 3 (I f.label) (sA (wS (h.fl.take i)))).getD (.b false)=.b false:=by rw[AP,if_neg hin];rfl
      have hput:nJ tt 3 (I f.label) (.b true) (sA (wS (h.fl.take i)))=sA (wS (h.fl.take (i+1))):=by
       rw[TF _ _ hin,hl]
       simp[wS,hk]
      repeat' ((conv=>whnf);first|refine sT ?_|refine sP ?_ ?_<;>intro _|refine A9 (D4 hx) ?_|refine cA hF ?_|refine Nam.mk hget ?_|fail)
      all_goals first|(exfalso;omega)|skip
      all_goals(conv=>whnf)
      all_goals first
       |exact⟨i+1,Wm.end sam (N8 (λes=>[Blk.vard h.d.cells,Blk.map tt 3 es]) hput) rfl rfl,⟨hlt,V9 hx hfo hm2,MN hx (λg hg ht=>hin (hmem.2 ⟨g,hg,ht.1,ht.2.2⟩)) hp⟩,by omega⟩
    ·have hl':wS (h.fl.take (i+1))=wS (h.fl.take i):=by rw[hl];simp[wS,hk]
     repeat' ((conv=>whnf);first|refine sT ?_|refine sP ?_ ?_<;>intro _|refine A9 (D4 hx) ?_|refine cA hF ?_|fail)
     all_goals first|(exfalso;omega)|skip
     all_goals(conv=>whnf)
     all_goals first
      |exact⟨i+1,Wm.end sam (N8 (λes=>[Blk.vard h.d.cells,Blk.map tt 3 (sA es)]) hl'.symm) rfl rfl,⟨hlt,V9 hx hfo hm2,MN hx (λg hg ht=>hk ht.2.1) hp⟩,by omega⟩
   ·rw[B6 hfo] at hF
    rw[B6 (λhh:h.ok=>hfo (hh.fl f (A7 hx)))]
    repeat' ((conv=>whnf);first|refine sT ?_|refine sP ?_ ?_<;>intro _|refine A9 (D4 hx) ?_|refine cA hF ?_|fail)
    all_goals first|(exfalso;omega)|skip
    all_goals exact fJ
  ·have:i=h.fl.length:=by omega
   subst this
   rw[I5] at hm2 hp
   rw[C2 (show h.ok from⟨by omega,g3,by omega,hm,hm2,hp⟩)]
   repeat' ((conv=>whnf);first|refine sT ?_|refine sP ?_ ?_<;>intro _|fail)
   all_goals first|(exfalso;omega)|skip
   all_goals exact fJ
def gE (l:List Int) (i x:Int):List Int:=l.set i.toNat (l.getD i.toNat 0+x)
def kS (l:List Int) (i x:Int):List Int:=l.set i.toNat (l.getD i.toNat 0-x)
def dD (p:Int) (now:List Int) (f:F8):List Int:=
 if f.per=p then
  (if f.kind=1 then gE now f.dst f.amt
   else if f.kind=2 then kS (gE now f.dst f.amt) f.src f.amt
   else kS now f.src f.amt)
 else now
def P0 (fl:List F8) (p:Int) (now:List Int):List Int:=fl.foldl (dD p) now
structure Bnd (B:Int) (l:List Int):Prop where
 len:l.length=16
 b:∀n∈l,-B<=n/\n<=B
theorem Bnd.at {B:Int} {l:List Int} (h:Bnd B l) {i:Int} (hi:0<=i/\i<=15):∃n,l[i.toNat]? =some n/\l.getD i.toNat 0=n/\-B<=n/\n<=B:=by
 have hl:i.toNat<l.length:=by rw[h.len];omega
 exact⟨l[i.toNat],A3 hl,by rw[A5,A3 hl];rfl,h.b _ (R5 hl)⟩
theorem Bnd.set {B C:Int} {l:List Int} (h:Bnd B l) (i:Nat) {x:Int} (hx: -C<=x/\x<=C) (hBC:B<=C):Bnd C (l.set i x):=
 ⟨by rw[L5];exact h.len,λn hn=>by
   rcases S9 hn with hn|rfl
   ·have:=h.b n hn;omega
   ·exact hx⟩
theorem gH {α:Type} {y:α} {xs zs:List α} {n:Nat} {k:List α->Prop} (h:n<xs.length) (e:xs.set n y=zs) (hk:k zs):iI xs n y k:=vK h (by rw[e];exact hk)
theorem NN {l:List Int} {i n:Int} (h:l[i.toNat]? =some n):(l.map I)[0+i.toNat*1]? =some (I n):=by rw[C1,L2,A8,h];rfl
theorem UB (l:List Int) (i n:Int):(l.map I).set (0+i.toNat*1) (I n)=(l.set i.toNat n).map I:=by rw[C1,L2,O7]
theorem A9q {l:List Int} {i n:Int} (h:l[i.toNat]? =some n):0+i.toNat*1<(l.map I).length:=by rw[C1,L2,A6];exact(A4.1 h).1
theorem vI {l:List Int} (h:l.length=16):∃a0 a1 a2 a3 a4 a5 a6 a7 a8 a9 a10 a11 a12 a13 a14 a15:Int,l=[a0,a1,a2,a3,a4,a5,a6,a7,a8,a9,a10,a11,a12,a13,a14,a15]:=by
 match l,h with
 |[a0,a1,a2,a3,a4,a5,a6,a7,a8,a9,a10,a11,a12,a13,a14,a15],_=>exact⟨a0,a1,a2,a3,a4,a5,a6,a7,a8,a9,a10,a11,a12,a13,a14,a15,rfl⟩
theorem VV (h:V8) (p:Int) (now:List Int) (hok:h.ok) (hB:Bnd 1099511627776 now):C9 Tryz.prog 52 [.d h.d,.d (I p),.d (.agg (now.map I))] (E5 [.agg ((P0 h.fl p now).map I)]):=by
 have hnf:=hok.nf
 have hnv:=hok.nv
 refine pU Tryz.func52 ?_
 repeat' ((conv=>whnf);first|refine sT ?_|refine sP ?_ ?_<;>intro _|refine bO Tryz.func90 ?_|refine rA Tryz.func130 ?_|fail)
 all_goals(conv=>whnf)
 refine lY 8 Tryz.f52.ntmps (X:=Nat×List Int) (λx=>[(9,.d (I x.1))]) (λx=>[(1,.vard (x.2.map I))])
  (λx=>x.1<=h.fl.length/\P0 (h.fl.drop x.1) p x.2=P0 h.fl p now/\Bnd (1099511627776+2097152*x.1) x.2) (λx=>h.fl.length-x.1) (0,now) sam rfl ⟨B9 _,rfl,hB⟩ ?_
 rintro⟨i,l⟩ ⟨hi,hm,hb⟩
 simp only at hi hm hb
 dsimp only
 by_cases hlt:i<h.fl.length
 ·obtain⟨f,hx,hd⟩:=dI hlt
  rw[hd,P0,dX] at hm
  have hfo:=hok.fl f (A7 hx)
  unfold F8.ok at hfo
  by_cases hp:f.per=p
  ·have hk:f.kind=1∨f.kind=2∨f.kind=3∨f.kind=4:=by omega
   rcases hk with hk|hk|hk|hk
   ·obtain⟨n,n1,n2,n3⟩:=hb.at (i:=f.dst) (by omega)
    have hs:dD p l f=l.set f.dst.toNat (n+f.amt):=by unfold dD gE;rw[if_pos hp,if_pos hk,n2]
    rw[hs] at hm
    repeat' ((conv=>whnf);first|refine sT ?_|refine sP ?_ ?_<;>intro _|refine A9 (D4 hx) ?_|refine bO Tryz.func87 ?_|refine A9 (NN n1) ?_|refine gH (A9q n1) (UB l f.dst (n+f.amt)) ?_|fail)
    all_goals first|(exfalso;omega)|skip
    all_goals(conv=>whnf)
    all_goals first|exact⟨(i+1,l.set f.dst.toNat (n+f.amt)),wE,⟨hlt,hm,hb.set _ (by dsimp only;omega) (by dsimp only;omega)⟩,by dsimp only;omega⟩
   ·obtain⟨n,n1,n2,n3⟩:=hb.at (i:=f.dst) (by omega)
    have hb1:Bnd (1099511627776+2097152*i+1048576) (l.set f.dst.toNat (n+f.amt)):=hb.set _ (by omega) (by omega)
    obtain⟨m,m1,m2,m3⟩:=hb1.at (i:=f.src) (by omega)
    have hs:dD p l f=(l.set f.dst.toNat (n+f.amt)).set f.src.toNat (m-f.amt):=by unfold dD gE kS;rw[if_pos hp,if_neg (by omega),if_pos hk,n2,m2]
    rw[hs] at hm
    repeat' ((conv=>whnf);first|refine sT ?_|refine sP ?_ ?_<;>intro _|refine A9 (D4 hx) ?_|refine bO Tryz.func89 ?_|refine bO Tryz.func87 ?_|refine A9 (NN n1) ?_|refine gH (A9q n1) (UB l f.dst (n+f.amt)) ?_|refine bO Tryz.func88 ?_|refine A9 (NN m1) ?_|refine gH (A9q m1) (UB _ f.src (m-f.amt)) ?_|fail)
    all_goals first|(exfalso;omega)|skip
    all_goals(conv=>whnf)
    all_goals first|exact⟨(i+1,(l.set f.dst.toNat (n+f.amt)).set f.src.toNat (m-f.amt)),wE,⟨hlt,hm,hb1.set _ (by dsimp only;omega) (by dsimp only;omega)⟩,by dsimp only;omega⟩
   ·obtain⟨n,n1,n2,n3⟩:=hb.at (i:=f.src) (by omega)
    have hs:dD p l f=l.set f.src.toNat (n-f.amt):=by unfold dD kS;rw[if_pos hp,if_neg (by omega),if_neg (by omega),n2]
    rw[hs] at hm
    repeat' ((conv=>whnf);first|refine sT ?_|refine sP ?_ ?_<;>intro _|refine A9 (D4 hx) ?_|refine bO Tryz.func88 ?_|refine A9 (NN n1) ?_|refine gH (A9q n1) (UB l f.src (n-f.amt)) ?_|fail)
    all_goals first|(exfalso;omega)|skip
    all_goals(conv=>whnf)
    all_goals first|exact⟨(i+1,l.set f.src.toNat (n-f.amt)),wE,⟨hlt,hm,hb.set _ (by dsimp only;omega) (by dsimp only;omega)⟩,by dsimp only;omega⟩
   ·obtain⟨n,n1,n2,n3⟩:=hb.at (i:=f.src) (by omega)
    have hs:dD p l f=l.set f.src.toNat (n-f.amt):=by unfold dD kS;rw[if_pos hp,if_neg (by omega),if_neg (by omega),n2]
    rw[hs] at hm
    repeat' ((conv=>whnf);first|refine sT ?_|refine sP ?_ ?_<;>intro _|refine A9 (D4 hx) ?_|refine bO Tryz.func88 ?_|refine A9 (NN n1) ?_|refine gH (A9q n1) (UB l f.src (n-f.amt)) ?_|fail)
    all_goals first|(exfalso;omega)|skip
    all_goals(conv=>whnf)
    all_goals first|exact⟨(i+1,l.set f.src.toNat (n-f.amt)),wE,⟨hlt,hm,hb.set _ (by dsimp only;omega) (by dsimp only;omega)⟩,by dsimp only;omega⟩
  ·have hs:dD p l f=l:=by unfold dD;rw[if_neg hp]
   rw[hs] at hm
   repeat' ((conv=>whnf);first|refine sT ?_|refine sP ?_ ?_<;>intro _|refine A9 (D4 hx) ?_|fail)
   all_goals first|(exfalso;omega)|skip
   all_goals(conv=>whnf)
   all_goals first|exact⟨(i+1,l),wE,⟨hlt,hm,⟨hb.len,λn hn=>by have:=hb.b n hn;dsimp only;omega⟩⟩,by dsimp only;omega⟩
 ·have:i=h.fl.length:=by omega
  subst this
  rw[List.drop_length] at hm
  have hm:l=P0 h.fl p now:=hm
  rw[<-hm]
  obtain⟨a0,a1,a2,a3,a4,a5,a6,a7,a8,a9,a10,a11,a12,a13,a14,a15,rfl⟩:=vI hb.len
  repeat' ((conv=>whnf);first|refine sT ?_|refine sP ?_ ?_<;>intro _|fail)
  all_goals first|(exfalso;omega)|skip
  all_goals exact fJ
inductive Rch (fl:List F8) (p:Int) (pos:Nat->Prop):Nat->Prop where
 |start (v:Nat):pos v->Rch fl p pos v
 |into (f:F8):f∈fl->f.per=p->f.kind=1->Rch fl p pos f.dst.toNat
 |move (f:F8):f∈fl->f.per=p->f.kind=2->Rch fl p pos f.src.toNat->Rch fl p pos f.dst.toNat
def QM (h:V8) (now:List Int) (v:Nat):Prop:=v<h.op.length/\0<now.getD v 0
def unm (m:List Bool):Nat:=(m.filter λb=> !b).length
theorem A2a:∀(m:List Bool) (i:Nat),m[i]? =some false->unm (m.set i true)+1=unm m
 |[],i,h=>by simp at h
 |b::m,0,h=>by simp at h;subst h;simp[unm]
 |b::m,i+1,h=>by
  have ih:=A2a m i (by simpa using h)
  cases b<;>simp[unm] at ih ⊢ <;>omega
theorem uK {m:List Bool} {i:Nat} (hi:i<m.length) (v:Nat):(m.set i true).getD v false=if v=i then true else m.getD v false:=by
 simp only[A5,K5]
 by_cases h:i=v
 ·subst h;simp[hi]
 ·rw[if_neg h,if_neg (λe=>h e.symm)]
structure Qok (fl:List F8) (p:Int) (pos:Nat->Prop) (m:List Bool) (dp:List Int):Prop where
 len:m.length=16
 cnt:dp.length+unm m=16
 rng:∀v∈dp,0<=v/\v<=15
 mem:∀v,v<16->(m.getD v false=true↔(v:Int)∈dp)
 snd:∀v,v<16->m.getD v false=true->Rch fl p pos v
theorem Qok.len_le {fl:List F8} {p:Int} {pos:Nat->Prop} {m:List Bool} {dp:List Int} (h:Qok fl p pos m dp):dp.length<=16:=by have:=h.cnt;omega
theorem Qok.push {fl:List F8} {p:Int} {pos:Nat->Prop} {m:List Bool} {dp:List Int} (h:Qok fl p pos m dp) {v:Int} (hv:0<=v/\v<=15) (hm:m[v.toNat]? =some false) (hr:Rch fl p pos v.toNat):Qok fl p pos (m.set v.toNat true) (dp++[v]):=by
 have hl:v.toNat<m.length:=by rw[h.len];omega
 refine⟨by rw[L5];exact h.len,?_,?_,λu hu=> ?_,λu hu=> ?_⟩
 ·have:=A2a m v.toNat hm
  have:=h.cnt
  simp;omega
 ·intro u hu
  rcases K0.1 hu with hu|hu
  ·exact h.rng u hu
  ·rw[H9.1 hu];exact hv
 ·rw[uK hl,K0,H9]
  by_cases e:u=v.toNat
  ·rw[if_pos e];exact⟨λ_=>.inr (by omega),λ_=>rfl⟩
  ·rw[if_neg e,h.mem u hu]
   exact⟨.inl,λh=>h.resolve_right (by omega)⟩
 ·rw[uK hl]
  by_cases e:u=v.toNat
  ·rw[if_pos e];intro _;rw[e];exact hr
  ·rw[if_neg e];exact h.snd u hu
structure XQ where
 i:Nat
 m:List Bool
 vr:Nat
 lo:Nat
 ln:Nat
 dr:List D
 pre:List Int
 q:List Int
structure SX (lo ln:Nat) (dr:List D) (q:List Int):Prop where
 dr:dr.drop lo=q.map I
 ln:ln=q.length
theorem SX.room {lo ln:Nat} {dr:List D} {q:List Int} (h:SX lo ln dr q) (hl:lo<=dr.length):lo+ln=dr.length:=by
 have:=N8 List.length h.dr
 rw[aA,A6] at this
 rw[h.ln];omega
theorem SX.push {lo ln:Nat} {dr:List D} {q:List Int} (h:SX lo ln dr q) (v:Int):SX 0 (ln+1) (X1 dr lo++[I v]) (q++[v]):=by
 refine⟨?_,by rw[h.ln];simp⟩
 have:X1 dr lo=q.map I:=by
  rw[<-h.dr]
  cases lo with
  |zero=>simp[X1]
  |succ lo=>rfl
 rw[O4,this,D2];rfl
theorem JE {m:List Bool} {i:Int} {b:Bool} (h:m[i.toNat]? =some b):(m.map B)[0+i.toNat*1]? =some (B b):=by rw[C1,L2,A8,h];rfl
theorem A7z (m:List Bool) (i:Int) (b:Bool):(m.map B).set (0+i.toNat*1) (B b)=(m.set i.toNat b).map B:=by rw[C1,L2,O7]
theorem lt_B {m:List Bool} {i:Int} {b:Bool} (h:m[i.toNat]? =some b):0+i.toNat*1<(m.map B).length:=by rw[C1,L2,A6];exact(A4.1 h).1
theorem B4u {m:List Bool} (hl:m.length=16) {i:Int} (hi:0<=i/\i<=15):∃b,m[i.toNat]? =some b/\m.getD i.toNat false=b:=by
 have h:i.toNat<m.length:=by omega
 exact⟨m[i.toNat],A3 h,by rw[A5,A3 h];rfl⟩
theorem at_I {l:List Int} (hl:l.length=16) {i:Int} (hi:0<=i/\i<=15):∃n,l[i.toNat]? =some n/\l.getD i.toNat 0=n:=by
 have h:i.toNat<l.length:=by omega
 exact⟨l[i.toNat],A3 h,by rw[A5,A3 h];rfl⟩
theorem B5c (n v:Nat):(List.replicate n false).getD v false=false:=by
 rw[A5,J2]
 split<;>rfl
theorem q0 (fl:List F8) (p:Int) (pos:Nat->Prop):Qok fl p pos (List.replicate 16 false) ([]++[]):=
 ⟨rfl,rfl,by simp,λv hv=>by rw[B5c];simp,λv hv h=>by rw[B5c] at h;cases h⟩
theorem zT {m:List Bool} (hm:m.length=16) {i:Nat} (hi:i<16) {v:Nat} (h:m.getD v false=true):(m.set i true).getD v false=true:=by
 rw[uK (by omega)]
 by_cases e:v=i
 ·rw[if_pos e]
 ·rw[if_neg e];exact h
theorem A2f {m:List Bool} (hm:m.length=16) {i:Nat} (hi:i<16):(m.set i true).getD i false=true:=by
 rw[uK (by omega),if_pos rfl]
theorem TZ {l:List Bool} (h:l.length=16):∃a0 a1 a2 a3 a4 a5 a6 a7 a8 a9 a10 a11 a12 a13 a14 a15:Bool,l=[a0,a1,a2,a3,a4,a5,a6,a7,a8,a9,a10,a11,a12,a13,a14,a15]:=by
 match l,h with
 |[a0,a1,a2,a3,a4,a5,a6,a7,a8,a9,a10,a11,a12,a13,a14,a15],_=>exact⟨a0,a1,a2,a3,a4,a5,a6,a7,a8,a9,a10,a11,a12,a13,a14,a15,rfl⟩
theorem B1q {a b:List Bool} (ha:a.length=16) (hb:b.length=16) (h:∀v,v<16->(a.getD v false=true↔b.getD v false=true)):a=b:=by
 refine List.ext_getElem (by omega) λi h1 h2=> ?_
 have:=h i (by omega)
 rw[A5,A5,A3 h1,A3 h2] at this
 simp only[O0] at this
 exact bT.2 this
theorem Rch.marked {fl:List F8} {p:Int} {pos:Nat->Prop} {m:List Bool} {dp:List Int} {nv:Nat} {np:Int} (hq:Qok fl p pos m dp) (hnv:nv<=16) (hok:∀f∈fl,f.ok nv np)
 (h1:∀j,pos j->m.getD j false=true) (h2:∀f∈fl,f.per=p->f.kind=1->m.getD f.dst.toNat false=true) (h3:∀f∈fl,f.per=p->f.kind=2->f.src∈dp->m.getD f.dst.toNat false=true) {v:Nat} (h:Rch fl p pos v):m.getD v false=true:=by
 induction h with
 |start v hv=>exact h1 v hv
 |into f hf hp hk=>exact h2 f hf hp hk
 |move f hf hp hk _ ih=>
  have hfo:=hok f hf
  unfold F8.ok at hfo
  refine h3 f hf hp hk ?_
  have:=(hq.mem f.src.toNat (by omega)).1 ih
  rwa[vC (by omega)] at this
theorem A5b (h:V8) (p:Int) (now:List Int) (M:List Bool) (hok:h.ok) (hB:now.length=16) (hM:M.length=16) (hR:∀v,v<16->(M.getD v false=true↔Rch h.fl p (QM h now) v)):
 C9 Tryz.prog 91 [.d h.d,.d (I p),.d (.agg (now.map I))] (E5 [.agg (M.map B)]):=by
 have hnf:=hok.nf
 have hnv:=hok.nv
 refine pU Tryz.func91 ?_
 repeat' ((conv=>whnf);first|refine sT ?_|refine sP ?_ ?_<;>intro _|fail)
 all_goals(conv=>whnf)
 have hnf:=hok.nf
 refine L3.virtC 3 0 0 1 false (by decide) rfl rfl ?_
 conv=>whnf
 refine lO (X:=XQ) (λx=>[(17,.d (I x.i))]) (λx=>[(2,.vard (x.m.map B)),(3,.var [.sref 5 x.vr x.lo x.ln false]),(5,.row x.vr 1 false x.dr)])
  (λx=>(x.i<=h.op.length/\x.lo<=x.dr.length)/\SX x.lo x.ln x.dr x.q/\Qok h.fl p (QM h now) x.m (x.pre++x.q)/\x.pre=[]/\∀j,j<x.i->0<now.getD j 0->x.m.getD j false=true) (λx=>h.op.length-x.i) ⟨0,List.replicate 16 false,0,0,0,[],[],[]⟩ sam rfl ⟨⟨B9 _,B1 _⟩,⟨rfl,rfl⟩,q0 _ _ _,rfl,λj hj=>absurd hj (Nat.not_lt_zero _)⟩ ?_
 rintro⟨i,m,vr,lo,ln,dr,pre,q⟩ ⟨⟨hi,hlo⟩,hL,hq,hpre,hst⟩
 simp only at hi hlo hL hq hpre hst
 dsimp only
 have hql:=hq.len_le
 rw[B4] at hql
 have hroom:=hL.room hlo
 have hln:=hL.ln
 by_cases hlt:i<h.op.length
 ·obtain⟨n,n1,n2⟩:=at_I hB (i:=(i:Int)) (by omega)
  obtain⟨b,b1,b2⟩:=B4u hq.len (i:=(i:Int)) (by omega)
  have hin:(now.map I)[0+(i:Int).toNat*1]? =some (I n):=NN n1
  rw[B0] at n2 b2
  by_cases hpos:0<n
  ·have hr:Rch h.fl p (QM h now) (i:Int).toNat:=.start _ ⟨by omega,by rw[B0,n2];exact hpos⟩
   cases b with
   |true=>
    repeat' ((conv=>whnf);first|refine sT ?_|refine sP ?_ ?_<;>intro _|refine A9 hin ?_|refine bO Tryz.func131 ?_|refine A9 (JE b1) ?_|fail)
    all_goals first|(exfalso;omega)|skip
    all_goals(conv=>whnf)
    all_goals first
     |exact⟨⟨i+1,m,vr,lo,ln,dr,pre,q⟩,wE,⟨⟨hlt,hlo⟩,hL,hq,hpre,λj hj hp=>by
       by_cases e:j=i
       ·subst e;exact b2
       ·exact hst j (by dsimp only at hj;omega) hp⟩,by dsimp only;omega⟩
   |false=>
    have hq':=hq.push (v:=(i:Int)) (by omega) b1 hr
    rw[D5] at hq'
    repeat' ((conv=>whnf);first|refine sT ?_|refine sP ?_ ?_<;>intro _|refine A9 hin ?_|refine bO Tryz.func131 ?_|refine A9 (JE b1) ?_|refine gH (lt_B b1) (A7z m (i:Int) true) ?_|refine Chk.mk ⟨rfl,by omega,by simp only[room,F1];omega⟩ ?_|fail)
    all_goals first|(exfalso;omega)|skip
    all_goals(conv=>whnf)
    all_goals first
     |exact⟨⟨i+1,m.set (i:Int).toNat true,vr+1,0,ln+1,X1 dr lo++[I (i:Int)],pre,q++[(i:Int)]⟩,wE,⟨⟨hlt,B9 _⟩,hL.push _,hq',hpre,λj hj hp=>by
       dsimp only at hj ⊢
       rw[uK (by rw[hq.len];omega)]
       by_cases e:j=(i:Int).toNat
       ·rw[if_pos e]
       ·rw[if_neg e];exact hst j (by omega) hp⟩,by dsimp only;omega⟩
  ·repeat' ((conv=>whnf);first|refine sT ?_|refine sP ?_ ?_<;>intro _|refine A9 hin ?_|fail)
   all_goals first|(exfalso;omega)|skip
   all_goals(conv=>whnf)
   all_goals first
    |exact⟨⟨i+1,m,vr,lo,ln,dr,pre,q⟩,wE,⟨⟨hlt,hlo⟩,hL,hq,hpre,λj hj hp=>by
      by_cases e:j=i
      ·subst e;omega
      ·exact hst j (by dsimp only at hj;omega) hp⟩,by dsimp only;omega⟩
 ·have:i=h.op.length:=by omega
  subst this
  clear hlt hi
  repeat' ((conv=>whnf);first|refine sT ?_|refine sP ?_ ?_<;>intro _|refine bO Tryz.func90 ?_|refine rA Tryz.func130 ?_|fail)
  all_goals first|(exfalso;omega)|skip
  all_goals(conv=>whnf)
  refine lY 8 Tryz.f91.ntmps (X:=XQ) (λx=>[(9,.d (I x.i))]) (λx=>[(2,.vard (x.m.map B)),(3,.var [.sref 5 x.vr x.lo x.ln false]),(5,.row x.vr 1 false x.dr)])
   (λx=>(x.i<=h.fl.length/\x.lo<=x.dr.length)/\SX x.lo x.ln x.dr x.q/\Qok h.fl p (QM h now) x.m (x.pre++x.q)/\x.pre=[]/\(∀j,j<h.op.length->0<now.getD j 0->x.m.getD j false=true)/\∀f∈h.fl.take x.i,f.per=p->f.kind=1->x.m.getD f.dst.toNat false=true) (λx=>h.fl.length-x.i) ⟨0,m,vr,lo,ln,dr,pre,q⟩ sam rfl ⟨⟨B9 _,hlo⟩,hL,hq,hpre,hst,by simp⟩ ?_
  clear hL hq hst hql hroom hln hlo hpre
  rintro⟨i,m,vr,lo,ln,dr,pre,q⟩ ⟨⟨hi,hlo⟩,hL,hq,hpre,hst,hin⟩
  simp only at hi hlo hL hq hpre hst hin
  dsimp only
  have hql:=hq.len_le
  rw[B4] at hql
  have hroom:=hL.room hlo
  have hln:=hL.ln
  by_cases hlt:i<h.fl.length
  ·obtain⟨f,hx,_⟩:=dI hlt
   have hfm:=A7 hx
   have hfo:=hok.fl f hfm
   unfold F8.ok at hfo
   by_cases hp:f.per=p/\f.kind=1
   ·obtain⟨hp,hk⟩:=hp
    obtain⟨b,b1,b2⟩:=B4u hq.len (i:=f.dst) (by omega)
    have hr:Rch h.fl p (QM h now) f.dst.toNat:=.into f hfm hp hk
    cases b with
    |true=>
     repeat' ((conv=>whnf);first|refine sT ?_|refine sP ?_ ?_<;>intro _|refine A9 (D4 hx) ?_|refine bO Tryz.func131 ?_|refine A9 (JE b1) ?_|fail)
     all_goals first|(exfalso;omega)|skip
     all_goals(conv=>whnf)
     all_goals first
      |exact⟨⟨i+1,m,vr,lo,ln,dr,pre,q⟩,wE,⟨⟨hlt,hlo⟩,hL,hq,hpre,hst,V9 hx (λ_ _=>b2) hin⟩,by dsimp only;omega⟩
    |false=>
     have hq':=hq.push (v:=f.dst) (by omega) b1 hr
     rw[D5] at hq'
     repeat' ((conv=>whnf);first|refine sT ?_|refine sP ?_ ?_<;>intro _|refine A9 (D4 hx) ?_|refine bO Tryz.func131 ?_|refine A9 (JE b1) ?_|refine gH (lt_B b1) (A7z m f.dst true) ?_|refine Chk.mk ⟨rfl,by omega,by simp only[room,F1];omega⟩ ?_|fail)
     all_goals first|(exfalso;omega)|skip
     all_goals(conv=>whnf)
     all_goals first
      |exact⟨⟨i+1,m.set f.dst.toNat true,vr+1,0,ln+1,X1 dr lo++[I f.dst],pre,q++[f.dst]⟩,wE,⟨⟨hlt,B9 _⟩,hL.push _,hq',hpre,λj hj hp=>zT hq.len (by omega) (hst j hj hp),V9 hx (λ_ _=>A2f hq.len (by omega)) (λg hg h1 h2=>zT hq.len (by omega) (hin g hg h1 h2))⟩,by dsimp only;omega⟩
   ·repeat' ((conv=>whnf);first|refine sT ?_|refine sP ?_ ?_<;>intro _|refine A9 (D4 hx) ?_|fail)
    all_goals first|(exfalso;exact hp ⟨by assumption,by assumption⟩)|skip
    all_goals(conv=>whnf)
    all_goals first
     |exact⟨⟨i+1,m,vr,lo,ln,dr,pre,q⟩,wE,⟨⟨hlt,hlo⟩,hL,hq,hpre,hst,V9 hx (λh1 h2=>absurd ⟨h1,h2⟩ hp) hin⟩,by dsimp only;omega⟩
  ·have:i=h.fl.length:=by omega
   subst this
   rw[I5] at hin
   clear hlt hi
   repeat' ((conv=>whnf);first|refine sT ?_|refine sP ?_ ?_<;>intro _|fail)
   all_goals first|(exfalso;omega)|skip
   all_goals(conv=>whnf)
   refine lO (X:=XQ) (λ_=>[]) (λx=>[(2,.vard (x.m.map B)),(3,.var [.sref 5 x.vr x.lo x.ln false]),(5,.row x.vr 1 false x.dr)])
    (λx=>x.lo<=x.dr.length/\SX x.lo x.ln x.dr x.q/\Qok h.fl p (QM h now) x.m (x.pre++x.q)/\((∀j,j<h.op.length->0<now.getD j 0->x.m.getD j false=true)/\∀f∈h.fl,f.per=p->f.kind=1->x.m.getD f.dst.toNat false=true)/\∀f∈h.fl,f.per=p->f.kind=2->f.src∈x.pre->x.m.getD f.dst.toNat false=true) (λx=>16-x.pre.length) ⟨0,m,vr,lo,ln,dr,pre,q⟩ sam rfl ⟨hlo,hL,hq,⟨hst,hin⟩,by rw[hpre];simp⟩ ?_
   clear hL hq hst hql hroom hln hlo hpre hin
   rintro⟨_,m,vr,lo,ln,dr,pre,q⟩ ⟨hlo,hL,hq,hs,hc⟩
   simp only at hlo hL hq hs hc
   dsimp only
   have hql:=hq.len_le
   rw[B4] at hql
   have hroom:=hL.room hlo
   have hln:=hL.ln
   cases q with
   |nil=>
    simp only[V7] at hln
    subst hln
    repeat' ((conv=>whnf);first|refine sT ?_|refine sP ?_ ?_<;>intro _|fail)
    all_goals first|(exfalso;omega)|skip
    all_goals(conv=>whnf)
    rw[I3] at hq
    have hMm:M=m:=B1q hM hq.len λv hv=>by
     rw[hR v hv]
     exact⟨λhr=>hr.marked hq hnv hok.fl (λj hj=>hs.1 j hj.1 hj.2) hs.2 hc,hq.snd v hv⟩
    rw[hMm]
    obtain⟨a0,a1,a2,a3,a4,a5,a6,a7,a8,a9,a10,a11,a12,a13,a14,a15,rfl⟩:=TZ hq.len
    repeat' ((conv=>whnf);first|refine sT ?_|refine sP ?_ ?_<;>intro _|fail)
    all_goals first|(exfalso;omega)|skip
    all_goals exact fJ
   |cons v q=>
    have hv:=hq.rng v (by simp)
    have hd0:dr[lo]? =some (I v):=by
     have:=N8 (λl=>l[0]?) hL.dr
     simpa[J4] using this
    have hd1:dr.drop (lo+1)=q.map I:=by
     have:=N8 (λl=>l.drop 1) hL.dr
     simpa[xL,kK] using this
    have hln1:ln=q.length+1:=by rw[hln];rfl
    have hmv:m.getD v.toNat false=true:=(hq.mem v.toNat (by omega)).2 (by rw[vC hv.1];simp)
    repeat' ((conv=>whnf);first|refine sT ?_|refine sP ?_ ?_<;>intro _|refine A9 hd0 ?_|refine bO Tryz.func90 ?_|refine rA Tryz.func130 ?_|fail)
    all_goals first|(exfalso;omega)|skip
    all_goals(conv=>whnf)
    rw[show pre++v::q=(pre++[v])++q by simp] at hq
    refine lY 12 Tryz.f91.ntmps (X:=XQ) (λx=>[(9,.d (I x.i))]) (λx=>[(2,.vard (x.m.map B)),(3,.var [.sref 5 x.vr x.lo x.ln false]),(5,.row x.vr 1 false x.dr)])
     (λx=>(x.i<=h.fl.length/\x.lo<=x.dr.length)/\SX x.lo x.ln x.dr x.q/\Qok h.fl p (QM h now) x.m (x.pre++x.q)/\x.pre=pre++[v]/\(∀u,m.getD u false=true->x.m.getD u false=true)/\∀f∈h.fl.take x.i,f.per=p->f.kind=2->f.src=v->x.m.getD f.dst.toNat false=true) (λx=>h.fl.length-x.i) ⟨0,m,vr,lo+1,ln-1,dr,pre++[v],q⟩ sam rfl ⟨⟨B9 _,by dsimp only;omega⟩,⟨hd1,by dsimp only;omega⟩,hq,rfl,λ_ h=>h,by simp⟩ ?_
    clear hL hroom hln hlo hd0 hd1 hln1 hql
    rintro⟨i,m2,vr,lo,ln,dr,pre2,q⟩ ⟨⟨hi,hlo⟩,hL,hq2,hpre,hkeep,hin⟩
    simp only at hi hlo hL hq2 hpre hkeep hin
    dsimp only
    have hql:=hq2.len_le
    rw[B4] at hql
    have hroom:=hL.room hlo
    have hln:=hL.ln
    by_cases hlt:i<h.fl.length
    ·obtain⟨f,hx,_⟩:=dI hlt
     have hfm:=A7 hx
     have hfo:=hok.fl f hfm
     unfold F8.ok at hfo
     by_cases hp:f.per=p/\f.kind=2/\f.src=v
     ·obtain⟨hp,hk,hsv⟩:=hp
      obtain⟨b,b1,b2⟩:=B4u hq2.len (i:=f.dst) (by omega)
      have hr:Rch h.fl p (QM h now) f.dst.toNat:=.move f hfm hp hk (by rw[hsv];exact hq.snd _ (by omega) hmv)
      cases b with
      |true=>
       repeat' ((conv=>whnf);first|refine sT ?_|refine sP ?_ ?_<;>intro _|refine A9 (D4 hx) ?_|refine bO Tryz.func131 ?_|refine A9 (JE b1) ?_|fail)
       all_goals first|(exfalso;omega)|skip
       all_goals(conv=>whnf)
       all_goals first
        |exact⟨⟨i+1,m2,vr,lo,ln,dr,pre2,q⟩,wE,⟨⟨hlt,hlo⟩,hL,hq2,hpre,hkeep,V9 hx (λ_ _ _=>b2) hin⟩,by dsimp only;omega⟩
      |false=>
       have hq':=hq2.push (v:=f.dst) (by omega) b1 hr
       rw[D5] at hq'
       repeat' ((conv=>whnf);first|refine sT ?_|refine sP ?_ ?_<;>intro _|refine A9 (D4 hx) ?_|refine bO Tryz.func131 ?_|refine A9 (JE b1) ?_|refine gH (lt_B b1) (A7z m2 f.dst true) ?_|refine Chk.mk ⟨rfl,by omega,by simp only[room,F1];omega⟩ ?_|fail)
       all_goals first|(exfalso;omega)|skip
       all_goals(conv=>whnf)
       all_goals first
        |exact⟨⟨i+1,m2.set f.dst.toNat true,vr+1,0,ln+1,X1 dr lo++[I f.dst],pre2,q++[f.dst]⟩,wE,⟨⟨hlt,B9 _⟩,hL.push _,hq',hpre,λu hu=>zT hq2.len (by omega) (hkeep u hu),V9 hx (λ_ _ _=>A2f hq2.len (by omega)) (λg hg h1 h2 h3=>zT hq2.len (by omega) (hin g hg h1 h2 h3))⟩,by dsimp only;omega⟩
     ·repeat' ((conv=>whnf);first|refine sT ?_|refine sP ?_ ?_<;>intro _|refine A9 (D4 hx) ?_|fail)
      all_goals first|(exfalso;exact hp ⟨by assumption,by assumption,by assumption⟩)|skip
      all_goals(conv=>whnf)
      all_goals first
       |exact⟨⟨i+1,m2,vr,lo,ln,dr,pre2,q⟩,wE,⟨⟨hlt,hlo⟩,hL,hq2,hpre,hkeep,V9 hx (λh1 h2 h3=>absurd ⟨h1,h2,h3⟩ hp) hin⟩,by dsimp only;omega⟩
    ·have:i=h.fl.length:=by omega
     subst this
     rw[I5] at hin
     clear hlt hi
     repeat' ((conv=>whnf);first|refine sT ?_|refine sP ?_ ?_<;>intro _|fail)
     all_goals first|(exfalso;omega)|skip
     all_goals(conv=>whnf)
     all_goals first
      |exact⟨⟨0,m2,vr,lo,ln,dr,pre2,q⟩,wE,⟨hlo,hL,hq2,⟨λj h1 h2=>hkeep _ (hs.1 j h1 h2),λf hf h1 h2=>hkeep _ (hs.2 f hf h1 h2)⟩,λf hf h1 h2 h3=>by
        dsimp only at h3
        rw[hpre] at h3
        rcases K0.1 h3 with h3|h3
        ·exact hkeep _ (hc f hf h1 h2 h3)
        ·exact hin f hf h1 h2 (H9.1 h3)⟩,by
        have:=hq2.len_le
        rw[hpre] at this ⊢
        simp only[B4,F1] at this ⊢
        omega⟩
def zD (fl:List F8) (p:Int) (e:List Int) (M:List Bool):Prop:=(∀n∈e,0<=n)/\∀f∈fl,f.per=p->¬f.kind=1->M.getD f.src.toNat false=true
instance (fl:List F8) (p:Int) (e:List Int) (M:List Bool):Decidable (zD fl p e M):=by unfold zD;infer_instance
theorem JK (h:V8) (p:Int) (now e:List Int) (M:List Bool) (hok:h.ok) (hB:now.length=16) (hE:e.length=16) (hM:M.length=16) (hR:∀v,v<16->(M.getD v false=true↔Rch h.fl p (QM h now) v)):
 C9 Tryz.prog 53 [.d h.d,.d (I p),.d (.agg (now.map I)),.d (.agg (e.map I))] (E5 [.b (decide (zD h.fl p e M))]):=by
 have hnf:=hok.nf
 have hnv:=hok.nv
 have hF:=A5b h p now M hok hB hM hR
 obtain⟨a0,a1,a2,a3,a4,a5,a6,a7,a8,a9,a10,a11,a12,a13,a14,a15,hMe⟩:=TZ hM
 obtain⟨b0,b1,b2,b3,b4,b5,b6,b7,b8,b9,b10,b11,b12,b13,b14,b15,hEe⟩:=vI hE
 have hF:C9 Tryz.prog 91 [.d h.d,.d (I p),.d (.agg (now.map I))] (E5 [.agg ([a0,a1,a2,a3,a4,a5,a6,a7,a8,a9,a10,a11,a12,a13,a14,a15].map B)]):=by rw[<-hMe];exact hF
 have hgB:∀{i:Int} {b:Bool},M[i.toNat]? =some b->([a0,a1,a2,a3,a4,a5,a6,a7,a8,a9,a10,a11,a12,a13,a14,a15].map B)[0+i.toNat*1]? =some (B b):=λh=>by rw[<-hMe];exact JE h
 have hgI:∀{i:Nat} {n:Int},e[i]? =some n->([b0,b1,b2,b3,b4,b5,b6,b7,b8,b9,b10,b11,b12,b13,b14,b15].map I)[((i:Nat):Int).toNat]? =some (I n):=λh=>by rw[<-hEe,B0,A8,h];rfl
 obtain⟨c0,c1,c2,c3,c4,c5,c6,c7,c8,c9,c10,c11,c12,c13,c14,c15,hNe⟩:=vI hB
 rw[show now.map I=[c0,c1,c2,c3,c4,c5,c6,c7,c8,c9,c10,c11,c12,c13,c14,c15].map I by rw[hNe]] at hF ⊢
 rw[show e.map I=[b0,b1,b2,b3,b4,b5,b6,b7,b8,b9,b10,b11,b12,b13,b14,b15].map I by rw[hEe]]
 refine pU Tryz.func53 ?_
 repeat' ((conv=>whnf);first|refine sT ?_|refine sP ?_ ?_<;>intro _|fail)
 all_goals(conv=>whnf)
 refine lO (X:=Nat) (λi=>[(14,.d (I i))]) (λ_=>[]) (λi=>i<=16/\∀n∈e.take i,0<=n) (λi=>16-i) 0 sam rfl ⟨B9 _,by simp⟩ ?_
 rintro i ⟨hi,hm⟩
 by_cases hlt:i<16
 ·obtain⟨n,hx⟩:∃n,e[i]? =some n:=⟨_,A3 (by omega)⟩
  repeat' ((conv=>whnf);first|refine sT ?_|refine sP ?_ ?_<;>intro _|refine A9 (hgI hx) ?_|fail)
  all_goals first|(exfalso;omega)|skip
  all_goals(conv=>whnf)
  all_goals first
   |(have hn:0<=n:=by omega
     exact⟨i+1,wE,⟨hlt,V9 hx hn hm⟩,by omega⟩)
   |(have hn:¬0<=n:=by omega
     rw[B6 (λhh:zD h.fl p e M=>hn (hh.1 n (A7 hx)))];exact DLe.refl _)
 ·have:i=16:=by omega
  subst this
  rw[C7 (by omega)] at hm
  repeat' ((conv=>whnf);first|refine sT ?_|refine sP ?_ ?_<;>intro _|refine cA hF ?_|refine bO Tryz.func90 ?_|refine rA Tryz.func130 ?_|fail)
  all_goals first|(exfalso;omega)|skip
  all_goals(conv=>whnf)
  refine lY 7 Tryz.f53.ntmps (X:=Nat) (λi=>[(9,.d (I i))]) (λ_=>[]) (λi=>i<=h.fl.length/\∀f∈h.fl.take i,f.per=p->¬f.kind=1->M.getD f.src.toNat false=true) (λi=>h.fl.length-i) 0 sam rfl ⟨B9 _,by simp⟩ ?_
  rintro i ⟨hi,hr⟩
  by_cases hlt2:i<h.fl.length
  ·obtain⟨f,hx,_⟩:=dI hlt2
   have hfm:=A7 hx
   have hfo:=hok.fl f hfm
   unfold F8.ok at hfo
   obtain⟨b,z1,z2⟩:=B4u hM (i:=f.src) (by omega)
   by_cases hp:f.per=p/\¬f.kind=1
   ·obtain⟨hp,hk⟩:=hp
    cases b with
    |true=>
     repeat' ((conv=>whnf);first|refine sT ?_|refine sP ?_ ?_<;>intro _|refine A9 (D4 hx) ?_|refine A9 (hgB z1) ?_|fail)
     all_goals first|(exfalso;omega)|skip
     all_goals(conv=>whnf)
     all_goals first|exact⟨i+1,wE,⟨hlt2,V9 hx (λ_ _=>z2) hr⟩,by omega⟩
    |false=>
     rw[B6 (λhh:zD h.fl p e M=>by have:=hh.2 f hfm hp hk;rw[z2] at this;cases this)]
     repeat' ((conv=>whnf);first|refine sT ?_|refine sP ?_ ?_<;>intro _|refine A9 (D4 hx) ?_|refine A9 (hgB z1) ?_|fail)
     all_goals first|(exfalso;omega)|skip
     all_goals exact fJ
   ·repeat' ((conv=>whnf);first|refine sT ?_|refine sP ?_ ?_<;>intro _|refine A9 (D4 hx) ?_|fail)
    all_goals first|(exfalso;exact hp ⟨by assumption,by assumption⟩)|skip
    all_goals(conv=>whnf)
    all_goals first|exact⟨i+1,wE,⟨hlt2,V9 hx (λh1 h2=>absurd ⟨h1,h2⟩ hp) hr⟩,by omega⟩
  ·have:i=h.fl.length:=by omega
   subst this
   rw[I5] at hr
   rw[C2 (show zD h.fl p e M from⟨hm,hr⟩)]
   repeat' ((conv=>whnf);first|refine sT ?_|refine sP ?_ ?_<;>intro _|fail)
   all_goals first|(exfalso;omega)|skip
   all_goals exact fJ
def mZ (p:Int) (m:List Bool) (f:F8):List Bool:=if f.per=p/\(f.kind=1∨f.kind=2/\m.getD f.src.toNat false=true) then m.set f.dst.toNat true else m
def oH (fl:List F8) (p:Int) (m:List Bool):List Bool:=fl.foldl (mZ p) m
def mG (fl:List F8) (p:Int):Nat->List Bool->List Bool
 |0,m=>m
 |n+1,m=>mG fl p n (oH fl p m)
def BM (fl:List F8) (p:Int) (now:List Int):List Bool:=mG fl p (now.length+1) (now.map λn=>decide (0<n))
theorem A1o:∀(m:List Bool) (i:Nat),unm (m.set i true)<=unm m/\(unm (m.set i true)=unm m->m.set i true=m)
 |[],i=>by simp
 |b::m,0=>by cases b<;>simp[unm]
 |b::m,i+1=>by
  obtain⟨a,c⟩:=A1o m i
  cases b<;>simp[unm] at a c ⊢
  ·exact⟨a,c⟩
  ·exact⟨a,c⟩
theorem A7m (p:Int) (m:List Bool) (f:F8):unm (mZ p m f)<=unm m/\(unm (mZ p m f)=unm m->mZ p m f=m):=by
 unfold mZ
 split
 ·exact A1o m _
 ·exact⟨B1 _,λ_=>rfl⟩
theorem HK (p:Int):∀(fl:List F8) (m:List Bool),unm (oH fl p m)<=unm m/\(unm (oH fl p m)=unm m->oH fl p m=m/\∀f∈fl,mZ p m f=m)
 |[],m=>⟨B1 _,λ_=>⟨rfl,λ_ h=>by cases h⟩⟩
 |f::fl,m=>by
  obtain⟨a,b⟩:=A7m p m f
  obtain⟨c,d⟩:=HK p fl (mZ p m f)
  have e:oH (f::fl) p m=oH fl p (mZ p m f):=rfl
  rw[e]
  refine⟨by omega,λh=> ?_⟩
  have h1:=b (by omega)
  obtain⟨d1,d2⟩:=d (by omega)
  rw[h1] at d1 d2
  rw[h1]
  refine⟨d1,λg hg=> ?_⟩
  cases hg with
  |head=>exact h1
  |tail _ hg=>exact d2 g hg
theorem DA (fl:List F8) (p:Int):∀(n:Nat) (m:List Bool),unm m<n->oH fl p (mG fl p n m)=mG fl p n m
 |0,m,h=>by omega
 |n+1,m,h=>by
  obtain⟨a,b⟩:=HK p fl m
  by_cases e:unm (oH fl p m)=unm m
  ·obtain⟨b1,_⟩:=b e
   have:∀k,mG fl p k m=m:=by
    intro k
    induction k with
    |zero=>rfl
    |succ k ih=>show mG fl p k (oH fl p m)=m;rw[b1];exact ih
   rw[this];exact b1
  ·exact DA fl p n (oH fl p m) (by omega)
theorem unm_le (m:List Bool):unm m<=m.length:=L0 _ _
theorem A3x (p:Int) (m:List Bool) (f:F8):(mZ p m f).length=m.length:=by unfold mZ;split<;>simp
theorem MY (p:Int):∀(fl:List F8) (m:List Bool),(oH fl p m).length=m.length
 |[],m=>rfl
 |f::fl,m=>(MY p fl _).trans (A3x p m f)
theorem CZ (fl:List F8) (p:Int):∀(n:Nat) (m:List Bool),(mG fl p n m).length=m.length
 |0,m=>rfl
 |n+1,m=>(CZ fl p n _).trans (MY p fl m)
theorem WC (fl:List F8) (p:Int) (now:List Int):(BM fl p now).length=now.length:=by unfold BM;rw[CZ,A6]
theorem YN (p:Int) (m:List Bool) (f:F8) (v:Nat) (h:m.getD v false=true):(mZ p m f).getD v false=true:=by
 unfold mZ
 split
 ·simp only[A5,K5] at h ⊢
  split
  ·split
   ·rfl
   ·rename_i h1 h2
    rw[<-h1,E0 (by omega)] at h
    cases h
  ·exact h
 ·exact h
theorem HL (p:Int):∀(fl:List F8) (m:List Bool) (v:Nat),m.getD v false=true->(oH fl p m).getD v false=true
 |[],m,v,h=>h
 |f::fl,m,v,h=>HL p fl _ v (YN p m f v h)
theorem yY (fl:List F8) (p:Int):∀(n:Nat) (m:List Bool) (v:Nat),m.getD v false=true->(mG fl p n m).getD v false=true
 |0,m,v,h=>h
 |n+1,m,v,h=>yY fl p n _ v (HL p fl m v h)
theorem A3w {fl:List F8} {p:Int} {pos:Nat->Prop} {m:List Bool} (h:∀v,m.getD v false=true->Rch fl p pos v) {f:F8} (hf:f∈fl):∀v,(mZ p m f).getD v false=true->Rch fl p pos v:=by
 intro v hv
 unfold mZ at hv
 split at hv
 ·rename_i hc
  simp only[A5,K5] at hv
  split at hv
  ·rename_i e
   rw[<-e]
   rcases hc.2 with h1|⟨h1,h2⟩
   ·exact .into f hf hc.1 h1
   ·exact .move f hf hc.1 h1 (h _ h2)
  ·exact h v (by rw[A5];exact hv)
 ·exact h v hv
theorem MX {fl:List F8} {p:Int} {pos:Nat->Prop}:∀(l:List F8),(∀f∈l,f∈fl)->∀{m:List Bool},(∀v,m.getD v false=true->Rch fl p pos v)->∀v,(oH l p m).getD v false=true->Rch fl p pos v
 |[],_,m,h=>h
 |f::l,hl,m,h=>MX l (λg hg=>hl g (.tail _ hg)) (A3w h (hl f (.head _)))
theorem CY {fl:List F8} {p:Int} {pos:Nat->Prop}:∀(n:Nat) {m:List Bool},(∀v,m.getD v false=true->Rch fl p pos v)->∀v,(mG fl p n m).getD v false=true->Rch fl p pos v
 |0,m,h=>h
 |n+1,m,h=>CY n (MX fl (λ_ h=>h) h)
def YX (now:List Int) (v:Nat):Prop:=0<now.getD v 0
theorem WD {fl:List F8} {p:Int} {now:List Int} {np:Int} (hok:∀f∈fl,f.ok now.length np) (v:Nat):(BM fl p now).getD v false=true↔Rch fl p (YX now) v:=by
 have h0:∀v,(now.map λn=>decide (0<n)).getD v false=true↔YX now v:=by
  intro v
  unfold YX
  simp only[A5,A8]
  cases now[v]? with
  |none=>simp
  |some n=>simp
 constructor
 ·exact CY _ (λv h=>.start v ((h0 v).1 h)) v
 ·intro h
  have hfix:oH fl p (BM fl p now)=BM fl p now:=DA fl p _ _ (by have:=unm_le (now.map λn=>decide (0<n));rw[A6] at this;omega)
  obtain⟨_,hst⟩:=(HK p fl (BM fl p now)).2 (by rw[hfix])
  have J3:∀f∈fl,f.per=p->(f.kind=1∨f.kind=2/\(BM fl p now).getD f.src.toNat false=true)->(BM fl p now).getD f.dst.toNat false=true:=by
   intro f hf hp hk
   have h1:=hst f hf
   unfold mZ at h1
   rw[if_pos ⟨hp,hk⟩] at h1
   rw[<-h1]
   have hfo:=hok f hf
   unfold F8.ok at hfo
   have hlt:f.dst.toNat<(BM fl p now).length:=by rw[WC];omega
   simp[A5,hlt]
  induction h with
  |start v hv=>exact yY fl p _ _ v ((h0 v).2 hv)
  |into f hf hp hk=>exact J3 f hf hp (.inl hk)
  |move f hf hp hk _ ih=>exact J3 f hf hp (.inr ⟨hk,ih⟩)
def rL (l:List Int):List Int:=l++List.replicate (16-l.length) 0
theorem tW {l:List Int} (h:l.length<=16):(rL l).length=16:=by unfold rL;simp;omega
theorem rE {l r:List Int} {i:Nat} {x:Int} (h:i<l.length):(l++r).set i x=l.set i x++r:=List.set_append_left _ _ h
theorem oO {l r:List Int} {i:Nat} (h:i<l.length):(l++r).getD i 0=l.getD i 0:=by simp[A5,B8 h]
theorem AS (p:Int) (l:List Int) (f:F8):(dD p l f).length=l.length:=by
 unfold dD gE kS
 split
 ·split
  ·simp
  ·split<;>simp
 ·rfl
theorem cD (p:Int):∀(fl:List F8) (l:List Int),(P0 fl p l).length=l.length
 |[],l=>rfl
 |f::fl,l=>(cD p fl _).trans (AS p l f)
theorem A3y {p:Int} {l r:List Int} {f:F8} {np:Int} (hf:f.ok l.length np):dD p (l++r) f=dD p l f++r:=by
 unfold F8.ok at hf
 unfold dD gE kS
 split
 ·split
  ·rw[oO (by omega),rE (by omega)]
  ·split
   ·rw[oO (by omega),rE (by omega),oO (by rw[L5];omega),rE (by rw[L5];omega)]
   ·rw[oO (by omega),rE (by omega)]
 ·rfl
theorem KL {p:Int} {np:Int} {r:List Int}:∀(fl:List F8) {l:List Int},(∀f∈fl,f.ok l.length np)->P0 fl p (l++r)=P0 fl p l++r
 |[],l,_=>rfl
 |f::fl,l,h=>by
  show P0 fl p (dD p (l++r) f)=P0 fl p (dD p l f)++r
  rw[A3y (h f (.head _))]
  exact KL fl (λg hg=>by rw[AS];exact h g (.tail _ hg))
theorem A1a {p:Int} {np:Int} {fl:List F8} {l:List Int} (h:∀f∈fl,f.ok l.length np):P0 fl p (rL l)=rL (P0 fl p l):=by
 unfold rL
 rw[KL fl h,cD]
def uS (fl:List F8) (p:Int) (now:List Int):Prop:=zD fl p (P0 fl p now) (BM fl p now)
instance (fl:List F8) (p:Int) (now:List Int):Decidable (uS fl p now):=by unfold uS;infer_instance
def GU (fl:List F8):Nat->Int->List Int->Option (List (List Int))
 |0,_,_=>some []
 |n+1,p,now=>if uS fl p now then(GU fl n (p+1) (P0 fl p now)).map (P0 fl p now:: ·) else none
def sQ (h:V8):Option (List (List Int)):=GU h.fl h.per.toNat 0 h.op
def W0 (h:V8):List (List Int):=if h.ok then(sQ h).getD [] else []
def jK (h:V8):Int:=if h.ok then(if(sQ h).isSome then 0 else 341) else 340
def jP (r:List Int):D:=SL 1 (r.map I)
def tabD (t:List (List Int)):D:=SL 1 (t.map jP)
theorem Rch.mono {fl:List F8} {p:Int} {a b:Nat->Prop} (h:∀v,a v->b v) {v:Nat} (hr:Rch fl p a v):Rch fl p b v:=by
 induction hr with
 |start v hv=>exact .start v (h v hv)
 |into f hf hp hk=>exact .into f hf hp hk
 |move f hf hp hk _ ih=>exact .move f hf hp hk ih
def A4n (l:List Bool):List Bool:=l++List.replicate (16-l.length) false
theorem NB (l:List Bool) (v:Nat):(A4n l).getD v false=l.getD v false:=by
 unfold A4n
 simp only[A5,List.getElem?_append]
 split
 ·rfl
 ·rw[E0 (l:=l) (by omega),J2]
  split<;>rfl
theorem MZ (l:List Int) (v:Nat):(rL l).getD v 0=l.getD v 0:=by
 unfold rL
 simp only[A5,List.getElem?_append]
 split
 ·rfl
 ·rw[E0 (l:=l) (by omega),J2]
  split<;>rfl
theorem QL (h:V8) (p:Int) (now:List Int) (hok:h.ok) (hl:now.length=h.op.length):
 C9 Tryz.prog 53 [.d h.d,.d (I p),.d (.agg ((rL now).map I)),.d (.agg ((rL (P0 h.fl p now)).map I))] (E5 [.b (decide (uS h.fl p now))]):=by
 have hnv:=hok.nv
 have hfl:∀f∈h.fl,f.ok now.length h.per:=by rw[hl];exact hok.fl
 have hM:(A4n (BM h.fl p now)).length=16:=by unfold A4n;simp[WC];omega
 have h1:=JK h p (rL now) (rL (P0 h.fl p now)) (A4n (BM h.fl p now)) hok (tW (by omega)) (tW (by rw[cD];omega)) hM (λv _=>by
  rw[NB,WD hfl]
  constructor
  ·refine Rch.mono λv hv=>⟨?_,by rw[MZ];exact hv⟩
   unfold YX at hv
   rw[<-hl]
   by_cases hlt:v<now.length
   ·exact hlt
   ·rw[A5,E0 (by omega)] at hv
    simp at hv
  ·exact Rch.mono λv hv=>by have:=hv.2;rw[MZ] at this;exact this)
 have e:zD h.fl p (rL (P0 h.fl p now)) (A4n (BM h.fl p now))↔uS h.fl p now:=by
  unfold uS zD
  simp only[NB]
  refine and_congr_left λ_=>⟨λa n hn=>a n (O8 _ hn),λa n hn=> ?_⟩
  rcases K0.1 hn with hn|hn
  ·exact a n hn
  ·rw[List.eq_of_mem_replicate hn];exact M7 _
 rw[W1.2 e] at h1
 exact h1
theorem MQ {fl:List F8} {n:Nat} {p:Int} {now:List Int} (h:¬uS fl p now):GU fl (n+1) p now=none:=by rw[GU,if_neg h]
theorem AZ {fl:List F8} {n:Nat} {p:Int} {now:List Int} (h:uS fl p now):GU fl (n+1) p now=(GU fl n (p+1) (P0 fl p now)).map (P0 fl p now:: ·):=by rw[GU,if_pos h]
theorem B0o (l:List Int):(l.map I).flatMap D.cells=l.map I:=by
 induction l with
 |nil=>rfl
 |cons x l ih=>rw[E8,oZ,ih];rfl
theorem B1f {l:List Int} (h:l.length<=16):List.take 0 (List.replicate 16 (I 0))++(l.map I).flatMap D.cells++List.drop (0+(l.map I).length) (List.replicate 16 (I 0))=(rL l).map I:=by
 rw[B0o,List.take_zero,G5,C1,A6,List.drop_replicate,rL,D2,M8]
theorem A7n {p:Int} {l:List Int} {f:F8} {B:Int} (h0:0<=B) (hl:∀n∈l,n<=B) (hf:0<=f.amt/\f.amt<=1048576):∀n∈dD p l f,n<=B+1048576:=by
 have hg:∀i,l.getD i 0<=B:=λi=>by
  rw[A5]
  cases hh:l[i]? with
  |none=>exact h0
  |some n=>exact hl n (A7 hh)
 have hg2:∀i j x,x<=B+f.amt->(l.set j x).getD i 0<=B+f.amt:=λi j x hx=>by
  rw[A5]
  cases hh:(l.set j x)[i]? with
  |none=>simp only[Option.getD_none];omega
  |some n=>
   rcases S9 (A7 hh) with h|h
   ·have:=hl n h;simp only[O0];omega
   ·simp only[O0];omega
 intro n hn
 unfold dD at hn
 split at hn
 ·split at hn
  ·unfold gE at hn
   rcases S9 hn with h|h
   ·have:=hl n h;omega
   ·have:=hg f.dst.toNat;omega
  ·split at hn
   ·unfold kS gE at hn
    rcases S9 hn with h|h
    ·rcases S9 h with h|h
     ·have:=hl n h;omega
     ·have:=hg f.dst.toNat;omega
    ·have:=hg2 f.src.toNat f.dst.toNat (l.getD f.dst.toNat 0+f.amt) (by have:=hg f.dst.toNat;omega)
     omega
   ·unfold kS at hn
    rcases S9 hn with h|h
    ·have:=hl n h;omega
    ·have:=hg f.src.toNat;omega
 ·have:=hl n hn;omega
theorem CE {p:Int}:∀(fl:List F8) {l:List Int} {B:Int},0<=B->(∀n∈l,n<=B)->(∀f∈fl,0<=f.amt/\f.amt<=1048576)->∀n∈P0 fl p l,n<=B+1048576*fl.length
 |[],l,B,_,hl,_,n,hn=>by have:=hl n hn;simp;omega
 |f::fl,l,B,h0,hl,hf,n,hn=>by
  have:=CE fl (l:=dD p l f) (B:=B+1048576) (by omega) (A7n h0 hl (hf f (.head _))) (λg hg=>hf g (.tail _ hg)) n hn
  simp only[M2];omega
structure XA where
 i:Nat
 v:Nat
 n:Nat
 dr:List D
 now:List Int
structure uZ (dr:List D) (acc:List (List Int)):Prop where
 len:dr.length=acc.length
 le:∀(j:Nat) (x:D) (r:List Int),dr[j]? =some x->acc[j]? =some r->x.cells=[x]/\DLe x (jP r)
theorem uZ.nil:uZ [] []:=⟨rfl,by simp⟩
theorem uZ.snoc {dr:List D} {acc:List (List Int)} (h:uZ dr acc) {x:D} {r:List Int} (hx:x.cells=[x]) (hl:DLe x (jP r)):uZ (dr++[x]) (acc++[r]):=by
 refine⟨by simp[h.len],λj y q hy hq=> ?_⟩
 have:=h.len
 by_cases hj:j<dr.length
 ·rw[B8 hj] at hy
  rw[B8 (by omega)] at hq
  exact h.le j y q hy hq
 ·rw[B3 (by omega)] at hy hq
  rw[<-this] at hq
  cases hk:j-dr.length with
  |zero=>rw[hk] at hy hq;simp at hy hq;subst hy;subst hq;exact⟨hx,hl⟩
  |succ k=>rw[hk] at hy;simp at hy
theorem uZ.tab {dr:List D} {acc:List (List Int)} (h:uZ dr acc) (full:Bool):DLe (.sl 1 full dr) (tabD acc):=by
 refine DLe.trans (DLe.full 1 full dr) (DLe.sl ⟨by simp[h.len],λj x y hx hy=> ?_⟩)
 simp only[A8,F0] at hy
 obtain⟨r,hr,rfl⟩:=hy
 obtain⟨h1,h2⟩:=h.le j x r hx hr
 rw[h1]
 exact⟨h2,rfl⟩
structure InvA (h:V8) (x:XA):Prop where
 i:(x.i:Int)<=h.per
 len:x.now.length=h.op.length
 lo:∀n∈x.now,0<=n/\n<=1048576*(1+64*x.i)
 row:∃acc:List (List Int),uZ x.dr acc/\x.n=x.dr.length/\x.n=x.i/\(GU h.fl (h.per.toNat-x.i) x.i x.now).map (acc++ ·)=sQ h
theorem pG (h:V8) (hw:B4z h):C9 Tryz.prog 21 [.d h.d] (E5 [tabD (W0 h),I (jK h)]):=by
 have hwo:=hw.o
 have hwf:=hw.f
 have hF:=RH h hw
 by_cases hok:h.ok
 ·rw[C2 hok] at hF
  have hnf:=hok.nf
  have hnv:=hok.nv
  have hnp:=hok.np
  refine pU Tryz.func21 ?_
  have hcopy:=B1f hnv
  obtain⟨a0,a1,a2,a3,a4,a5,a6,a7,a8,a9,a10,a11,a12,a13,a14,a15,hPe⟩:=vI (tW hnv)
  rw[hPe] at hcopy
  repeat' ((conv=>whnf);first|refine sT ?_|refine sP ?_ ?_<;>intro _|refine cA hF ?_|refine Nam.mk hcopy ?_|fail)
  all_goals(conv=>whnf)
  refine L3.virt 2 0 1 true (by decide) rfl ?_
  conv=>whnf
  rw[<-hPe]
  refine lO (X:=XA) (λx=>[(16,.d (I x.i)),(2,.sref 2 x.v 0 x.n false)]) (λx=>[(1,.vard ((rL x.now).map I)),(2,.row x.v 1 true x.dr)]) (InvA h) (λx=>h.per.toNat-x.i) ⟨0,0,0,[],h.op⟩ sam rfl
   ⟨by simp;omega,rfl,λn hn=>by have:=hok.op n hn;simp only;omega,[],.nil,rfl,rfl,by simp[sQ]⟩ ?_
  clear hcopy hPe a0 a1 a2 a3 a4 a5 a6 a7 a8 a9 a10 a11 a12 a13 a14 a15
  rintro⟨i,v,n,dr,now⟩ ⟨hi,hlen,hlo,acc,hr,e2,e3,hm⟩
  simp only at hi hlen hlo hr e2 e3 hm
  subst e2
  dsimp only
  have hfl:∀f∈h.fl,f.ok now.length h.per:=by rw[hlen];exact hok.fl
  by_cases hlt:(i:Int)<h.per
  ·have hsub:h.per.toNat-i=(h.per.toNat-(i+1))+1:=by omega
   rw[hsub] at hm
   have hbn:Bnd 1099511627776 (rL now):=⟨tW (by omega),λn hn=>by
    rcases K0.1 hn with hn|hn
    ·have:=hlo n hn;omega
    ·rw[List.eq_of_mem_replicate hn];omega⟩
   have hA:=VV h i (rL now) hok hbn
   rw[A1a hfl] at hA
   have hPo:=QL h i now hok hlen
   have hle:(rL (P0 h.fl i now)).length=16:=tW (by rw[cD];omega)
   obtain⟨b0,b1,b2,b3,b4,b5,b6,b7,b8,b9,b10,b11,b12,b13,b14,b15,hNe⟩:=vI hbn.len
   obtain⟨c0,c1,c2,c3,c4,c5,c6,c7,c8,c9,c10,c11,c12,c13,c14,c15,hEe⟩:=vI hle
   have hal:(P0 h.fl i now).length=h.op.length:=by rw[cD];exact hlen
   have hnew:uS h.fl i now->∀n∈P0 h.fl i now,0<=n/\n<=1048576*(1+64*((i+1:Nat):Int)):=λhc n hn=>by
    have h1:=hc.1 n hn
    have h2:=CE h.fl (p:=i) (l:=now) (B:=1048576*(1+64*(i:Int))) (by omega) (λn hn=>(hlo n hn).2) (λf hf=>by have:=hok.fl f hf;unfold F8.ok at this;omega) n hn
    omega
   have hTake:List.take (h.op.length:Int).toNat (List.drop 0 ([c0,c1,c2,c3,c4,c5,c6,c7,c8,c9,c10,c11,c12,c13,c14,c15].map I))=(P0 h.fl i now).map I:=by
    rw[<-hEe,O4,rL,D2,B0,<-hal,<-A6 (f:=I),List.take_left]
   have hTake2:List.take ([c0,c1,c2,c3,c4,c5,c6,c7,c8,c9,c10,c11,c12,c13,c14,c15].map I).length (List.drop 0 ([c0,c1,c2,c3,c4,c5,c6,c7,c8,c9,c10,c11,c12,c13,c14,c15].map I))=[c0,c1,c2,c3,c4,c5,c6,c7,c8,c9,c10,c11,c12,c13,c14,c15].map I:=rfl
   rw[hNe,hEe] at hA hPo
   rw[hNe]
   repeat' ((conv=>whnf);first|refine sT ?_|refine sP ?_ ?_<;>intro _|refine cA hA ?_|refine E6.ofB (hPo) (λ_=> ?_) (λ_=> ?_)|refine H6.ofB (hPo) (λ_=> ?_) (λ_=> ?_)|refine bO Tryz.func54 ?_|refine MA.both (λhz=> ?_) ?_|refine Nam.mk hTake ?_|refine Nam.mk (y:=(P0 h.fl i now).map I) (by rw[O4];exact C7 (by simp)) ?_|fail)
   all_goals(conv=>whnf)
   ·have hc:uS h.fl i now:=G4 (by assumption)
    have he:P0 h.fl i now=[]:=E7 (by omega)
    rw[AZ hc,Option.map_map] at hm
    refine⟨⟨i+1,v+1,dr.length+1,dr++[D.sl 0 true []],P0 h.fl i now⟩,Wm.end sam (N8 (λl:List Int=>[Blk.vard h.d.cells,Blk.vard (l.map I),Blk.row (v+1) 1 true (dr++[D.sl 0 true []])]) hEe.symm) rfl rfl,⟨?_,?_,?_,acc++[P0 h.fl i now],?_,?_,?_,?_⟩,?_⟩
    ·simp only;omega
    ·simp only;rw[cD];exact hlen
    ·exact hnew hc
    ·exact hr.snoc rfl (by rw[he];exact DLe.nil 0 1 true)
    ·simp
    ·simp only;omega
    ·have hcast:((i+1:Nat):Int)=(i:Int)+1:=rfl
     simp only[hcast]
     rw[<-hm]
     congr 1
     funext t;simp
    ·simp only;omega
   ·have hc:uS h.fl i now:=G4 (by assumption)
    rw[AZ hc,Option.map_map] at hm
    refine⟨⟨i+1,v+1,dr.length+1,dr++[jP (P0 h.fl i now)],P0 h.fl i now⟩,Wm.end sam (N8 (λl:List Int=>[Blk.vard h.d.cells,Blk.vard (l.map I),Blk.row (v+1) 1 true (dr++[jP (P0 h.fl i now)])]) hEe.symm) rfl rfl,⟨?_,?_,?_,acc++[P0 h.fl i now],?_,?_,?_,?_⟩,?_⟩
    ·simp only;omega
    ·simp only;rw[cD];exact hlen
    ·exact hnew hc
    ·exact hr.snoc rfl (DLe.refl _)
    ·simp
    ·simp only;omega
    ·have hcast:((i+1:Nat):Int)=(i:Int)+1:=rfl
     simp only[hcast]
     rw[<-hm]
     congr 1
     funext t;simp
    ·simp only;omega
   ·have hc:¬uS h.fl i now:=X5 (by assumption)
    rw[MQ hc] at hm
    have hm:sQ h=none:=hm.symm
    have e1:W0 h=[]:=by unfold W0;rw[if_pos hok,hm];rfl
    have e2:jK h=341:=by unfold jK;rw[if_pos hok,hm];rfl
    rw[e1,e2]
    exact⟨DLe.nil 0 1 true,DLe.refl _,rfl⟩
  ·have:i=h.per.toNat:=by omega
   subst this
   rw[G2] at hm
   have hm:sQ h=some acc:=by rw[<-hm];simp[GU]
   have q1:W0 h=acc:=by unfold W0;rw[if_pos hok,hm];rfl
   have q2:jK h=0:=by unfold jK;rw[if_pos hok,hm];rfl
   repeat' ((conv=>whnf);first|refine sT ?_|refine sP ?_ ?_<;>intro _|refine Nam.mk (y:=dr) (by rw[O4];exact C7 (by simp)) ?_|fail)
   all_goals(conv=>whnf)
   rw[q1,q2]
   exact⟨hr.tab _,DLe.refl _,rfl⟩
 ·rw[B6 hok] at hF
  have e1:W0 h=[]:=by unfold W0;rw[if_neg hok]
  have e2:jK h=340:=by unfold jK;rw[if_neg hok]
  rw[e1,e2]
  refine pU Tryz.func21 ?_
  repeat' ((conv=>whnf);first|refine sT ?_|refine sP ?_ ?_<;>intro _|refine cA hF ?_|fail)
  all_goals(conv=>whnf)
  exact⟨DLe.nil 0 1 true,DLe.refl _,rfl⟩
end Go.PM
namespace Go.PM
inductive Fed (n:Nat) (m:Nat->Nat->Rat) (dir:Nat->Rat):Nat->Prop
 |dir {v:Nat} (h:v<n) (hd:0<dir v):Fed n m dir v
 |move {u v:Nat} (hu:Fed n m dir u) (hv:v<n) (h:0<m u v):Fed n m dir v
theorem Fed.lt {n:Nat} {m:Nat->Nat->Rat} {dir:Nat->Rat} {v:Nat} (h:Fed n m dir v):v<n:=by cases h<;>assumption
theorem A9p:∀(n:Nat) (x:Nat->Rat),0<n->∃v,v<n/\∀u,u<n->x u<=x v
 |0,_,h=>by omega
 |1,x,_=>⟨0,by omega,λu hu=>by obtain rfl:u=0:=by omega
                               exact OW⟩
 |n+2,x,_=>by
  obtain⟨v,hv,h⟩:=A9p (n+1) x (by omega)
  by_cases e:x v<=x (n+1)
  ·refine⟨n+1,by omega,λu hu=> ?_⟩
   by_cases hu':u=n+1
   ·subst hu';exact OW
   ·have:=h u (by omega);grind
  ·refine⟨v,by omega,λu hu=> ?_⟩
   by_cases hu':u=n+1
   ·subst hu';grind
   ·exact h u (by omega)
def tot (n:Nat) (m:Nat->Nat->Rat) (dir:Nat->Rat) (v:Nat):Rat:=dir v+L8 n (λu=>m u v)
structure vA (n:Nat) (m:Nat->Nat->Rat) (dir:Nat->Rat):Prop where
 m0:∀u v,0<=m u v
 self:∀v,m v v=0
 d0:∀v,0<=dir v
 fed:∀v,v<n->tot n m dir v≠0->Fed n m dir v
theorem tN {n:Nat} {f:Nat->Rat} (h:∀i,i<n->0<=f i):0<=L8 n f:=by
 have:=PV (n:=n) (f:=λ_=>0) (g:=f) h
 rw[iB (λ_ _=>rfl)] at this
 exact this
theorem A1w {n k:Nat} {f g:Nat->Rat} (h:∀i,i<n->f i<=g i) (hk:k<n) (hlt:f k<g k):L8 n f<L8 n g:=by
 induction n with
 |zero=>omega
 |succ n ih=>
  rw[L8,L8]
  by_cases e:k=n
  ·subst e
   have h1:=PV (n:=k) (f:=f) (g:=g) (λi hi=>h i (by omega))
   grind
  ·have h1:=ih (λi hi=>h i (by omega)) (by omega)
   have h2:=h n (by omega)
   grind
theorem LO {n:Nat} {m:Nat->Nat->Rat} {dir x r:Nat->Rat} {c:Rat} (hm:vA n m dir)
 (h0:∀v,v<n->tot n m dir v=0->x v<=c) (h1:∀v,v<n->tot n m dir v≠0->tot n m dir v*x v=L8 n (λu=>m u v*x u)+r v/\r v<=c*dir v):
 ∀v,v<n->x v<=c:=by
 intro v0 hv0
 obtain⟨w,hw,hmax⟩:=A9p n x (by omega)
 by_cases hX:x w<=c
 ·have:=hmax v0 hv0;grind
 ·exfalso
  have hcX:c<x w:=by grind
  have key:∀v,Fed n m dir v->x v<x w:=by
   intro v hf
   have hsum0:0<=L8 n (λu=>m u v):=tN λu _=>hm.m0 u v
   have hd0:=hm.d0 v
   have hv:=hf.lt
   have hle:∀i,i<n->m i v*x i<=x w*m i v:=λi hi=>by
    have:=S6 (hmax i hi) (hm.m0 i v);grind
   have hdc:c*dir v<=x w*dir v:=Rat.mul_le_mul_of_nonneg_right (by grind) hd0
   have fin:tot n m dir v≠0->L8 n (λu=>m u v*x u)+r v<x w*tot n m dir v->x v<x w:=λhne hlt=>by
    have htp:0<tot n m dir v:=by
     have:0<=tot n m dir v:=by unfold tot;grind
     grind
    have:=(h1 v hv hne).1
    rw[<-this] at hlt
    by_cases hge:x w<=x v
    ·have:=S6 hge (Rat.le_of_lt htp);grind
    ·grind
   induction hf with
   | @dir v _ hd=>
     have hne:tot n m dir v≠0:=by unfold tot;grind
     refine fin hne ?_
     have h2:=PV hle
     rw[kQ] at h2
     have h3:=(h1 v hv hne).2
     have h4:c*dir v<x w*dir v:=Rat.mul_lt_mul_of_pos_right hcX hd
     unfold tot;grind
   | @move u v hu hv' huv ih=>
     have hne:tot n m dir v≠0:=by
      have:0<L8 n (λu=>m u v):=by
       have:=A1w (f:=λ_=>0) (g:=λu=>m u v) (λi _=>hm.m0 i v) hu.lt huv
       rw[iB (λ_ _=>rfl)] at this
       exact this
      unfold tot;grind
     refine fin hne ?_
     have ihu:x u<x w:=by
      have hu':=hu.lt
      refine ih (tN λu' _=>hm.m0 u' u) (hm.d0 u) hu' (λi hi=>by
       have:=S6 (hmax i hi) (hm.m0 i u);grind) (Rat.mul_le_mul_of_nonneg_right (by grind) (hm.d0 u)) (λhne hlt=> ?_)
      have htp:0<tot n m dir u:=by
       have h5:0<=L8 n (λu'=>m u' u):=tN λu' _=>hm.m0 u' u
       have h6:=hm.d0 u
       have:0<=tot n m dir u:=by unfold tot;grind
       grind
      have:=(h1 u hu' hne).1
      rw[<-this] at hlt
      by_cases hge:x w<=x u
      ·have:=S6 hge (Rat.le_of_lt htp);grind
      ·grind
     have h2:=A1w hle hu.lt (by have:=Rat.mul_lt_mul_of_pos_left ihu huv;grind)
     rw[kQ] at h2
     have h3:=(h1 v hv hne).2
     unfold tot;grind
  by_cases hwt:tot n m dir w=0
  ·have:=h0 w hw hwt;grind
  ·have:=key w (hm.fed w hw hwt);grind
def eqM (n:Nat) (m:Nat->Nat->Rat) (dir:Nat->Rat) (v u:Nat):Rat:=if tot n m dir v=0 then(if u=v then 1 else 0) else if u=v then tot n m dir v else-m u v
theorem A0e {n:Nat} {m:Nat->Nat->Rat} {dir x:Nat->Rat} (hm:vA n m dir) {v:Nat} (hv:v<n):
 L8 n (λu=>eqM n m dir v u*x u)=if tot n m dir v=0 then x v else tot n m dir v*x v-L8 n (λu=>m u v*x u):=by
 unfold eqM
 by_cases h:tot n m dir v=0
 ·simp only[h,if_true]
  rw[kO hv (λi _ hi=>by simp only[hi,if_false];grind)]
  simp only[if_true];grind
 ·simp only[h,if_false]
  have e:L8 n (λu=>(if u=v then tot n m dir v else-m u v)*x u)=L8 n (λu=>if u=v then tot n m dir v*x v else 0)-L8 n (λu=>m u v*x u):=by
   rw[<-GF]
   refine M9 λu _=> ?_
   by_cases hu:u=v
   ·subst hu;simp only[if_true,hm.self];grind
   ·simp only[hu,if_false];grind
  rw[e,kO hv (λi _ hi=>by simp only[hi,if_false])]
  simp only[if_true]
def wW (n:Nat) (m:Nat->Nat->Rat) (dir r x:Nat->Rat):Prop:=∀v,v<n->L8 n (λu=>eqM n m dir v u*x u)=r v
theorem PX {n:Nat} {m:Nat->Nat->Rat} {dir r x:Nat->Rat} {c:Rat} (hm:vA n m dir) (hs:wW n m dir r x)
 (h0:∀v,v<n->tot n m dir v=0->r v<=c) (h1:∀v,v<n->tot n m dir v≠0->r v<=c*dir v):∀v,v<n->x v<=c:=by
 refine LO (r:=r) hm (λv hv h=> ?_) (λv hv h=> ?_)
 ·have e:=hs v hv
  rw[A0e hm hv,if_pos h] at e
  rw[e];exact h0 v hv h
 ·have e:=hs v hv
  rw[A0e hm hv,if_neg h] at e
  exact⟨by grind,h1 v hv h⟩
theorem A1z {n:Nat} {m:Nat->Nat->Rat} {dir r x:Nat->Rat} (hs:wW n m dir r x):wW n m dir (λv=> -r v) (λv=> -x v):=λv hv=>by
 show _= -r v
 rw[<-hs v hv,show(λu=>eqM n m dir v u* -x u)=(λu=>(-1)*(eqM n m dir v u*x u)) from funext λu=>by grind,kQ];grind
theorem B2z {n:Nat} {m:Nat->Nat->Rat} {dir r x s y:Nat->Rat} (hs:wW n m dir r x) (ht:wW n m dir s y):wW n m dir (λv=>r v-s v) (λv=>x v-y v):=λv hv=>by
 show _=r v-s v
 rw[<-hs v hv,<-ht v hv,<-GF]
 exact M9 λu _=>by grind
theorem GK {n:Nat} {m:Nat->Nat->Rat} {dir x:Nat->Rat} (hm:vA n m dir) (hs:wW n m dir (λ_=>0) x):∀v,v<n->x v=0:=by
 intro v hv
 have a:=PX (c:=0) hm hs (λ_ _ _=>OW) (λ_ _ _=>by grind) v hv
 have b:=PX (c:=0) hm (A1z hs) (λ_ _ _=>by grind) (λ_ _ _=>by grind) v hv
 grind
theorem A7u {n:Nat} {m:Nat->Nat->Rat} {dir r x y:Nat->Rat} (hm:vA n m dir) (hs:wW n m dir r x) (ht:wW n m dir r y):∀v,v<n->x v=y v:=by
 intro v hv
 have h:=B2z hs ht
 have:wW n m dir (λ_=>0) (λv=>x v-y v):=λv hv=>by rw[h v hv];grind
 have:=GK hm this v hv
 grind
theorem A7v {n:Nat} {m:Nat->Nat->Rat} {dir r x:Nat->Rat} (hm:vA n m dir) (hs:wW n m dir r x) (hr:∀v,v<n->r v=if tot n m dir v=0 then 0 else dir v)
 (hu:∀u v,u<n->v<n->m u v≠0->tot n m dir u≠0):∀v,v<n->x v=if tot n m dir v=0 then 0 else 1:=by
 refine A7u hm hs λv hv=> ?_
 rw[A0e hm hv,hr v hv]
 by_cases h:tot n m dir v=0
 ·simp[h]
 ·simp only[h,if_false]
  rw[M9 (g:=λu=>m u v) (λu hun=>by
   by_cases hz:m u v=0
   ·rw[hz];grind
   ·rw[if_neg (hu u v hun hv hz)];grind)]
  unfold tot;grind
def dC:List F8->(F8->Bool)->Int
 |[],_=>0
 |f::l,c=>(if c f then f.amt else 0)+dC l c
theorem U2 {l:List F8} {c:F8->Bool} (h:∀f∈l,0<=f.amt):0<=dC l c:=by
 induction l with
 |nil=>exact M7 _
 |cons f l ih=>
  have h1:=h f (.head _)
  have h2:=ih λg hg=>h g (.tail _ hg)
  rw[dC];split<;>omega
theorem B2t {l:List F8} {c:F8->Bool} {B:Int} (h:∀f∈l,0<=f.amt/\f.amt<=B) (hB:0<=B):dC l c<=B*l.length:=by
 induction l with
 |nil=>simp[dC]
 |cons f l ih=>
  have h1:=h f (.head _)
  have h2:=ih λg hg=>h g (.tail _ hg)
  rw[dC,M2,LA,Int.mul_add];split<;>simp<;>omega
theorem GG {l:List F8} {c:F8->Bool} (h:∀f∈l,0<f.amt) (hp:0<dC l c):∃f∈l,c f=true:=by
 induction l with
 |nil=>simp[dC] at hp
 |cons f l ih=>
  by_cases hc:c f=true
  ·exact⟨f,.head _,hc⟩
  ·rw[dC,if_neg hc,Int.zero_add] at hp
   obtain⟨g,h1,h2⟩:=ih (λg hg=>h g (.tail _ hg)) hp
   exact⟨g,.tail _ h1,h2⟩
theorem yT {l:List F8} {c:F8->Bool} (h:∀f∈l,0<f.amt) {f:F8} (hf:f∈l) (hc:c f=true):0<dC l c:=by
 induction l with
 |nil=>cases hf
 |cons g l ih=>
  have hg:=h g (.head _)
  have hn:=U2 (l:=l) (c:=c) λx hx=>gR (h x (.tail _ hx))
  rw[dC]
  rcases J0.1 hf with rfl|hf
  ·rw[if_pos hc];omega
  ·have:=ih (λx hx=>h x (.tail _ hx)) hf
   split<;>omega
def mvI (fl:List F8) (p:Int) (u v:Nat):Int:=dC fl λf=>decide (f.per=p/\f.kind=2/\f.src=u/\f.dst=v)
def inI (fl:List F8) (p:Int) (v:Nat):Int:=dC fl λf=>decide (f.per=p/\f.kind=1/\f.dst=v)
def toI (fl:List F8) (p:Int) (v:Nat):Int:=dC fl λf=>decide (f.per=p/\f.kind=2/\f.dst=v)
theorem YK {n:Nat} {np:Int} (p:Int) (v:Nat):∀(fl:List F8),(∀f∈fl,f.ok n np)->L8 n (λu=>(mvI fl p u v:Rat))=(toI fl p v:Rat)
 |[],_=>iB λ_ _=>rfl
 |f::fl,h=>by
  have ih:=YK p v fl λg hg=>h g (.tail _ hg)
  have hf:=h f (.head _)
  have e:∀u,(mvI (f::fl) p u v:Rat)=(if f.per=p/\f.kind=2/\f.src=(u:Int)/\f.dst=(v:Int) then(f.amt:Rat) else 0)+(mvI fl p u v:Rat):=λu=>by
   unfold mvI;rw[dC,X3]
   by_cases hc:f.per=p/\f.kind=2/\f.src=(u:Int)/\f.dst=(v:Int)
   ·rw[if_pos (by simpa using hc),if_pos hc]
   ·rw[if_neg (by simpa using hc),if_neg hc];rfl
  rw[M9 (λu _=>e u),yS,ih]
  unfold toI;rw[dC,X3]
  congr 1
  by_cases hc:f.per=p/\f.kind=2/\f.dst=(v:Int)
  ·obtain⟨h1,h2,h3⟩:=hc
   have hs:0<=f.src/\f.src<=(n:Int)-1:=by unfold F8.ok at hf;omega
   rw[if_pos (by simp[h1,h2,h3]),kO (j:=f.src.toNat) (by omega) (λu _ hu=>by rw[if_neg];omega),if_pos ⟨h1,h2,by omega,h3⟩]
  ·rw[if_neg (by simpa using hc)]
   exact iB λu _=>by rw[if_neg];exact λhh=>hc ⟨hh.1,hh.2.1,hh.2.2.2⟩
def lT (p:Int) (v:Nat) (row:List Int) (f:F8):List Int:=
 if f.per=p then(if f.kind=1/\f.dst=(v:Int) then gE row v f.amt else if f.kind=2/\f.dst=(v:Int) then kS (gE row v f.amt) f.src f.amt else row) else row
def gD (fl:List F8) (p:Int) (v:Nat) (row:List Int):List Int:=fl.foldl (lT p v) row
theorem OT {l:List Int} {i:Int} {x:Int} (hi:0<=i/\i<l.length) (u:Nat):(gE l i x).getD u 0=l.getD u 0+if(u:Int)=i then x else 0:=by
 unfold gE
 rw[A5,A5,K5,A5]
 by_cases h:i.toNat=u
 ·rw[if_pos h,if_pos (by omega),if_pos (by omega),h];rfl
 ·rw[if_neg h,if_neg (by omega)];omega
theorem A3s {l:List Int} {i:Int} {x:Int} (hi:0<=i/\i<l.length) (u:Nat):(kS l i x).getD u 0=l.getD u 0-if(u:Int)=i then x else 0:=by
 unfold kS
 rw[A5,A5,K5,A5]
 by_cases h:i.toNat=u
 ·rw[if_pos h,if_pos (by omega),if_pos (by omega),h];rfl
 ·rw[if_neg h,if_neg (by omega)];omega
theorem MM (p:Int) (v:Nat) (row:List Int) (f:F8):(lT p v row f).length=row.length:=by
 unfold lT gE kS
 split
 ·split
  ·simp
  ·split<;>simp
 ·rfl
theorem BS (p:Int) (v:Nat):∀(fl:List F8) (row:List Int),(gD fl p v row).length=row.length
 |[],_=>rfl
 |f::fl,row=>by
  show(gD fl p v (lT p v row f)).length=_
  rw[BS p v fl,MM]
theorem WS {n:Nat} {np:Int} {p:Int} {v u:Nat} (hv:v<n) (hu:u<n):∀(fl:List F8) (row:List Int),(∀f∈fl,f.ok n np)->row.length=n->
 (gD fl p v row).getD u 0=row.getD u 0+(if u=v then inI fl p v+toI fl p v else 0)-mvI fl p u v
 |[],row,_,_=>by
  show row.getD u 0=_
  unfold inI toI mvI;simp[dC]
 |f::fl,row,h,hl=>by
  show(gD fl p v (lT p v row f)).getD u 0=_
  rw[WS hv hu fl _ (λg hg=>h g (.tail _ hg)) (by rw[MM,hl])]
  have hf:=h f (.head _)
  have e1:inI (f::fl) p v=(if f.per=p/\f.kind=1/\f.dst=(v:Int) then f.amt else 0)+inI fl p v:=by
   unfold inI;rw[dC];congr 1;by_cases hc:f.per=p/\f.kind=1/\f.dst=(v:Int)
   ·rw[if_pos (by simpa using hc),if_pos hc]
   ·rw[if_neg (by simpa using hc),if_neg hc]
  have e2:toI (f::fl) p v=(if f.per=p/\f.kind=2/\f.dst=(v:Int) then f.amt else 0)+toI fl p v:=by
   unfold toI;rw[dC];congr 1;by_cases hc:f.per=p/\f.kind=2/\f.dst=(v:Int)
   ·rw[if_pos (by simpa using hc),if_pos hc]
   ·rw[if_neg (by simpa using hc),if_neg hc]
  have e3:mvI (f::fl) p u v=(if f.per=p/\f.kind=2/\f.src=(u:Int)/\f.dst=(v:Int) then f.amt else 0)+mvI fl p u v:=by
   unfold mvI;rw[dC];congr 1;by_cases hc:f.per=p/\f.kind=2/\f.src=(u:Int)/\f.dst=(v:Int)
   ·rw[if_pos (by simpa using hc),if_pos hc]
   ·rw[if_neg (by simpa using hc),if_neg hc]
  rw[e1,e2,e3]
  have hvl:0<=(v:Int)/\(v:Int)<row.length:=by omega
  unfold lT
  by_cases hp:f.per=p
  ·rw[if_pos hp]
   by_cases hk1:f.kind=1/\f.dst=(v:Int)
   ·rw[if_pos hk1,OT hvl]
    (repeat' split)<;>omega
   ·rw[if_neg hk1]
    by_cases hk2:f.kind=2/\f.dst=(v:Int)
    ·have hs:(0<=f.src/\f.src<=(n:Int)-1)/\f.src≠f.dst:=by unfold F8.ok at hf;omega
     rw[if_pos hk2,A3s (by unfold gE;rw[L5];omega),OT hvl]
     (repeat' split)<;>omega
    ·rw[if_neg hk2]
     (repeat' split)<;>omega
  ·rw[if_neg hp]
   (repeat' split)<;>omega
def mR (fl:List F8) (p:Int) (u v:Nat):Rat:=(mvI fl p u v:Rat)
def dR (fl:List F8) (p:Int) (now:List Int) (v:Nat):Rat:=((now.getD v 0+inI fl p v:Int):Rat)
theorem moveOk {fl:List F8} {p np:Int} {now:List Int} (hok:∀f∈fl,f.ok now.length np) (h0:∀n∈now,0<=n) (hc:uS fl p now):vA now.length (mR fl p) (dR fl p now):=by
 have hamt:∀f∈fl,0<f.amt:=λf hf=>by have:=hok f hf;unfold F8.ok at this;omega
 have hamt0:∀f∈fl,0<=f.amt:=λf hf=>gR (hamt f hf)
 have hn0:∀v,0<=now.getD v 0:=λv=>by
  rw[A5]
  cases hh:now[v]? with
  |none=>exact M7 _
  |some x=>exact h0 x (A7 hh)
 have fedR:∀v,Rch fl p (YX now) v->Fed now.length (mR fl p) (dR fl p now) v:=λv hr=>by
  induction hr with
  |start v hp=>
   refine .dir ?_ ?_
   ·unfold YX at hp
    rcases gN v now.length with h|h
    ·exact h
    ·rw[A5,E0 h] at hp;exact absurd hp (by decide)
   ·unfold dR YX at*
    have:=U2 (c:=λf=>decide (f.per=p/\f.kind=1/\f.dst=v)) hamt0
    rw[tH]
    show 0<now.getD v 0+inI fl p v
    unfold inI;omega
  |into f hf hp hk=>
   have hfo:=hok f hf
   have hd:0<=f.dst/\f.dst<=(now.length:Int)-1:=by unfold F8.ok at hfo;omega
   refine .dir (by omega) ?_
   unfold dR
   rw[tH]
   have:=hn0 f.dst.toNat
   have:=yT (c:=λg=>decide (g.per=p/\g.kind=1/\g.dst=(f.dst.toNat:Int))) hamt hf (by simp only[F3];exact⟨hp,hk,by omega⟩)
   show 0<_+inI fl p f.dst.toNat
   unfold inI;omega
  |move f hf hp hk _ ih=>
   have hfo:=hok f hf
   have hd:(0<=f.dst/\f.dst<=(now.length:Int)-1)/\(0<=f.src/\f.src<=(now.length:Int)-1):=by unfold F8.ok at hfo;omega
   refine .move ih (by omega) ?_
   unfold mR
   rw[tH]
   exact yT hamt hf (by simp only[F3];exact⟨hp,hk,by omega,by omega⟩)
 refine⟨λu v=> ?_,λv=> ?_,λv=> ?_,λv hv ht=> ?_⟩
 ·unfold mR mvI;rw[Rat.intCast_nonneg];exact U2 hamt0
 ·unfold mR mvI
  have:dC fl (λf=>decide (f.per=p/\f.kind=2/\f.src=(v:Int)/\f.dst=(v:Int)))=0:=by
   rcases Int.lt_or_le 0 (dC fl (λf=>decide (f.per=p/\f.kind=2/\f.src=(v:Int)/\f.dst=(v:Int)))) with h|h
   ·obtain⟨f,hf,hcf⟩:=GG hamt h
    have:=hok f hf
    simp only[F3] at hcf
    unfold F8.ok at this;omega
   ·have:=U2 (c:=λf=>decide (f.per=p/\f.kind=2/\f.src=(v:Int)/\f.dst=(v:Int))) hamt0
    omega
  rw[this];rfl
 ·unfold dR
  have:=U2 (c:=λf=>decide (f.per=p/\f.kind=1/\f.dst=v)) hamt0
  have:=hn0 v
  rw[Rat.intCast_nonneg]
  show 0<=now.getD v 0+inI fl p v
  unfold inI;omega
 ·unfold tot at ht
  rw[show(λu=>mR fl p u v)=(λu=>(mvI fl p u v:Rat)) from rfl,YK p v fl hok] at ht
  by_cases hd:0<now.getD v 0+inI fl p v
  ·exact .dir hv (by unfold dR;rw[tH];exact hd)
  ·have h1:=U2 (c:=λf=>decide (f.per=p/\f.kind=1/\f.dst=v)) hamt0
   have h2:=hn0 v
   have hd0:now.getD v 0+inI fl p v=0:=by
    have:0<=inI fl p v:=h1
    omega
   have ht2:0<toI fl p v:=by
    have h3:0<=toI fl p v:=U2 hamt0
    rcases Int.lt_or_le 0 (toI fl p v) with h|h
    ·exact h
    ·exfalso;apply ht
     unfold dR
     rw[hd0,show toI fl p v=0 by omega];decide+kernel
   obtain⟨f,hf,hcf⟩:=GG hamt ht2
   simp only[F3] at hcf
   have hfo:=hok f hf
   have hs:0<=f.src/\f.src<=(now.length:Int)-1:=by unfold F8.ok at hfo;omega
   have hrch:=(WD hok f.src.toNat).1 (hc.2 f hf hcf.1 (by omega))
   refine .move (fedR _ hrch) hv ?_
   unfold mR
   rw[tH]
   exact yT hamt hf (by simp only[F3];exact⟨hcf.1,hcf.2.1,by omega,hcf.2.2⟩)
end Go.PM
namespace Go.PM
open Go.Proofs
theorem VW (h:V8) (hw:B4z h):C9 Tryz.prog 12 [.d h.d] (E5 [I (jK h)]):=by
 have hA:=pG h hw
 refine pU Tryz.func12 ?_
 repeat' ((conv=>whnf);first|refine sT ?_|refine sP ?_ ?_<;>intro _|refine cA hA ?_|fail)
 all_goals exact fJ
theorem iP:C9 Tryz.prog 109 [.d (I 0)] (E5 []):=by
 refine pU Tryz.func109 ?_
 repeat' ((conv=>whnf);first|refine sT ?_|refine sP ?_ ?_<;>intro _|fail)
 all_goals(conv=>whnf)
 all_goals first|rfl
theorem EF:C9 Tryz.prog 103 [.d (B true)] (E5 []):=by
 refine pU Tryz.func103 ?_
 repeat' ((conv=>whnf);first|refine sT ?_|refine sP ?_ ?_<;>intro _|fail)
 all_goals(conv=>whnf)
 all_goals first|rfl
theorem bW (n:Int) (h: -4611686018427387904<n/\n<4611686018427387904):C9 Tryz.prog 106 [.d (I n)] (E5 [rD (n:Rat)]):=by
 have hN:=nC n h
 refine pU Tryz.func106 ?_
 repeat' ((conv=>whnf);first|refine sT ?_|refine sP ?_ ?_<;>intro _|refine cA hN ?_|refine cA iP ?_|fail)
 all_goals exact fJ
theorem AX (xs:List Int) (x:Int) (f:Bool) (hl:xs.length<2^40):C9 Tryz.prog 104 [.d (.sl 1 f (xs.map I)),.d (I x)] (E5 [.b (decide (x∈xs))]):=by
 have m1:(xs.map I).length=xs.length:=A6 _
 refine pU Tryz.func104 ?_
 repeat' ((conv=>whnf);first|refine Nam.mk m1 ?_|refine sT ?_|refine sP ?_ ?_<;>intro _|refine bO Tryz.func149 ?_|fail)
 all_goals(conv=>whnf)
 refine lO (X:=Nat) (λi=>[(8,.d (I i))]) (λ_=>[]) (λi=>i<=xs.length/\∀y∈xs.take i,y≠x) (λi=>xs.length-i) 0 sam rfl ⟨B9 _,λy hy=>by simp at hy⟩ ?_
 rintro i ⟨hi,hn⟩
 by_cases hlt:i<xs.length
 ·obtain⟨y,hy⟩:∃y,xs[i]? =some y:=⟨_,A3 hlt⟩
  by_cases hxy:x=y
  ·have hm:x∈xs:=hxy▸A7 hy
   rw[C2 hm]
   repeat' ((conv=>whnf);first|refine Nam.mk m1 ?_|refine sT ?_|refine sP ?_ ?_<;>intro _|refine A9 (D4 hy) ?_|fail)
   all_goals exact fI
  ·repeat' ((conv=>whnf);first|refine Nam.mk m1 ?_|refine sT ?_|refine sP ?_ ?_<;>intro _|refine A9 (D4 hy) ?_|fail)
   all_goals((conv=>whnf);try exact xO)
   exact⟨i+1,wE,⟨hlt,V9 hy (λe=>hxy e.symm) hn⟩,by omega⟩
 ·rw[C7 (by omega)] at hn
  rw[B6 (λh=>hn x h rfl)]
  repeat' ((conv=>whnf);first|refine sT ?_|refine sP ?_ ?_<;>intro _|fail)
  all_goals exact fI
def sM (op:List Int):List Int:=((List.range op.length).filter λi=>decide (0<op.getD i 0)).map Int.ofNat
def A9y (fl:List F8):List Int:=((List.range fl.length).filter λi=>decide ((fl.getD i ⟨0,0,0,0,0,0⟩).kind=1)).map λi:Nat=>16+(i:Int)
def EE (h:V8):List Int:=sM h.op++A9y h.fl
theorem iG {n:Nat} {p:Nat->Bool} {i:Nat} (hi:i<n):(List.range (i+1)).filter p=(List.range i).filter p++if p i then [i] else []:=by
 rw[Q4,L6];congr 1;simp[List.filter];split<;>simp_all
structure XS where
 i:Nat
 v:Nat
 n:Nat
 dr:List D
theorem GM (h:V8) (h1:h.op.length<=16) (h2:h.fl.length<=64):C9 Tryz.prog 105 [.d h.d] (E5 [SL 1 ((EE h).map I)]):=by
 have m1:(h.op.map I).length=h.op.length:=A6 _
 have m2:(h.fl.map F8.d).length=h.fl.length:=A6 _
 refine pU Tryz.func105 ?_
 repeat' ((conv=>whnf);first|refine Nam.mk m1 ?_|refine Nam.mk m2 ?_|refine sT ?_|refine sP ?_ ?_<;>intro _|fail)
 all_goals(conv=>whnf)
 refine L3.virt 2 0 1 false (by decide) rfl ?_
 conv=>whnf
 let p1:Nat->Bool:=λi=>decide (0<h.op.getD i 0)
 let p2:Nat->Bool:=λi=>decide ((h.fl.getD i ⟨0,0,0,0,0,0⟩).kind=1)
 have hlf:∀(n:Nat) (p:Nat->Bool),((List.range n).filter p).length<=n:=λn p=>by have:=L0 p (List.range n);rw[M6] at this;exact this
 refine lO (X:=XS) (λx=>[(10,.d (I x.i)),(2,.sref 1 x.v 0 x.n false)]) (λx=>[(1,.row x.v 1 false x.dr)]) (λx=>x.i<=h.op.length/\x.n=x.dr.length/\x.dr=(((List.range x.i).filter p1).map Int.ofNat).map I) (λx=>h.op.length-x.i) ⟨0,0,0,[]⟩ sam rfl ⟨B9 _,rfl,rfl⟩ ?_
 rintro⟨i,v,n,dr⟩ ⟨hi,hn,hd⟩
 dsimp only at hi hn hd
 have hnl:n<=i:=by rw[hn,hd,A6,A6];exact hlf _ _
 dsimp only
 by_cases hlt:i<h.op.length
 ·obtain⟨y,hy⟩:∃y,h.op[i]? =some y:=⟨_,A3 hlt⟩
  have hyD:h.op.getD i 0=y:=by rw[A5,hy];rfl
  have ck1:0+n=dr.length:=by omega
  have ck2:n+1<=room:=by simp[room];omega
  by_cases hp:y>0
  ·repeat' ((conv=>whnf);first|refine Nam.mk m1 ?_|refine Nam.mk m2 ?_|refine sT ?_|refine sP ?_ ?_<;>intro _|refine A9 (D4 hy) ?_|refine Chk.mk ⟨rfl,ck1,ck2⟩ ?_|fail)
   all_goals((conv=>whnf);try exact xO)
   exact⟨⟨i+1,v+1,n+1,dr++[I i]⟩,wE,⟨hlt,by simp[hn],by rw[iG hlt];simp only[p1,hyD,C2 hp,if_true,D2];rw[<-hd];rfl⟩,by simp only;omega⟩
  ·repeat' ((conv=>whnf);first|refine Nam.mk m1 ?_|refine Nam.mk m2 ?_|refine sT ?_|refine sP ?_ ?_<;>intro _|refine A9 (D4 hy) ?_|refine Chk.mk ⟨rfl,ck1,ck2⟩ ?_|fail)
   all_goals((conv=>whnf);try exact xO)
   exact⟨⟨i+1,v,n,dr⟩,wE,⟨hlt,hn,by rw[iG hlt];simp only[p1,hyD,B6 hp,D2];rw[<-hd];simp⟩,by simp only;omega⟩
 ·have hie:i=h.op.length:=by omega
  subst hie
  repeat' ((conv=>whnf);first|refine Nam.mk m1 ?_|refine Nam.mk m2 ?_|refine sT ?_|refine sP ?_ ?_<;>intro _|fail)
  all_goals((conv=>whnf);try exact xO)
  refine lO (X:=XS) (λx=>[(25,.d (I x.i)),(2,.sref 1 x.v 0 x.n false)]) (λx=>[(1,.row x.v 1 false x.dr)]) (λx=>x.i<=h.fl.length/\x.n=x.dr.length/\x.dr=(sM h.op++((List.range x.i).filter p2).map λi:Nat=>16+(i:Int)).map I) (λx=>h.fl.length-x.i) ⟨0,v,n,dr⟩ sam rfl ⟨B9 _,hn,by rw[hd];simp[sM,p1]⟩ ?_
  rintro⟨i,v,n,dr⟩ ⟨hi,hn,hd⟩
  dsimp only at hi hn hd
  have hnl:n<=i+16:=by
   have:=hlf i p2
   have:=hlf h.op.length p1
   rw[hn,hd,A6,B4,A6]
   unfold sM;rw[A6];simp only[p1,p2] at*;omega
  dsimp only
  by_cases hlt:i<h.fl.length
  ·obtain⟨y,hy⟩:∃y,h.fl[i]? =some y:=⟨_,A3 hlt⟩
   have hyD:h.fl.getD i ⟨0,0,0,0,0,0⟩=y:=by rw[A5,hy];rfl
   have ck1:0+n=dr.length:=by omega
   have ck2:n+1<=room:=by simp[room];omega
   by_cases hp:y.kind=1
   ·repeat' ((conv=>whnf);first|refine Nam.mk m1 ?_|refine Nam.mk m2 ?_|refine sT ?_|refine sP ?_ ?_<;>intro _|refine A9 (D4 hy) ?_|refine Chk.mk ⟨rfl,ck1,ck2⟩ ?_|fail)
    all_goals((conv=>whnf);try exact xO)
    exact⟨⟨i+1,v+1,n+1,dr++[I (16+i)]⟩,wE,⟨hlt,by simp[hn],by rw[iG hlt];simp only[p2,hyD,C2 hp,if_true,D2,<-D5];rw[hd];simp[p2]⟩,by simp only;omega⟩
   ·repeat' ((conv=>whnf);first|refine Nam.mk m1 ?_|refine Nam.mk m2 ?_|refine sT ?_|refine sP ?_ ?_<;>intro _|refine A9 (D4 hy) ?_|refine Chk.mk ⟨rfl,ck1,ck2⟩ ?_|fail)
    all_goals((conv=>whnf);try exact xO)
    exact⟨⟨i+1,v,n,dr⟩,wE,⟨hlt,hn,by rw[iG hlt];simp only[p2,hyD,B6 hp,D2];rw[hd];simp[p2]⟩,by simp only;omega⟩
  ·have hie:i=h.fl.length:=by omega
   subst hie
   repeat' ((conv=>whnf);first|refine sT ?_|refine sP ?_ ?_<;>intro _|fail)
   all_goals((conv=>whnf);try exact xO)
   refine Nam.mk (whole hn) ?_
   conv=>whnf
   show DLe (.sl 1 false dr) (.sl 1 false ((EE h).map I))
   rw[hd];exact DLe.refl _
def A5i (h:V8) (p s:Int) (now:List Int) (x:List Rat):D:=.agg [SL 1 (h.op.map I),I h.per,SL 6 (h.fl.map F8.d),I p,I s,SL 1 (now.map I),bF x]
structure lS (B:Int) (n:Nat) (l:List Int):Prop where
 len:l.length=n
 b:∀x∈l,-B<=x/\x<=B
theorem lS.at {B:Int} {n:Nat} {l:List Int} (h:lS B n l) {i:Int} (hi:0<=i/\i<=(n:Int)-1):∃x,l[i.toNat]? =some x/\l.getD i.toNat 0=x/\(-B<=x/\x<=B):=by
 have hl:=h.len
 have hx:l[i.toNat]? =some (l[i.toNat]'(by omega)):=A3 (by omega)
 exact⟨_,hx,by rw[A5,hx];rfl,h.b _ (R5 _)⟩
theorem lS.set {B B':Int} {n:Nat} {l:List Int} (h:lS B n l) (i:Nat) {x:Int} (hx: -B'<=x/\x<=B') (hB:B<=B'):lS B' n (l.set i x):=
 ⟨by rw[L5,h.len],λy hy=>by
   rcases S9 hy with hy|rfl
   ·have:=h.b y hy;omega
   ·exact hx⟩
theorem lS.mono {B B':Int} {n:Nat} {l:List Int} (h:lS B n l) (hB:B<=B'):lS B' n l:=⟨h.len,λx hx=>by have:=h.b x hx;omega⟩
theorem QD (l:List Int) (i n:Int):(l.map I).set (0+i.toNat) (I n)=(l.set i.toNat n).map I:=by rw[C1,O7]
theorem A2h {l:List Int} {i n:Int} (h:l[i.toNat]? =some n):0+i.toNat<(l.map I).length:=by rw[C1,A6];exact(A4.1 h).1
theorem JD {l:List Int} {i n:Int} (h:l[i.toNat]? =some n):(l.map I)[0+i.toNat]? =some (I n):=by rw[C1,A8,h];rfl
def kU (now:List Int) (v:Nat):List Int:=(List.replicate now.length 0).set v (now.getD v 0)
def lW (fl:List F8) (p:Int) (v:Nat) (now:List Int):List Int:=
 if(gD fl p v (kU now v)).getD v 0=0 then(gD fl p v (kU now v)).set v 1 else gD fl p v (kU now v)
theorem wK (h:V8) (p s:Int) (now:List Int) (x:List Rat) (v:Nat) (hok:h.ok) (hB:lS 1099511627776 h.op.length now) (hv:v<h.op.length):
 C9 Tryz.prog 150 [.d (A5i h p s now x),.d (I v)] (E5 [SL 1 ((lW h.fl p v now).map I),.b (decide ((gD h.fl p v (kU now v)).getD v 0≠0))]):=by
 have hnf:=hok.nf
 have hnv:=hok.nv
 have hl:=hB.len
 have m1:(now.map I).length=h.op.length:=by rw[A6,hl]
 obtain⟨a,a1,a2,a3⟩:=hB.at (i:=(v:Int)) (by omega)
 have g1:(now.map I)[((v:Nat):Int).toNat]? =some (I a):=by rw[A8,a1];rfl
 have g2:(List.replicate ((h.op.length:Nat):Int).toNat (I 0))[0+((v:Nat):Int).toNat]? =some (I 0):=by
  rw[C1,B0,J2,if_pos (by omega)]
 have q1:0+((v:Nat):Int).toNat<(List.replicate ((h.op.length:Nat):Int).toNat (I 0)).length:=by simp;omega
 have q2:(List.replicate ((h.op.length:Nat):Int).toNat (I 0)).set (0+((v:Nat):Int).toNat) (I a)=(kU now v).map I:=by
  unfold kU;rw[C1,B0,B0,O7,M8,hl];congr 2;rw[<-a2];rfl
 have b0:lS 1099511627776 h.op.length (kU now v):=by
  unfold kU
  refine lS.set (B:=1099511627776) ⟨by rw[K9,hl],λx hx=>by rw[List.mem_replicate] at hx;omega⟩ v (by rw[show now.getD v 0=a from a2];exact a3) (M7 _)
 refine pU Tryz.func150 ?_
 repeat' ((conv=>whnf);first|refine Nam.mk m1 ?_|refine sT ?_|refine sP ?_ ?_<;>intro _|refine A9 g1 ?_|refine A9 g2 ?_|refine J6 q1 q2 ?_|refine bO Tryz.func182 ?_|refine rA Tryz.func208 ?_|fail)
 all_goals(conv=>whnf)
 refine lY 6 Tryz.f150.ntmps (X:=Nat×List Int) (λx=>[(9,.d (I x.1))]) (λx=>[(3,.row 0 1 false (x.2.map I))])
  (λx=>x.1<=h.fl.length/\gD (h.fl.drop x.1) p v x.2=gD h.fl p v (kU now v)/\lS (1099511627776+2097152*x.1) h.op.length x.2) (λx=>h.fl.length-x.1) (0,kU now v) sam rfl ⟨B9 _,rfl,b0⟩ ?_
 rintro⟨i,l⟩ ⟨hi,hm,hb⟩
 simp only at hi hm hb
 dsimp only
 obtain⟨n,n1,n2,n3⟩:=hb.at (i:=(v:Int)) (by omega)
 by_cases hlt:i<h.fl.length
 ·obtain⟨f,hx,hd⟩:=dI hlt
  rw[hd,gD,dX] at hm
  have hfo:=hok.fl f (A7 hx)
  unfold F8.ok at hfo
  have hbn:lS (1099511627776+2097152*(i+1:Nat)) h.op.length l:=hb.mono (by omega)
  by_cases hp:f.per=p
  ·by_cases hk1:f.kind=1/\f.dst=(v:Int)
   ·have hs:lT p v l f=l.set ((v:Nat):Int).toNat (n+f.amt):=by unfold lT gE;rw[if_pos hp,if_pos hk1,n2]
    rw[hs] at hm
    obtain⟨hk,hdv⟩:=hk1
    repeat' ((conv=>whnf);first|refine sT ?_|refine sP ?_ ?_<;>intro _|refine A9 (D4 hx) ?_|refine A9 (JD n1) ?_|refine gH (A2h n1) (QD l ((v:Nat):Int) (n+f.amt)) ?_|fail)
    all_goals first|(exfalso;omega)|skip
    all_goals(conv=>whnf)
    all_goals first|exact⟨(i+1,l.set ((v:Nat):Int).toNat (n+f.amt)),wE,⟨hlt,hm,hb.set _ (by dsimp only;omega) (by dsimp only;omega)⟩,by dsimp only;omega⟩
   ·by_cases hk2:f.kind=2/\f.dst=(v:Int)
    ·have hb1:lS (1099511627776+2097152*i+1048576) h.op.length (l.set ((v:Nat):Int).toNat (n+f.amt)):=hb.set _ (by omega) (by omega)
     obtain⟨m,e1,e2,e3⟩:=hb1.at (i:=f.src) (by omega)
     have hs:lT p v l f=(l.set ((v:Nat):Int).toNat (n+f.amt)).set f.src.toNat (m-f.amt):=by unfold lT gE kS;rw[if_pos hp,if_neg hk1,if_pos hk2,n2,e2]
     rw[hs] at hm
     obtain⟨hk,hdv⟩:=hk2
     repeat' ((conv=>whnf);first|refine sT ?_|refine sP ?_ ?_<;>intro _|refine A9 (D4 hx) ?_|refine A9 (JD n1) ?_|refine gH (A2h n1) (QD l ((v:Nat):Int) (n+f.amt)) ?_|refine A9 (JD e1) ?_|refine gH (A2h e1) (QD _ f.src (m-f.amt)) ?_|fail)
     all_goals first|(exfalso;omega)|skip
     all_goals(conv=>whnf)
     all_goals first|exact⟨(i+1,(l.set ((v:Nat):Int).toNat (n+f.amt)).set f.src.toNat (m-f.amt)),wE,⟨hlt,hm,hb1.set _ (by dsimp only;omega) (by dsimp only;omega)⟩,by dsimp only;omega⟩
    ·have hs:lT p v l f=l:=by unfold lT;rw[if_pos hp,if_neg hk1,if_neg hk2]
     rw[hs] at hm
     by_cases hk:f.kind=1
     ·have hdv:f.dst≠(v:Int):=λe=>hk1 ⟨hk,e⟩
      repeat' ((conv=>whnf);first|refine sT ?_|refine sP ?_ ?_<;>intro _|refine A9 (D4 hx) ?_|fail)
      all_goals first|(exfalso;omega)|skip
      all_goals(conv=>whnf)
      all_goals first|exact⟨(i+1,l),wE,⟨hlt,hm,hbn⟩,by dsimp only;omega⟩
     ·by_cases hkk:f.kind=2
      ·have hdv:f.dst≠(v:Int):=λe=>hk2 ⟨hkk,e⟩
       repeat' ((conv=>whnf);first|refine sT ?_|refine sP ?_ ?_<;>intro _|refine A9 (D4 hx) ?_|fail)
       all_goals first|(exfalso;omega)|skip
       all_goals(conv=>whnf)
       all_goals first|exact⟨(i+1,l),wE,⟨hlt,hm,hbn⟩,by dsimp only;omega⟩
      ·repeat' ((conv=>whnf);first|refine sT ?_|refine sP ?_ ?_<;>intro _|refine A9 (D4 hx) ?_|fail)
       all_goals first|(exfalso;omega)|skip
       all_goals(conv=>whnf)
       all_goals first|exact⟨(i+1,l),wE,⟨hlt,hm,hbn⟩,by dsimp only;omega⟩
  ·have hs:lT p v l f=l:=by unfold lT;rw[if_neg hp]
   rw[hs] at hm
   repeat' ((conv=>whnf);first|refine sT ?_|refine sP ?_ ?_<;>intro _|refine A9 (D4 hx) ?_|fail)
   all_goals first|(exfalso;omega)|skip
   all_goals(conv=>whnf)
   all_goals first|exact⟨(i+1,l),wE,⟨hlt,hm,hbn⟩,by dsimp only;omega⟩
 ·have:i=h.fl.length:=by omega
  subst this
  rw[List.drop_length] at hm
  have hm:l=gD h.fl p v (kU now v):=hm
  unfold lW
  rw[<-hm]
  have n2:l.getD v 0=n:=n2
  rw[n2]
  have hlL:=hb.len
  by_cases hn0:n=0
  ·rw[if_pos hn0,B6 (λh=>h hn0)]
   repeat' ((conv=>whnf);first|refine sT ?_|refine sP ?_ ?_<;>intro _|refine A9 (JD n1) ?_|refine gH (A2h n1) (QD l ((v:Nat):Int) 1) ?_|fail)
   all_goals first|(exfalso;omega)|skip
   all_goals(conv=>whnf)
   refine Nam.mk (whole (by rw[A6,L5,hlL];rfl)) ?_
   conv=>whnf
   exact⟨DLe.refl _,DLe.refl _,rfl⟩
  ·rw[if_neg hn0,C2 hn0]
   repeat' ((conv=>whnf);first|refine sT ?_|refine sP ?_ ?_<;>intro _|refine A9 (JD n1) ?_|fail)
   all_goals first|(exfalso;omega)|skip
   all_goals(conv=>whnf)
   refine Nam.mk (whole (by rw[A6,hlL];rfl)) ?_
   conv=>whnf
   exact⟨DLe.refl _,DLe.refl _,rfl⟩
def inS (fl:List F8) (p:Int) (v:Nat) (s:Int):Int:=match fl[(s-16).toNat]? with
 |some f=>if 16<=s/\f.per=p/\f.kind=1/\f.dst=(v:Int) then f.amt else 0
 |none=>0
def LS (fl:List F8) (p:Int) (v:Nat) (s:Int) (i:Nat):Int:=if 16<=s/\(s-16).toNat<i then inS fl p v s else 0
theorem A4w {fl:List F8} {p:Int} {v:Nat} {s:Int} {i:Nat} {f:F8} (hf:fl[i]? =some f):
 LS fl p v s (i+1)=LS fl p v s i+if f.per=p/\f.kind=1/\f.dst=(v:Int)/\16+(i:Int)=s then f.amt else 0:=by
 unfold LS
 by_cases hs:16+(i:Int)=s
 ·have e:(s-16).toNat=i:=by omega
  rw[if_pos (by omega),if_neg (by omega)]
  unfold inS
  rw[e,hf]
  by_cases hc:f.per=p/\f.kind=1/\f.dst=(v:Int)
  ·rw[if_pos ⟨hc.1,hc.2.1,hc.2.2,hs⟩];simp only;rw[if_pos ⟨by omega,hc.1,hc.2.1,hc.2.2⟩];omega
  ·rw[if_neg (λh=>hc ⟨h.1,h.2.1,h.2.2.1⟩)];simp only;rw[if_neg (λh=>hc ⟨h.2.1,h.2.2.1,h.2.2.2⟩)];rfl
 ·rw[if_neg (c:=f.per=p/\f.kind=1/\f.dst=(v:Int)/\16+(i:Int)=s) (λh=>hs h.2.2.2)]
  by_cases h1:16<=s/\(s-16).toNat<i
  ·rw[if_pos h1,if_pos (by omega),wH]
  ·rw[if_neg h1,if_neg (by omega)];rfl
theorem RA {fl:List F8} {p:Int} {v:Nat} {s:Int} {i n:Nat} {np:Int} (hok:∀f∈fl,f.ok n np):0<=LS fl p v s i/\LS fl p v s i<=1048576:=by
 unfold LS inS
 split
 ·split
  ·rename_i f hf
   have:=hok f (A7 hf)
   unfold F8.ok at this
   split<;>omega
  ·omega
 ·omega
theorem IZ (fl:List F8) (p:Int) (v:Nat) (s:Int):LS fl p v s fl.length=inS fl p v s:=by
 unfold LS
 by_cases h:16<=s/\(s-16).toNat<fl.length
 ·rw[if_pos h]
 ·rw[if_neg h]
  unfold inS
  split
  ·rename_i f hf
   have:=(A4.1 hf).1
   rw[if_neg (by omega)]
  ·rfl
theorem PZ (h:V8) (p s:Int) (now:List Int) (x:List Rat) (v:Nat) (a:Int) (xv:Rat) (hok:h.ok) (hv:v<h.op.length) (hs:0<=s/\s<4096)
 (ha:now[v]? =some a) (hx:x[v]? =some xv) (hab:0<=a/\a<4611686018427387904)
 (hm1:Z9 xv) (hm2:lim (qn (a:Rat)*qn xv)) (hm3:lim ((a:Rat).den*xv.den)) (ha1:lim (qn ((a:Rat)*xv)*((inS h.fl p v s:Int):Rat).den+qn ((inS h.fl p v s:Int):Rat)*((a:Rat)*xv).den)) (ha2:lim (((a:Rat)*xv).den*((inS h.fl p v s:Int):Rat).den)) (hla:Z9 (a:Rat)):
 C9 Tryz.prog 151 [.d (A5i h p s now x),.d (I v)] (E5 [rD ((a:Rat)*xv+(inS h.fl p v s:Int))]):=by
 have hnf:=hok.nf
 have hnv:=hok.nv
 have hin:=RA (p:=p) (v:=v) (s:=s) (i:=h.fl.length) hok.fl
 rw[IZ] at hin
 have hN1:=bW a (by omega)
 have hN2:=bW (inS h.fl p v s) (by omega)
 have hM:=HE (a:Rat) xv hla hm1 hm2 hm3
 have hA:=HF ((a:Rat)*xv) ((inS h.fl p v s:Int):Rat) ha1 ha2
 clear ha1 ha2 hm1 hm2 hm3 hla
 have g1:(now.map I)[((v:Nat):Int).toNat]? =some (I a):=by rw[B0,A8,ha];rfl
 have g2:(x.map rD)[((v:Nat):Int).toNat]? =some (rD xv):=by rw[B0,A8,hx];rfl
 refine pU Tryz.func151 ?_
 repeat' ((conv=>whnf);first|refine sT ?_|refine sP ?_ ?_<;>intro _|refine bO Tryz.func182 ?_|refine rA Tryz.func208 ?_|fail)
 all_goals(conv=>whnf)
 refine lY 6 Tryz.f151.ntmps (X:=Nat×Int) (λx=>[(9,.d (I x.1))]) (λx=>[(3,.vard [I x.2])])
  (λy=>y.1<=h.fl.length/\y.2=LS h.fl p v s y.1) (λx=>h.fl.length-x.1) (0,0) sam rfl ⟨B9 _,by unfold LS;rw[if_neg (by omega)]⟩ ?_
 rintro⟨i,acc⟩ ⟨hi,hm⟩
 simp only at hi hm
 dsimp only
 by_cases hlt:i<h.fl.length
 ·obtain⟨f,hx,hd⟩:=dI hlt
  have hfo:=hok.fl f (A7 hx)
  unfold F8.ok at hfo
  have hst:=A4w (p:=p) (v:=v) (s:=s) hx
  have hle:=RA (p:=p) (v:=v) (s:=s) (i:=i) hok.fl
  rw[<-hm] at hst hle
  by_cases hp:f.per=p
  ·by_cases hk:f.kind=1
   ·by_cases hdv:f.dst=(v:Int)
    ·by_cases hks:16+(i:Int)=s
     ·rw[if_pos ⟨hp,hk,hdv,hks⟩] at hst
      repeat' ((conv=>whnf);first|refine sT ?_|refine sP ?_ ?_<;>intro _|refine A9 (D4 hx) ?_|fail)
      all_goals first|(exfalso;omega)|skip
      all_goals(conv=>whnf)
      all_goals first|exact⟨(i+1,acc+f.amt),wE,⟨hlt,hst.symm⟩,by dsimp only;omega⟩
     ·rw[if_neg (λh=>hks h.2.2.2),wH] at hst
      repeat' ((conv=>whnf);first|refine sT ?_|refine sP ?_ ?_<;>intro _|refine A9 (D4 hx) ?_|fail)
      all_goals first|(exfalso;omega)|skip
      all_goals(conv=>whnf)
      all_goals first|exact⟨(i+1,acc),wE,⟨hlt,hst.symm⟩,by dsimp only;omega⟩
    ·rw[if_neg (λh=>hdv h.2.2.1),wH] at hst
     repeat' ((conv=>whnf);first|refine sT ?_|refine sP ?_ ?_<;>intro _|refine A9 (D4 hx) ?_|fail)
     all_goals first|(exfalso;omega)|skip
     all_goals(conv=>whnf)
     all_goals first|exact⟨(i+1,acc),wE,⟨hlt,hst.symm⟩,by dsimp only;omega⟩
   ·rw[if_neg (λh=>hk h.2.1),wH] at hst
    repeat' ((conv=>whnf);first|refine sT ?_|refine sP ?_ ?_<;>intro _|refine A9 (D4 hx) ?_|fail)
    all_goals first|(exfalso;omega)|skip
    all_goals(conv=>whnf)
    all_goals first|exact⟨(i+1,acc),wE,⟨hlt,hst.symm⟩,by dsimp only;omega⟩
  ·rw[if_neg (λh=>hp h.1),wH] at hst
   repeat' ((conv=>whnf);first|refine sT ?_|refine sP ?_ ?_<;>intro _|refine A9 (D4 hx) ?_|fail)
   all_goals first|(exfalso;omega)|skip
   all_goals(conv=>whnf)
   all_goals first|exact⟨(i+1,acc),wE,⟨hlt,hst.symm⟩,by dsimp only;omega⟩
 ·have hie:i=h.fl.length:=by omega
  subst hie
  rw[IZ] at hm
  subst hm
  repeat' ((conv=>whnf);first|refine sT ?_|refine sP ?_ ?_<;>intro _|refine cA hN1 ?_|refine cA hN2 ?_|refine cA hM ?_|refine cA hA ?_|refine H6.of hN1 ?_|refine H6.of hN2 ?_|refine H6.of hM ?_|refine H6.of hA ?_|refine cA iP ?_|refine A9 g1 ?_|refine A9 g2 ?_|fail)
  all_goals first|(exfalso;omega)|skip
  all_goals exact fJ
end Go.PM

/- TopTrace: part 8 of the proof: for every input the law returns true, and its arguments read behind the call as they read before; where the library's table is as its own text lays it. -/
import Derived.Test.YtefjfjfcjihcpaaGreatDoorQ7
import Derived.TacticsInMore
import Derived.WalkSmall
set_option maxRecDepth 10000
set_option maxHeartbeats 400000000
set_option linter.unusedSectionVars false
namespace Go.PM
open Go.Proofs
theorem A2e:nw 0=0:=by unfold nw;rw[dZ];rfl
theorem A9e {n:Nat} (h:0<n):0<nw n:=by have:=eZ h;unfold nw;omega
theorem mU {n:Nat} (h:0<n):∃z m,n=2^z*(2*m+1):=by
 induction n using Nat.strongRecOn with
 |_ n ih=>
  by_cases h2:n%2=1
  ·exact⟨0,n/2,by rw[aO,V4];omega⟩
  ·obtain⟨z,m,e⟩:=ih (n/2) (by omega) (by omega)
   refine⟨z+1,m,?_⟩
   rw[U8,C6 (2^z),I2,<-e];omega
theorem B4m (z m:Nat):Nat.Coprime (2^z) (2*m+1):=by
 apply Nat.Coprime.pow_left
 rw[Nat.Coprime,Nat.gcd_rec,show(2*m+1)%2=1 by omega,Nat.gcd_one_left]
theorem RG (z m y:Nat):Nat.gcd (2^z*m) (2*y+1)=Nat.gcd m (2*y+1):=Nat.Coprime.gcd_mul_left_cancel m (B4m z y)
theorem B0k {u v a b:Nat}:Nat.gcd (2^u*(2*a+1)) (2^v*(2*b+1))=2^min u v*Nat.gcd (2*a+1) (2*b+1):=by
 rcases Nat.le_total u v with h|h
 ·rw[mP h,show v=u+(v-u) by omega,H2,I2,Nat.gcd_mul_left]
  congr 1
  rw[eD,RG,eD]
 ·rw[Nat.min_eq_right h,show u=v+(u-v) by omega,H2,I2,Nat.gcd_mul_left]
  congr 1
  rw[RG]
theorem oP {x y z m:Nat} (hy:y%2=1) (h:y<=x) (e:x-y=2^z*(2*m+1)):Nat.gcd (2*m+1) y=Nat.gcd x y:=by
 have h1:Nat.gcd (x-y) y=Nat.gcd x y:=Nat.gcd_sub_self_left h
 obtain⟨w,rfl⟩:∃w,y=2*w+1:=⟨y/2,by omega⟩
 rw[e,RG] at h1
 exact h1
structure XG where
 x:Nat
 y:Nat
 s:Bool
theorem zH (a b:Nat) (ha:lim a) (hb:lim b):C9 Tryz.prog 59 [.d (sD a),.d (sD b)] (E5 [sD (Nat.gcd a b),I 0]):=by
 have k1:=lP ha
 have k2:=lP hb
 have hc:=BU ha hb
 have w1:=lF ha
 have w2:=lF hb
 have l1:=G9 (nw a) a
 have l2:=G9 (nw b) b
 have m1:((H0 (nw a) a).map U).length=nw a:=by rw[A6,l1]
 have m2:((H0 (nw b) b).map U).length=nw b:=by rw[A6,l2]
 refine pU Tryz.func59 ?_
 repeat' ((conv=>whnf);first|refine sT ?_|refine sP ?_ ?_<;>intro _|refine cA hc ?_|refine E6.ofRow w1 ?_|refine E6.ofRow w2 ?_|fail)
 all_goals((conv=>whnf);try exact xO)
 rw[m1,m2]
 refine E6.lift ?_
 repeat' ((conv=>whnf);first|refine sT ?_|refine sP ?_ ?_<;>intro _|refine Nam.mk (whole m1.symm) ?_|refine Nam.mk (whole m2.symm) ?_|fail)
 by_cases ha0:a=0
 ·subst ha0
  have hTb:=Q7 (nw b) b (by omega) (R9 b)
  have hz:nw 0=0:=A2e
  rw[Nat.gcd_zero_left]
  repeat' ((conv=>whnf);first|refine sT ?_|refine sP ?_ ?_<;>intro _|refine bO Tryz.func99 ?_|refine cA (hTb _) ?_|refine Nam.mk m1 ?_|refine Nam.mk m2 ?_|refine Nam.mk (whole m2.symm) ?_|refine E6.lift ?_|fail)
  all_goals((conv=>whnf);try exact xO)
  exact⟨DLe.refl _,DLe.refl _,rfl⟩
 ·have hap:=A9e (n:=a) (by omega)
  by_cases hb0:b=0
  ·subst hb0
   have hTa:=Q7 (nw a) a (by omega) (R9 a)
   have hz:nw 0=0:=A2e
   rw[Nat.gcd_zero_right]
   repeat' ((conv=>whnf);first|refine sT ?_|refine sP ?_ ?_<;>intro _|refine bO Tryz.func99 ?_|refine cA (hTa _) ?_|refine Nam.mk m1 ?_|refine Nam.mk m2 ?_|refine Nam.mk (whole m1.symm) ?_|refine E6.lift ?_|fail)
   all_goals((conv=>whnf);try exact xO)
   exact⟨DLe.refl _,DLe.refl _,rfl⟩
  ·have hbp:=A9e (n:=b) (by omega)
   by_cases h11:nw a=1/\nw b=1
   ·obtain⟨ha1,hb1⟩:=h11
    have hal:a<18446744073709551616:=by have:=R9 a;rw[ha1] at this;exact this
    have hbl:b<18446744073709551616:=by have:=R9 b;rw[hb1] at this;exact this
    have g1:=gU (i:=((0:Nat):Int)) rfl (P5 (nw a) a 0 (by omega))
    rw[show a/2^(64*0)%18446744073709551616=a by rw[oW,aO,sS,M0 hal]] at g1
    have g2:=gU (i:=((0:Nat):Int)) rfl (P5 (nw b) b 0 (by omega))
    rw[show b/2^(64*0)%18446744073709551616=b by rw[oW,aO,sS,M0 hbl]] at g2
    repeat' ((conv=>whnf);first|refine sT ?_|refine sP ?_ ?_<;>intro _|refine bO Tryz.func99 ?_|refine Nam.mk m1 ?_|refine Nam.mk m2 ?_|refine A9 g1 ?_|refine A9 g2 ?_|fail)
    all_goals((conv=>whnf);try exact xO)
    refine lO (X:=XC) (λx=>[(5,.d (U x.i)),(6,.d (U x.c))]) (λ_=>[]) (λx=>x.i<18446744073709551616/\x.c<18446744073709551616/\Nat.gcd x.i x.c=Nat.gcd a b) (λx=>x.c) ⟨a,b⟩ sam rfl ⟨hal,hbl,rfl⟩ ?_
    rintro⟨x,y⟩ ⟨hx,hy,hg⟩
    dsimp only at hx hy hg
    dsimp only
    by_cases hy0:y=0
    ·subst hy0
     rw[Nat.gcd_zero_right] at hg
     have hT:=Q7 1 x (by decide) (by omega) true
     rw[show H0 1 x=[x] from by rw[H0,H0];congr 1;omega] at hT
     rw[<-hg]
     repeat' ((conv=>whnf);first|refine sT ?_|refine sP ?_ ?_<;>intro _|refine cA hT ?_|fail)
     all_goals((conv=>whnf);try exact xO)
     exact⟨DLe.refl _,DLe.refl _,rfl⟩
    ·have hm:=CT x y
     have hml:x%y<y:=J7 _ (by omega)
     repeat' ((conv=>whnf);first|refine sT ?_|refine sP ?_ ?_<;>intro _|fail)
     all_goals((conv=>whnf);try exact xO)
     rw[hm]
     exact⟨⟨y,x%y⟩,wE,⟨hy,by show x%y<_;omega,by show Nat.gcd y (x%y)=_;rw[eD y,<-Nat.gcd_rec,eD];exact hg⟩,hml⟩
   ·obtain⟨za,ma,hea⟩:=mU (n:=a) (by omega)
    obtain⟨zb,mb,heb⟩:=mU (n:=b) (by omega)
    have hZa:=cK (nw a) za ma (by omega) (by rw[<-hea];exact R9 a)
    have hZb:=cK (nw b) zb mb (by omega) (by rw[<-heb];exact R9 b)
    rw[<-hea] at hZa
    rw[<-heb] at hZb
    have hClA:=nA (H0 (nw a) a) (by omega)
    have hClB:=nA (H0 (nw b) b) (by omega)
    have hal:=R9 a
    have hbl:=R9 b
    repeat' ((conv=>whnf);first|refine sT ?_|refine sP ?_ ?_<;>intro _|refine bO Tryz.func99 ?_|refine Nam.mk m1 ?_|refine Nam.mk m2 ?_|refine cA (hZa _) ?_|refine cA (hZb _) ?_|refine H6.ofRow (hClA _) ?_|refine H6.ofRow (hClB _) ?_|refine E6.ofRow (hClA _) ?_|refine E6.ofRow (hClB _) ?_|fail)
    all_goals((conv=>whnf);try exact xO)
    all_goals
     rw[m1,m2,show(if(zb:Int)<(za:Int) then(zb:Int) else(za:Int))=((min za zb:Nat):Int) from by split<;>omega]
     have hza:za<2^12:=by
      have h1:2^za<2^(64*nw a):=I4 (by conv=>rhs;rw[hea]
                                       exact R4 _ (by omega)) hal
      have:=(J9 (by decide:1<2)).1 h1
      omega
     have hzb:zb<2^12:=by
      have h1:2^zb<2^(64*nw b):=I4 (by conv=>rhs;rw[heb]
                                       exact R4 _ (by omega)) hbl
      have:=(J9 (by decide:1<2)).1 h1
      omega
     have hSa:=aH 0 (nw a) (nw a) a za (by omega) (B1 _) hal (by omega)
     have hSb:=aH 0 (nw b) (nw b) b zb (by omega) (B1 _) hbl (by omega)
     have hqa:a/2^za=2*ma+1:=by
      conv=>lhs;rw[hea]
      rw[V2 _ (G7 (by decide))]
     have hqb:b/2^zb=2*mb+1:=by
      conv=>lhs;rw[heb]
      rw[V2 _ (G7 (by decide))]
     rw[hqa] at hSa
     rw[hqb] at hSb
     have hgt:Nat.gcd a b=2^min za zb*Nat.gcd (2*ma+1) (2*mb+1):=by
      conv=>lhs;rw[hea,heb]
      exact B0k
     have hxa:2*ma+1<2^(64*nw a):=by rw[<-hqa];exact I4 (N5 _ _) hal
     have hxb:2*mb+1<2^(64*nw b):=by rw[<-hqb];exact I4 (N5 _ _) hbl
     clear hea heb hqa hqb hal hbl
     refine E6.bor1 (hZa _) rfl (K:=nw a) rfl (B1 _) ?_
     repeat' ((conv=>whnf);first|refine sT ?_|refine sP ?_ ?_<;>intro _|fail)
     all_goals(conv=>whnf)
     refine E6.updV rfl rfl hSa [2] (by decide) rfl rfl (gY rfl) ?_
     rintro _ _ ⟨rfl,rfl⟩ -
     repeat' ((conv=>whnf);first|refine sT ?_|refine sP ?_ ?_<;>intro _|refine E6.bor1 (hZb _) rfl (K:=nw b) rfl (B1 _) ?_|fail)
     all_goals(conv=>whnf)
     refine E6.updV rfl rfl hSb [3] (by decide) rfl rfl (gY rfl) ?_
     rintro _ _ ⟨rfl,rfl⟩ -
     repeat' ((conv=>whnf);first|refine sT ?_|refine sP ?_ ?_<;>intro _|fail)
     all_goals(conv=>whnf)
     refine lO (X:=XG) (λg=>[(0,.sref (if g.s then 3 else 2) 0 0 (nw g.x) false),(1,.sref (if g.s then 2 else 3) 0 0 (nw g.y) false)])
      (λg=>[(2,.row 0 1 false ((H0 (nw a) (if g.s then g.y else g.x)).map U)),(3,.row 0 1 false ((H0 (nw b) (if g.s then g.x else g.y)).map U))])
      (λg=>g.x%2=1/\g.y%2=1/\g.x<2^(64*(if g.s then nw b else nw a))/\g.y<2^(64*(if g.s then nw a else nw b))/\Nat.gcd g.x g.y=Nat.gcd (2*ma+1) (2*mb+1)) (λg=>g.x+g.y) ⟨2*ma+1,2*mb+1,false⟩ sam rfl
      ⟨by dsimp only;omega,by dsimp only;omega,hxa,hxb,rfl⟩ ?_
     clear hSa hSb hZa hZb hxa hxb
     rintro⟨x,y,s⟩ ⟨hx2,hy2,hxK,hyK,hg⟩
     dsimp only at hx2 hy2 hxK hyK hg
     dsimp only
     have hC:=cM (nw x) (nw y) x y
     cases s<;>simp only[if_true,if_false,T0,reduceIte] at hxK hyK ⊢
     all_goals
      have hxw0:=V3 hxK
      have hyw0:=V3 hyK
      replace hC:=hC (by omega) (by omega) (cX _) (cX _)
     ·by_cases hxy:x=y
      ·subst hxy
       have hcv:fE x x=0:=by unfold fE;rw[if_neg (cO _),if_neg (cO _)]
       rw[hcv] at hC
       obtain⟨t,ht⟩:∃t,t=min za zb:=⟨_,rfl⟩
       rw[<-ht] at hgt ⊢
       have htb:t<2^12:=by omega
       have et:(((t:Nat):Int)).tdiv 64=((t/64:Nat):Int):=wX t 64
       have em:(((t:Nat):Int)).tmod 64=((t%64:Nat):Int):=CT t 64
       obtain⟨L,hL⟩:∃L,L=t/64+1:=⟨_,rfl⟩
       have eL:((t/64:Nat):Int)+1=((L:Nat):Int):=by omega
       have e0:List.replicate ((L:Nat):Int).toNat (Q9 ⟨.int .u64,1,8,[.i .u64 0]⟩)=(H0 L 0).map U:=by
        rw[B0,cN,M8];rfl
       have hpl:2^(t%64)<18446744073709551616:=by
        have:2^(t%64)<2^64:=Y3 (by decide) (by omega)
        exact this
       have esl:IntKind.u64.wrap (1*2^min (((t:Nat):Int).tmod 64).toNat IntKind.u64.bits)=((2^(t%64):Nat):Int):=by
        rw[em,show(min ((((t%64:Nat):Int))).toNat IntKind.u64.bits)=t%64 from by show min _ 64=_;omega,Int.one_mul,wrap_u64]
        ·rw[P1];rfl
        ·have:((2:Int)^(t%64))=((2^(t%64):Nat):Int):=by rw[P1];rfl
         rw[this];exact⟨Int.natCast_nonneg _,Int.ofNat_lt.2 hpl⟩
       have J3:=QC (L:=L) (n:=0) (i:=t/64) (x:=2^(t%64)) (by omega) (G7 (by decide)) hpl
       rw[C1,<-H2,show t%64+64*(t/64)=t by omega] at J3
       have q1:=sO (l:=H0 L 0) (i:=((t/64:Nat):Int)) rfl (by rw[G9];omega)
       have q2:=sG (i:=((t/64:Nat):Int)) rfl rfl J3
       have hpw:2^t<2^(64*L):=Y3 (by decide) (by omega)
       have hP:=nH (nw x) L x (2^t) (by omega) (by omega) (R9 x) hpw
       have hgv:x*2^t=Nat.gcd a b:=by
        rw[hgt,<-hg,Nat.gcd_self,C6]
       have hT:=Q7 (nw x+L) (x*2^t) (by omega) (by
        rw[R2,H2]
        exact DW (R9 x) hpw)
       have lx:=G9 (nw x) x
       have elx:((H0 (nw a) x).map U).take (nw x)=(H0 (nw x) x).map U:=by rw[<-mB,vX _ _ _ (V3 hxK)]
       have lxa:((H0 (nw a) x).map U).length=nw a:=by rw[A6,G9]
       have hxw:=V3 hxK
       have m6:L=((H0 L (2^t)).map U).length:=by rw[A6,G9]
       have m7:((H0 (nw x+L) (x*2^t)).map U).length=nw x+L:=by rw[A6,G9]
       rw[<-hgv]
       repeat' ((conv=>whnf);first|refine Wr.i64 ((t/64:Nat):Int) et (by omega) ?_|refine Wr.i64 ((L:Nat):Int) eL (by omega) ?_|refine Wr.is esl ?_|refine sT ?_|refine sP ?_ ?_<;>intro _|refine E6.bor2 (hC _ _) rfl (by decide) (K:=nw a) rfl (V3 hxK) (K':=nw b) rfl (V3 hyK) ?_|fail)
       all_goals((conv=>whnf);try exact xO)
       rw[e0]
       have gP:=pY (i:=((t/64:Nat):Int)) rfl (P5 L 0 (t/64) (by omega))
       repeat' ((conv=>whnf);first|refine sT ?_|refine sP ?_ ?_<;>intro _|refine A9 gP ?_|refine J6 q1 q2 ?_|fail)
       all_goals(conv=>whnf)
       refine E6.lift ?_
       rw[show(((L:Nat):Int)).toNat=L from B0 L]
       repeat' ((conv=>whnf);first|refine sT ?_|refine sP ?_ ?_<;>intro _|refine Nam.mk elx ?_|refine Nam.mk (whole m6) ?_|refine E6.ofRow (hP _ _) ?_|refine cA (hT _) ?_|refine Nam.mk (whole m7.symm) ?_|fail)
       all_goals(conv=>whnf)
       refine E6.lift ?_
       rw[m7]
       repeat' ((conv=>whnf);first|refine sT ?_|refine sP ?_ ?_<;>intro _|refine Nam.mk (whole m7.symm) ?_|refine cA (hT _) ?_|fail)
       all_goals(conv=>whnf)
       exact⟨DLe.refl _,DLe.refl _,rfl⟩
      ·by_cases hlt:x<y
       ·have hcv:fE x y= -1:=by unfold fE;rw[if_pos hlt]
        rw[hcv] at hC
        obtain⟨z,m,hzm⟩:=mU (n:=y-x) (by omega)
        have hRe:=cL 0 (nw b) (nw y) (nw x) y x (by omega) (V3 (by first|exact hxK|exact hyK)) (by omega) (R9 _) (R9 _) (by omega) 0 (nw a) (by omega) (V3 (by first|exact hxK|exact hyK))
        have hd:y-x<2^(64*nw y):=by have:=R9 y;omega
        have hZ:=cK (nw y) z m (by omega) (by rw[<-hzm];exact hd)
        rw[<-hzm] at hZ
        have hz30:z<2^30:=by
         have h1:2^z<2^(64*nw y):=I4 (by rw[hzm];exact R4 _ (by omega)) hd
         have:=(J9 (by decide:1<2)).1 h1
         omega
        have hS:=aH 0 (nw b) (nw y) (y-x) z (by omega) (V3 (by first|exact hxK|exact hyK)) hd hz30
        have hq:(y-x)/2^z=2*m+1:=by rw[hzm,V2 _ (G7 (by decide))]
        rw[hq] at hS
        have hgs:=oP (x:=y) (y:=x) (by omega) (by omega) hzm
        have hml:2*m+1<=y-x:=by rw[<-hq];exact N5 _ _
        have hmm:2*m+1<y:=by omega
        clear hzm hd hq
        repeat' ((conv=>whnf);first|refine sT ?_|refine sP ?_ ?_<;>intro _|refine E6.bor2 (hC _ _) rfl (by decide) (K:=nw a) rfl (V3 hxK) (K':=nw b) rfl (V3 hyK) ?_|fail)
        all_goals((conv=>whnf);try exact xO)
        refine E6.upd rfl rfl hRe [3,2] (by decide) rfl rfl (gY rfl) ?_
        rintro _ rfl -
        refine⟨_,WkH.refl _,?_⟩
        repeat' ((conv=>whnf);first|refine sT ?_|refine sP ?_ ?_<;>intro _|refine E6.bor1 (hZ _) rfl (K:=nw b) rfl (V3 (by first|exact hxK|exact hyK)) ?_|refine H6.bor1 (hZ _) rfl (K:=nw b) rfl (V3 (by first|exact hxK|exact hyK)) ?_|fail)
        all_goals(conv=>whnf)
        refine E6.updV rfl rfl hS [3] (by decide) rfl rfl (gY rfl) ?_
        rintro _ _ ⟨rfl,rfl⟩ -
        repeat' ((conv=>whnf);first|refine sT ?_|refine sP ?_ ?_<;>intro _|fail)
        all_goals(conv=>whnf)
        exact⟨⟨2*m+1,x,true⟩,wE,⟨by show(2*m+1)%2=1;omega,by first|exact hy2|exact hx2,by first|exact gM hmm hyK|exact gM hmm hxK,by first|exact hxK|exact hyK,by first|(rw[hgs];exact hg)|(rw[hgs,eD];exact hg)⟩,by show 2*m+1+x<x+y;omega⟩
       ·have hcv:fE x y=1:=by unfold fE;rw[if_neg hlt,if_pos (by omega)]
        rw[hcv] at hC
        obtain⟨z,m,hzm⟩:=mU (n:=x-y) (by omega)
        have hRe:=cL 0 (nw a) (nw x) (nw y) x y (by omega) (V3 (by first|exact hxK|exact hyK)) (by omega) (R9 _) (R9 _) (by omega) 0 (nw b) (by omega) (V3 (by first|exact hxK|exact hyK))
        have hd:x-y<2^(64*nw x):=by have:=R9 x;omega
        have hZ:=cK (nw x) z m (by omega) (by rw[<-hzm];exact hd)
        rw[<-hzm] at hZ
        have hz30:z<2^30:=by
         have h1:2^z<2^(64*nw x):=I4 (by rw[hzm];exact R4 _ (by omega)) hd
         have:=(J9 (by decide:1<2)).1 h1
         omega
        have hS:=aH 0 (nw a) (nw x) (x-y) z (by omega) (V3 (by first|exact hxK|exact hyK)) hd hz30
        have hq:(x-y)/2^z=2*m+1:=by rw[hzm,V2 _ (G7 (by decide))]
        rw[hq] at hS
        have hgs:=oP (x:=x) (y:=y) (by omega) (by omega) hzm
        have hml:2*m+1<=x-y:=by rw[<-hq];exact N5 _ _
        have hmm:2*m+1<x:=by omega
        clear hzm hd hq
        repeat' ((conv=>whnf);first|refine sT ?_|refine sP ?_ ?_<;>intro _|refine E6.bor2 (hC _ _) rfl (by decide) (K:=nw a) rfl (V3 hxK) (K':=nw b) rfl (V3 hyK) ?_|fail)
        all_goals((conv=>whnf);try exact xO)
        refine E6.upd rfl rfl hRe [2,3] (by decide) rfl rfl (gY rfl) ?_
        rintro _ rfl -
        refine⟨_,WkH.refl _,?_⟩
        repeat' ((conv=>whnf);first|refine sT ?_|refine sP ?_ ?_<;>intro _|refine E6.bor1 (hZ _) rfl (K:=nw a) rfl (V3 (by first|exact hxK|exact hyK)) ?_|refine H6.bor1 (hZ _) rfl (K:=nw a) rfl (V3 (by first|exact hxK|exact hyK)) ?_|fail)
        all_goals(conv=>whnf)
        refine E6.updV rfl rfl hS [2] (by decide) rfl rfl (gY rfl) ?_
        rintro _ _ ⟨rfl,rfl⟩ -
        repeat' ((conv=>whnf);first|refine sT ?_|refine sP ?_ ?_<;>intro _|fail)
        all_goals(conv=>whnf)
        exact⟨⟨2*m+1,y,false⟩,wE,⟨by show(2*m+1)%2=1;omega,by first|exact hy2|exact hx2,by first|exact gM hmm hyK|exact gM hmm hxK,by first|exact hxK|exact hyK,by first|(rw[hgs];exact hg)|(rw[hgs,eD];exact hg)⟩,by show 2*m+1+y<x+y;omega⟩
     ·by_cases hxy:x=y
      ·subst hxy
       have hcv:fE x x=0:=by unfold fE;rw[if_neg (cO _),if_neg (cO _)]
       rw[hcv] at hC
       obtain⟨t,ht⟩:∃t,t=min za zb:=⟨_,rfl⟩
       rw[<-ht] at hgt ⊢
       have htb:t<2^12:=by omega
       have et:(((t:Nat):Int)).tdiv 64=((t/64:Nat):Int):=wX t 64
       have em:(((t:Nat):Int)).tmod 64=((t%64:Nat):Int):=CT t 64
       obtain⟨L,hL⟩:∃L,L=t/64+1:=⟨_,rfl⟩
       have eL:((t/64:Nat):Int)+1=((L:Nat):Int):=by omega
       have e0:List.replicate ((L:Nat):Int).toNat (Q9 ⟨.int .u64,1,8,[.i .u64 0]⟩)=(H0 L 0).map U:=by
        rw[B0,cN,M8];rfl
       have hpl:2^(t%64)<18446744073709551616:=by
        have:2^(t%64)<2^64:=Y3 (by decide) (by omega)
        exact this
       have esl:IntKind.u64.wrap (1*2^min (((t:Nat):Int).tmod 64).toNat IntKind.u64.bits)=((2^(t%64):Nat):Int):=by
        rw[em,show(min ((((t%64:Nat):Int))).toNat IntKind.u64.bits)=t%64 from by show min _ 64=_;omega,Int.one_mul,wrap_u64]
        ·rw[P1];rfl
        ·have:((2:Int)^(t%64))=((2^(t%64):Nat):Int):=by rw[P1];rfl
         rw[this];exact⟨Int.natCast_nonneg _,Int.ofNat_lt.2 hpl⟩
       have J3:=QC (L:=L) (n:=0) (i:=t/64) (x:=2^(t%64)) (by omega) (G7 (by decide)) hpl
       rw[C1,<-H2,show t%64+64*(t/64)=t by omega] at J3
       have q1:=sO (l:=H0 L 0) (i:=((t/64:Nat):Int)) rfl (by rw[G9];omega)
       have q2:=sG (i:=((t/64:Nat):Int)) rfl rfl J3
       have hpw:2^t<2^(64*L):=Y3 (by decide) (by omega)
       have hP:=nH (nw x) L x (2^t) (by omega) (by omega) (R9 x) hpw
       have hgv:x*2^t=Nat.gcd a b:=by
        rw[hgt,<-hg,Nat.gcd_self,C6]
       have hT:=Q7 (nw x+L) (x*2^t) (by omega) (by
        rw[R2,H2]
        exact DW (R9 x) hpw)
       have lx:=G9 (nw x) x
       have elx:((H0 (nw b) x).map U).take (nw x)=(H0 (nw x) x).map U:=by rw[<-mB,vX _ _ _ (V3 hxK)]
       have lxa:((H0 (nw b) x).map U).length=nw b:=by rw[A6,G9]
       have hxw:=V3 hxK
       have m6:L=((H0 L (2^t)).map U).length:=by rw[A6,G9]
       have m7:((H0 (nw x+L) (x*2^t)).map U).length=nw x+L:=by rw[A6,G9]
       rw[<-hgv]
       repeat' ((conv=>whnf);first|refine Wr.i64 ((t/64:Nat):Int) et (by omega) ?_|refine Wr.i64 ((L:Nat):Int) eL (by omega) ?_|refine Wr.is esl ?_|refine sT ?_|refine sP ?_ ?_<;>intro _|refine E6.bor2 (hC _ _) rfl (by decide) (K:=nw b) rfl (V3 hxK) (K':=nw a) rfl (V3 hyK) ?_|fail)
       all_goals((conv=>whnf);try exact xO)
       rw[e0]
       have gP:=pY (i:=((t/64:Nat):Int)) rfl (P5 L 0 (t/64) (by omega))
       repeat' ((conv=>whnf);first|refine sT ?_|refine sP ?_ ?_<;>intro _|refine A9 gP ?_|refine J6 q1 q2 ?_|fail)
       all_goals(conv=>whnf)
       refine E6.lift ?_
       rw[show(((L:Nat):Int)).toNat=L from B0 L]
       repeat' ((conv=>whnf);first|refine sT ?_|refine sP ?_ ?_<;>intro _|refine Nam.mk elx ?_|refine Nam.mk (whole m6) ?_|refine E6.ofRow (hP _ _) ?_|refine cA (hT _) ?_|refine Nam.mk (whole m7.symm) ?_|fail)
       all_goals(conv=>whnf)
       refine E6.lift ?_
       rw[m7]
       repeat' ((conv=>whnf);first|refine sT ?_|refine sP ?_ ?_<;>intro _|refine Nam.mk (whole m7.symm) ?_|refine cA (hT _) ?_|fail)
       all_goals(conv=>whnf)
       exact⟨DLe.refl _,DLe.refl _,rfl⟩
      ·by_cases hlt:x<y
       ·have hcv:fE x y= -1:=by unfold fE;rw[if_pos hlt]
        rw[hcv] at hC
        obtain⟨z,m,hzm⟩:=mU (n:=y-x) (by omega)
        have hRe:=cL 0 (nw a) (nw y) (nw x) y x (by omega) (V3 (by first|exact hxK|exact hyK)) (by omega) (R9 _) (R9 _) (by omega) 0 (nw b) (by omega) (V3 (by first|exact hxK|exact hyK))
        have hd:y-x<2^(64*nw y):=by have:=R9 y;omega
        have hZ:=cK (nw y) z m (by omega) (by rw[<-hzm];exact hd)
        rw[<-hzm] at hZ
        have hz30:z<2^30:=by
         have h1:2^z<2^(64*nw y):=I4 (by rw[hzm];exact R4 _ (by omega)) hd
         have:=(J9 (by decide:1<2)).1 h1
         omega
        have hS:=aH 0 (nw a) (nw y) (y-x) z (by omega) (V3 (by first|exact hxK|exact hyK)) hd hz30
        have hq:(y-x)/2^z=2*m+1:=by rw[hzm,V2 _ (G7 (by decide))]
        rw[hq] at hS
        have hgs:=oP (x:=y) (y:=x) (by omega) (by omega) hzm
        have hml:2*m+1<=y-x:=by rw[<-hq];exact N5 _ _
        have hmm:2*m+1<y:=by omega
        clear hzm hd hq
        repeat' ((conv=>whnf);first|refine sT ?_|refine sP ?_ ?_<;>intro _|refine E6.bor2 (hC _ _) rfl (by decide) (K:=nw b) rfl (V3 hxK) (K':=nw a) rfl (V3 hyK) ?_|fail)
        all_goals((conv=>whnf);try exact xO)
        refine E6.upd rfl rfl hRe [2,3] (by decide) rfl rfl (gY rfl) ?_
        rintro _ rfl -
        refine⟨_,WkH.refl _,?_⟩
        repeat' ((conv=>whnf);first|refine sT ?_|refine sP ?_ ?_<;>intro _|refine E6.bor1 (hZ _) rfl (K:=nw a) rfl (V3 (by first|exact hxK|exact hyK)) ?_|refine H6.bor1 (hZ _) rfl (K:=nw a) rfl (V3 (by first|exact hxK|exact hyK)) ?_|fail)
        all_goals(conv=>whnf)
        refine E6.updV rfl rfl hS [2] (by decide) rfl rfl (gY rfl) ?_
        rintro _ _ ⟨rfl,rfl⟩ -
        repeat' ((conv=>whnf);first|refine sT ?_|refine sP ?_ ?_<;>intro _|fail)
        all_goals(conv=>whnf)
        exact⟨⟨2*m+1,x,false⟩,wE,⟨by show(2*m+1)%2=1;omega,by first|exact hy2|exact hx2,by first|exact gM hmm hyK|exact gM hmm hxK,by first|exact hxK|exact hyK,by first|(rw[hgs];exact hg)|(rw[hgs,eD];exact hg)⟩,by show 2*m+1+x<x+y;omega⟩
       ·have hcv:fE x y=1:=by unfold fE;rw[if_neg hlt,if_pos (by omega)]
        rw[hcv] at hC
        obtain⟨z,m,hzm⟩:=mU (n:=x-y) (by omega)
        have hRe:=cL 0 (nw b) (nw x) (nw y) x y (by omega) (V3 (by first|exact hxK|exact hyK)) (by omega) (R9 _) (R9 _) (by omega) 0 (nw a) (by omega) (V3 (by first|exact hxK|exact hyK))
        have hd:x-y<2^(64*nw x):=by have:=R9 x;omega
        have hZ:=cK (nw x) z m (by omega) (by rw[<-hzm];exact hd)
        rw[<-hzm] at hZ
        have hz30:z<2^30:=by
         have h1:2^z<2^(64*nw x):=I4 (by rw[hzm];exact R4 _ (by omega)) hd
         have:=(J9 (by decide:1<2)).1 h1
         omega
        have hS:=aH 0 (nw b) (nw x) (x-y) z (by omega) (V3 (by first|exact hxK|exact hyK)) hd hz30
        have hq:(x-y)/2^z=2*m+1:=by rw[hzm,V2 _ (G7 (by decide))]
        rw[hq] at hS
        have hgs:=oP (x:=x) (y:=y) (by omega) (by omega) hzm
        have hml:2*m+1<=x-y:=by rw[<-hq];exact N5 _ _
        have hmm:2*m+1<x:=by omega
        clear hzm hd hq
        repeat' ((conv=>whnf);first|refine sT ?_|refine sP ?_ ?_<;>intro _|refine E6.bor2 (hC _ _) rfl (by decide) (K:=nw b) rfl (V3 hxK) (K':=nw a) rfl (V3 hyK) ?_|fail)
        all_goals((conv=>whnf);try exact xO)
        refine E6.upd rfl rfl hRe [3,2] (by decide) rfl rfl (gY rfl) ?_
        rintro _ rfl -
        refine⟨_,WkH.refl _,?_⟩
        repeat' ((conv=>whnf);first|refine sT ?_|refine sP ?_ ?_<;>intro _|refine E6.bor1 (hZ _) rfl (K:=nw b) rfl (V3 (by first|exact hxK|exact hyK)) ?_|refine H6.bor1 (hZ _) rfl (K:=nw b) rfl (V3 (by first|exact hxK|exact hyK)) ?_|fail)
        all_goals(conv=>whnf)
        refine E6.updV rfl rfl hS [3] (by decide) rfl rfl (gY rfl) ?_
        rintro _ _ ⟨rfl,rfl⟩ -
        repeat' ((conv=>whnf);first|refine sT ?_|refine sP ?_ ?_<;>intro _|fail)
        all_goals(conv=>whnf)
        exact⟨⟨2*m+1,y,true⟩,wE,⟨by show(2*m+1)%2=1;omega,by first|exact hy2|exact hx2,by first|exact gM hmm hyK|exact gM hmm hxK,by first|exact hxK|exact hyK,by first|(rw[hgs];exact hg)|(rw[hgs,eD];exact hg)⟩,by show 2*m+1+y<x+y;omega⟩
end Go.PM
namespace Go.PM
def sg (neg:Bool) (n:Nat):Int:=if neg then -(n:Int) else n
def nv (neg:Bool) (n d:Nat):Rat:=mkRat (sg neg n) d
theorem pwr {i j:Nat} (h:i<=j):2^i<=2^j:=M3 (by decide) h
theorem pwl {i j:Nat} (h:i<j):2^i<2^j:=Y3 (by decide) h
def qn (q:Rat):Nat:=q.num.natAbs
def gS (q:Rat):Bool:=decide (q.num<0)
theorem YQ (neg:Bool) (n:Nat):(sg neg n).natAbs=n:=by cases neg<;>simp[sg]
theorem B3b (q:Rat):sg (gS q) (qn q)=q.num:=by
 unfold sg gS qn
 by_cases h:q.num<0
 ·simp only[h,decide_true,if_true];omega
 ·simp only[h,decide_false,T0,if_false];omega
theorem kF (q:Rat):nv (gS q) (qn q) q.den=q:=by unfold nv;rw[B3b];exact Rat.mkRat_self q
theorem sg_div (neg:Bool) {n g:Nat} (h:g∣n):sg neg n/(g:Int)=sg neg (n/g):=by
 cases neg
 ·simp[sg]
 ·simp only[sg,if_true]
  rw[Int.neg_ediv_of_dvd (Int.ofNat_dvd.2 h),fH]
theorem A9f {neg:Bool} {n d:Nat} (hd:0<d):(nv neg n d).num=sg neg (n/Nat.gcd n d):=by
 unfold nv
 rw[Rat.num_mkRat,if_neg (by omega),YQ,eD,sg_div neg (Nat.gcd_dvd_left n d)]
theorem B5d {neg:Bool} {n d:Nat} (hd:0<d):qn (nv neg n d)=n/Nat.gcd n d:=by unfold qn;rw[A9f hd,YQ]
theorem A9g {neg:Bool} {n d:Nat} (hd:0<d):(nv neg n d).den=d/Nat.gcd n d:=by
 unfold nv
 rw[Rat.den_mkRat,if_neg (by omega),YQ,eD]
theorem nv_neg {neg:Bool} {n d:Nat} (hd:0<d):gS (nv neg n d)=(neg&&decide (¬n/Nat.gcd n d=0)):=by
 unfold gS
 rw[A9f hd]
 generalize n/Nat.gcd n d=m
 cases neg
 ·simp only[sg,T0,if_false,xM];rw[B6];omega
 ·simp only[sg,if_true,cQ]
  by_cases h:m=0
  ·subst h;simp
  ·rw[C2 (by omega),C2 h]
theorem zC {q:Rat}:qn q=0↔q=0:=by
 unfold qn
 rw[Int.natAbs_eq_zero]
 exact⟨λh=>KW.1 h,λh=>by rw[h];rfl⟩
theorem A9h {a b:Bool} {n1 d1 n2 d2:Nat} (h1:0<d1) (h2:0<d2):nv a n1 d1+nv b n2 d2=if a=b then nv a (n1*d2+n2*d1) (d1*d2) else if n1*d2<n2*d1 then nv b (n2*d1-n1*d2) (d1*d2) else nv a (n1*d2-n2*d1) (d1*d2):=by
 unfold nv
 rw[Rat.mkRat_add_mkRat _ _ (by omega) (by omega)]
 have e:sg a n1*(d2:Int)+sg b n2*(d1:Int)=if a=b then sg a (n1*d2+n2*d1) else if n1*d2<n2*d1 then sg b (n2*d1-n1*d2) else sg a (n1*d2-n2*d1):=by
  have e1:sg a n1*(d2:Int)=sg a (n1*d2):=by cases a<;>simp[sg,Int.neg_mul]
  have e2:sg b n2*(d1:Int)=sg b (n2*d1):=by cases b<;>simp[sg,Int.neg_mul]
  rw[e1,e2]
  generalize n1*d2=x
  generalize n2*d1=y
  cases a<;>cases b<;>simp[sg]<;>(try split)<;>omega
 rw[e]
 split
 ·rfl
 ·split<;>rfl
theorem ZF {a b:Bool} {n1 d1 n2 d2:Nat}:nv a n1 d1*nv b n2 d2=nv (a !=b) (n1*n2) (d1*d2):=by
 unfold nv
 rw[Rat.mkRat_mul_mkRat]
 congr 1
 cases a<;>cases b<;>simp[sg,Int.neg_mul,Int.mul_neg]
theorem nv_opp {a:Bool} {n d:Nat}:nv (!a&&decide (¬n=0)) n d= -nv a n d:=by
 unfold nv
 rw[Rat.neg_mkRat]
 congr 1
 by_cases h:n=0
 ·subst h;simp[sg]
 ·cases a<;>simp[sg,h]
theorem nv_inv {a:Bool} {n d:Nat} (hn:0<n) (hd:0<d):nv a d n=(nv a n d)⁻¹ :=by
 unfold nv
 rw[qS,qS]
 have hn':(n:Rat)≠0:=by simp;omega
 have hd':(d:Rat)≠0:=by simp;omega
 cases a
 ·simp only[sg,T0,if_false,P6];grind
 ·simp only[sg,if_true,P6,mN];grind
theorem cop (q:Rat):Nat.gcd (qn q) q.den=1:=q.reduced
end Go.PM
namespace Go.PM
open Go.Proofs
def nD (neg:Bool) (n d:Nat):D:=.agg [.b neg,.s (str n),.s (str d)]
def rD (q:Rat):D:=nD (gS q) (qn q) q.den
theorem nL {a b:Nat} (h:lim b) (hab:a<=b):lim a:=I4 hab h
theorem IQ {a b:Nat} (h:lim (a*b)) (hb:0<b):lim a:=nL h (R4 _ hb)
theorem A9s {a b:Nat} (h:lim (a*b)) (ha:0<a):lim b:=nL h (Nat.le_mul_of_pos_left _ ha)
theorem U5 (x:ByteArray):C9 Tryz.prog 56 [.d (.s x),.d (I 0)] (E5 [.s x]):=by
 refine pU Tryz.func56 ?_
 repeat' ((conv=>whnf);first|refine sT ?_|refine sP ?_ ?_<;>intro _|fail)
 all_goals exact fI
theorem UP (n m:Nat) (hn:lim n) (hm:lim m):C9 Tryz.prog 162 [.d (sD n),.d (sD m)] (E5 [I (fE n m)]):=by
 have hC:=BH n m hn hm
 have hM:=U5 ⟨#[]⟩
 refine pU Tryz.func162 ?_
 repeat' ((conv=>whnf);first|refine sT ?_|refine sP ?_ ?_<;>intro _|refine cA hC ?_|refine cA hM ?_|fail)
 all_goals exact fI
theorem HU (a b:Bool) (n1 d1 n2 d2:Nat) (h1:lim (n1*d2)) (h2:lim (n2*d1)) (l1:lim n1) (l2:lim d1) (l3:lim n2) (l4:lim d2):
 C9 Tryz.prog 160 [.d (nD a n1 d1),.d (nD b n2 d2)] (E5 [sD (n1*d2),sD (n2*d1)]):=by
 have m1:=iU n1 d2 l1 l4 h1
 have m2:=iU n2 d1 l3 l2 h2
 have u1:=U5 (str (n1*d2))
 have u2:=U5 (str (n2*d1))
 refine pU Tryz.func160 ?_
 repeat' ((conv=>whnf);first|refine sT ?_|refine sP ?_ ?_<;>intro _|refine cA m1 ?_|refine cA m2 ?_|refine cA u1 ?_|refine cA u2 ?_|fail)
 all_goals exact fI
theorem DB (a b:Bool) (n1 d1 n2 d2:Nat) (h0:lim (n1*d2+n2*d1)) (h3:lim (d1*d2)) (p1:0<d1) (p2:0<d2):
 C9 Tryz.prog 112 [.d (nD a n1 d1),.d (nD b n2 d2)] (E5 [if a=b then nD a (n1*d2+n2*d1) (d1*d2) else if n1*d2<n2*d1 then nD b (n2*d1-n1*d2) (d1*d2) else nD a (n1*d2-n2*d1) (d1*d2)]):=by
 have h1:lim (n1*d2):=nL h0 (Nat.le_add_right _ _)
 have h2:lim (n2*d1):=nL h0 (Nat.le_add_left _ _)
 have hc:=HU a b n1 d1 n2 d2 h1 h2 (IQ h1 p2) (IQ h3 p2) (IQ h2 p1) (A9s h3 p1)
 have md:=iU d1 d2 (IQ h3 p2) (A9s h3 p1) h3
 have ud:=U5 (str (d1*d2))
 obtain⟨x,hx⟩:∃x,x=n1*d2:=⟨_,rfl⟩
 obtain⟨y,hy⟩:∃y,y=n2*d1:=⟨_,rfl⟩
 rw[<-hx,<-hy] at h0 hc ⊢
 rw[<-hx] at h1
 rw[<-hy] at h2
 by_cases hab:a=b
 ·subst hab
  have ma:=zJ x y h1 h2 h0
  have ua:=U5 (str (x+y))
  rw[if_pos rfl]
  refine pU Tryz.func112 ?_
  repeat' ((conv=>whnf);first|refine Dec.t rfl ?_|refine sT ?_|refine sP ?_ ?_<;>intro _|refine cA hc ?_|refine cA md ?_|refine cA ud ?_|refine cA ma ?_|refine cA ua ?_|fail)
  all_goals(conv=>whnf)
  all_goals first|exact DLe.refl _|(exfalso;omega)
 ·have hs:=UP x y h1 h2
  rw[if_neg hab]
  by_cases hlt:x<y
  ·have ma:=zG y x h2 h1 (by omega)
   have ua:=U5 (str (y-x))
   rw[show fE x y= -1 from if_pos hlt] at hs
   rw[if_pos hlt]
   refine pU Tryz.func112 ?_
   repeat' ((conv=>whnf);first|refine Dec.f hab ?_|refine sT ?_|refine sP ?_ ?_<;>intro _|refine cA hc ?_|refine cA md ?_|refine cA ud ?_|refine cA hs ?_|refine cA ma ?_|refine cA ua ?_|fail)
   all_goals(conv=>whnf)
   all_goals first|exact DLe.refl _|(exfalso;omega)
  ·have ma:=zG x y h1 h2 (by omega)
   have ua:=U5 (str (x-y))
   have hcv:fE x y=0∨fE x y=1:=FL (by omega)
   rw[if_neg hlt]
   refine pU Tryz.func112 ?_
   repeat' ((conv=>whnf);first|refine Dec.f hab ?_|refine sT ?_|refine sP ?_ ?_<;>intro _|refine cA hc ?_|refine cA md ?_|refine cA ud ?_|refine cA hs ?_|refine cA ma ?_|refine cA ua ?_|fail)
   all_goals(conv=>whnf)
   all_goals first|exact DLe.refl _|(exfalso;omega)
theorem zF (a b:Bool) (n1 d1 n2 d2:Nat) (h0:lim (n1*n2)) (h3:lim (d1*d2)) (l1:lim n1) (l2:lim d1) (l3:lim n2) (l4:lim d2):
 C9 Tryz.prog 116 [.d (nD a n1 d1),.d (nD b n2 d2)] (E5 [nD (a !=b) (n1*n2) (d1*d2)]):=by
 have m1:=iU n1 n2 l1 l3 h0
 have m2:=iU d1 d2 l2 l4 h3
 have u1:=U5 (str (n1*n2))
 have u2:=U5 (str (d1*d2))
 by_cases hab:a=b
 ·subst hab
  rw[show(a !=a)=false by simp]
  refine pU Tryz.func116 ?_
  repeat' ((conv=>whnf);first|refine Dec.t rfl ?_|refine sT ?_|refine sP ?_ ?_<;>intro _|refine cA m1 ?_|refine cA m2 ?_|refine cA u1 ?_|refine cA u2 ?_|fail)
  all_goals(conv=>whnf)
  all_goals first|exact DLe.refl _|(exfalso;omega)
 ·rw[show(a !=b)=true by simp[hab]]
  refine pU Tryz.func116 ?_
  repeat' ((conv=>whnf);first|refine Dec.f hab ?_|refine sT ?_|refine sP ?_ ?_<;>intro _|refine cA m1 ?_|refine cA m2 ?_|refine cA u1 ?_|refine cA u2 ?_|fail)
  all_goals(conv=>whnf)
  all_goals first|exact DLe.refl _|(exfalso;omega)
theorem EL (a:Bool) (n d:Nat):C9 Tryz.prog 114 [.d (nD a n d)] (E5 [nD (!a&&decide (¬n=0)) n d]):=by
 have hz:(str n).toList=(⟨#[]⟩:ByteArray).toList↔n=0:=by rw[<-fP,LH]
 by_cases h:n=0
 ·rw[B6 (λhh=>hh h),pC]
  cases a<;>(
   refine pU Tryz.func114 ?_
   repeat' ((conv=>whnf);first|refine Dec.t (hz.2 h) ?_|refine sT ?_|refine sP ?_ ?_<;>intro _|fail)
   all_goals(conv=>whnf)
   all_goals exact DLe.refl _)
 ·rw[C2 h,mD]
  cases a<;>(
   refine pU Tryz.func114 ?_
   repeat' ((conv=>whnf);first|refine Dec.f (λhh=>h (hz.1 hh)) ?_|refine sT ?_|refine sP ?_ ?_<;>intro _|fail)
   all_goals(conv=>whnf)
   all_goals exact DLe.refl _)
theorem HT (a:Bool) (n d:Nat):C9 Tryz.prog 118 [.d (nD a n d)] (E5 [nD a d n]):=by
 refine pU Tryz.func118 ?_
 repeat' ((conv=>whnf);first|refine sT ?_|refine sP ?_ ?_<;>intro _|fail)
 all_goals exact fJ
theorem fV (a:Bool) (n d:Nat) (hn:lim n) (hd:lim d) (hp:0<d):C9 Tryz.prog 27 [.d (nD a n d)] (E5 [rD (nv a n d)]):=by
 have hg:0<Nat.gcd n d:=Nat.gcd_pos_of_pos_right _ hp
 have hgl:lim (Nat.gcd n d):=nL hd (Nat.le_of_dvd hp (Nat.gcd_dvd_right n d))
 have c1:=zH n d hn hd
 have c2:=zI n (Nat.gcd n d) hn hgl hg
 have c3:=zI d (Nat.gcd n d) hd hgl hg
 have u1:=U5 (str (Nat.gcd n d))
 have u2:=U5 ⟨#[]⟩
 have hz:(str (n/Nat.gcd n d)).toList=(⟨#[]⟩:ByteArray).toList↔n/Nat.gcd n d=0:=by rw[<-fP,LH]
 unfold rD
 rw[B5d hp,A9g hp,nv_neg hp]
 cases a
 ·rw[xM]
  refine pU Tryz.func27 ?_
  repeat' ((conv=>whnf);first|refine sT ?_|refine sP ?_ ?_<;>intro _|refine cA c1 ?_|refine cA c2 ?_|refine cA c3 ?_|refine cA u1 ?_|refine cA u2 ?_|fail)
  all_goals(conv=>whnf)
  all_goals first|exact DLe.refl _|(exfalso;omega)
 ·by_cases h:n/Nat.gcd n d=0
  ·rw[B6 (λhh=>hh h),pC]
   refine pU Tryz.func27 ?_
   repeat' ((conv=>whnf);first|refine Dec.t (hz.2 h) ?_|refine sT ?_|refine sP ?_ ?_<;>intro _|refine cA c1 ?_|refine cA c2 ?_|refine cA c3 ?_|refine cA u1 ?_|refine cA u2 ?_|fail)
   all_goals(conv=>whnf)
   all_goals first|exact DLe.refl _|(exfalso;omega)
  ·rw[C2 h,mD]
   refine pU Tryz.func27 ?_
   repeat' ((conv=>whnf);first|refine Dec.f (λhh=>h (hz.1 hh)) ?_|refine sT ?_|refine sP ?_ ?_<;>intro _|refine cA c1 ?_|refine cA c2 ?_|refine cA c3 ?_|refine cA u1 ?_|refine cA u2 ?_|fail)
   all_goals(conv=>whnf)
   all_goals first|exact DLe.refl _|(exfalso;omega)
theorem FD {P:Program} {f:FuncId} {fn:Func} (hf:P.funcs[f]? =some fn) (hname:(fn.name== "runtime.NumGoroutine")=false) {c:Code} (hb:fn.body=some c) {m:Nat}
 (hplain:∀(arr:Array Value) (w:World),arr.size=m->CallsDIn (FF none) 0 P f arr .returning w λe u' w'=>(∃v,e=.returned v)/\u'=.returning/\w'=w)
 (vs:List V) (hl:vs.length=m) (h:Hp) {K:Hp->Prop} (hk:K h):LC P f vs h K:=
 ⟨λw S β arr hr hv=>⟨Go.MuLone.run_callFunc_enter hf hname hb arr w,CallsDIn.mono (hplain arr w (hv.1.trans hl)) λe u' w' he=>by
   obtain⟨h1,h2,rfl⟩:=he
   exact⟨h1,h2,h,S,β,hk,hr,F7.refl _ _ _ _⟩⟩⟩
theorem WX (arr:Array Value) (w:World) (hl:arr.size=2):CallsDIn (FF none) 0 Tryz.prog 65 arr .returning w λe u' w'=>(∃v,e=.returned v)/\u'=.returning/\w'=w:=by
 refine callsDIn_of_wpSIn Tryz.func65 rfl (FF.all none _) λc₀ cs hu=> ?_
 match arr,hl with
 |⟨[a,b]⟩,_=>
  apply wpSIn_seq
  apply wpSIn_region
  simp[wpOpsSIn,go_sem,recoverD,hu,Exit.thenS]
  apply wpSIn_seq
  apply wpSIn_region
  simp[wpOpsSIn,go_sem,hu,Exit.thenS]
  refine wpSIn_cond (t:=false) (by simp[Act.eval]) ?_
  simp only[T0,if_false]
  refine wpSIn_of_wpIn rfl (wpIn_skip ?_)
  cases c₀
  simp_all[bodyPostS,results]
theorem rW (a b:V) (h:Hp) {K:Hp->Prop} (hk:K h):LC Tryz.prog 65 [a,b] h K:=FD Tryz.func65 (by rfl) rfl WX _ rfl h hk
theorem ZI (arr:Array Value) (w:World) (hl:arr.size=2):CallsDIn (FF none) 0 Tryz.prog 24 arr .returning w λe u' w'=>(∃v,e=.returned v)/\u'=.returning/\w'=w:=by
 refine callsDIn_of_wpSIn Tryz.func24 rfl (FF.all none _) λc₀ cs hu=> ?_
 match arr,hl with
 |⟨[a,b]⟩,_=>
  apply wpSIn_seq
  apply wpSIn_region
  simp[wpOpsSIn,go_sem,recoverD,hu,Exit.thenS]
  apply wpSIn_seq
  apply wpSIn_region
  simp[wpOpsSIn,go_sem,hu,Exit.thenS]
  refine wpSIn_cond (t:=false) (by simp[Act.eval]) ?_
  simp only[T0,if_false]
  refine wpSIn_of_wpIn rfl (wpIn_skip ?_)
  cases c₀
  simp_all[bodyPostS,results]
theorem NC (a b:V) (h:Hp) {K:Hp->Prop} (hk:K h):LC Tryz.prog 24 [a,b] h K:=FD Tryz.func24 (by rfl) rfl ZI _ rfl h hk
theorem A0s (arr:Array Value) (w:World) (hl:arr.size=1):CallsDIn (FF none) 0 Tryz.prog 101 arr .returning w λe u' w'=>(∃v,e=.returned v)/\u'=.returning/\w'=w:=by
 refine callsDIn_of_wpSIn Tryz.func101 rfl (FF.all none _) λc₀ cs hu=> ?_
 match arr,hl with
 |⟨[a]⟩,_=>
  apply wpSIn_seq
  apply wpSIn_region
  simp[wpOpsSIn,go_sem,recoverD,hu,Exit.thenS]
  refine wpSIn_of_wpIn rfl ?_
  apply wpIn_block
  apply wpIn_seq
  apply wpIn_region
  simp[wpOpsIn,go_sem,Oper.wpIn,FF,Fence.wide,Oper.semAt_none]
  refine wpIn_cond (t:=true) (by simp[Act.eval]) ?_
  simp only[if_true]
  apply wpIn_region
  simp[wpOpsIn,go_sem,Oper.wpIn,Oper.semAt_none]
  cases c₀
  simp_all[bodyPostS,results,Exit.inBlock]
theorem A6k (a:V) (h:Hp) {K:Hp->Prop} (hk:K h):LC Tryz.prog 101 [a] h K:=FD Tryz.func101 (by rfl) rfl A0s _ rfl h hk
theorem A0t (arr:Array Value) (w:World) (hl:arr.size=1):CallsDIn (FF none) 0 Tryz.prog 67 arr .returning w λe u' w'=>(∃v,e=.returned v)/\u'=.returning/\w'=w:=by
 refine callsDIn_of_wpSIn Tryz.func67 rfl (FF.all none _) λc₀ cs hu=> ?_
 match arr,hl with
 |⟨[a]⟩,_=>
  apply wpSIn_seq
  apply wpSIn_region
  simp[wpOpsSIn,go_sem,recoverD,hu,Exit.thenS]
  refine wpSIn_of_wpIn rfl ?_
  apply wpIn_block
  apply wpIn_seq
  apply wpIn_region
  simp[wpOpsIn,go_sem,Oper.wpIn,FF,Fence.wide,Oper.semAt_none]
  refine wpIn_cond (t:=true) (by simp[Act.eval]) ?_
  simp only[if_true]
  apply wpIn_region
  simp[wpOpsIn,go_sem,Oper.wpIn,Oper.semAt_none]
  cases c₀
  simp_all[bodyPostS,results,Exit.inBlock]
theorem A6l (a:V) (h:Hp) {K:Hp->Prop} (hk:K h):LC Tryz.prog 67 [a] h K:=FD Tryz.func67 (by rfl) rfl A0t _ rfl h hk
def Z9 (q:Rat):Prop:=lim (qn q)/\lim q.den
theorem Y9 (q:Rat) (h:Z9 q):C9 Tryz.prog 64 [.d (rD q)] (E5 [I 0]):=by
 have c1:=uE (qn q) h.1
 have c2:=uE q.den h.2
 have c3:=zH (qn q) q.den h.1 h.2
 rw[cop q] at c3
 have hd:=A7i q.den_pos
 have h1:(str 1).toList=(⟨#[1]⟩:ByteArray).toList:=by rw[A1x]
 have hz:(str (qn q)).toList=(⟨#[]⟩:ByteArray).toList↔qn q=0:=by rw[<-fP,LH]
 unfold rD
 by_cases hq:qn q=0
 ·have hn:gS q=false:=by
   unfold gS;unfold qn at hq
   rw[B6];omega
  rw[hn]
  refine pU Tryz.func64 ?_
  repeat' ((conv=>whnf);first|refine Dec.f hd ?_|refine Dec.t h1 ?_|refine sT ?_|refine sP ?_ ?_<;>intro _|refine cA c1 ?_|refine cA c2 ?_|refine cA c3 ?_|fail)
  all_goals(conv=>whnf)
  all_goals first|exact DLe.refl _|(exfalso;omega)
 ·generalize gS q=s
  cases s<;>(
   refine pU Tryz.func64 ?_
   repeat' ((conv=>whnf);first|refine Dec.f hd ?_|refine Dec.t h1 ?_|refine Dec.f (λhh=>hq (hz.1 hh)) ?_|refine sT ?_|refine sP ?_ ?_<;>intro _|refine cA c1 ?_|refine cA c2 ?_|refine cA c3 ?_|fail)
   all_goals(conv=>whnf)
   all_goals first|exact DLe.refl _|(exfalso;omega))
def opsE:List (D×D):=[(.i .u8 43,.k (.func (.func 111) #[] #[])),(.i .u8 45,.k (.func (.func 113) #[] #[])),(.i .u8 42,.k (.func (.func 115) #[] #[])),(.i .u8 47,.k (.func (.func 117) #[] #[]))]
theorem U4:pB Tryz.prog 66 [] tt 5 opsE:=by
 refine WH (E:=P9 Tryz.prog tt Tryz.f66.ntmps) (I6 T5 mixed) Tryz.func66 (by rfl) rfl rfl (B5 rfl) ?_
 repeat' ((conv=>whnf);first|refine sT ?_|refine sP ?_ ?_<;>intro _|fail)
 all_goals(conv=>whnf)
 exact⟨rfl,rfl,rfl⟩
theorem B3s (q r:Rat) (h0:lim (qn q*r.den+qn r*q.den)) (h3:lim (q.den*r.den)):∃s N,nv s N (q.den*r.den)=q+r/\lim N/\C9 Tryz.prog 111 [.d (rD q),.d (rD r)] (E5 [nD s N (q.den*r.den)]):=by
 have hp:=DB (gS q) (gS r) (qn q) q.den (qn r) r.den h0 h3 q.den_pos r.den_pos
 have hv:=A9h (a:=gS q) (b:=gS r) (n1:=qn q) (n2:=qn r) q.den_pos r.den_pos
 rw[kF,kF] at hv
 have key:∀(s:Bool) (N Dn:Nat),C9 Tryz.prog 112 [.d (rD q),.d (rD r)] (E5 [nD s N Dn])->C9 Tryz.prog 111 [.d (rD q),.d (rD r)] (E5 [nD s N Dn]):=λs N Dn hx=>by
  refine pU Tryz.func111 ?_
  repeat' ((conv=>whnf);first|refine sT ?_|refine sP ?_ ?_<;>intro _|refine cA hx ?_|fail)
  all_goals exact fJ
 by_cases hs:gS q=gS r
 ·rw[if_pos hs] at hp hv
  exact⟨_,_,hv.symm,h0,key _ _ _ hp⟩
 ·rw[if_neg hs] at hp hv
  by_cases hl:qn q*r.den<qn r*q.den
  ·rw[if_pos hl] at hp hv
   exact⟨_,_,hv.symm,nL h0 (by omega),key _ _ _ hp⟩
  ·rw[if_neg hl] at hp hv
   exact⟨_,_,hv.symm,nL h0 (by omega),key _ _ _ hp⟩
theorem A8z (q r:Rat) (h0:lim (qn q*r.den+qn r*q.den)) (h3:lim (q.den*r.den)):∃s N,nv s N (q.den*r.den)=q-r/\lim N/\C9 Tryz.prog 113 [.d (rD q),.d (rD r)] (E5 [nD s N (q.den*r.den)]):=by
 have hn:=EL (gS r) (qn r) r.den
 obtain⟨b,hb⟩:∃b,b=(!gS r&&decide (¬qn r=0)):=⟨_,rfl⟩
 rw[<-hb] at hn
 have hp:=DB (gS q) b (qn q) q.den (qn r) r.den h0 h3 q.den_pos r.den_pos
 have hv:=A9h (a:=gS q) (b:=b) (n1:=qn q) (n2:=qn r) q.den_pos r.den_pos
 rw[kF,hb,nv_opp,kF,<-hb] at hv
 have e:q+ -r=q-r:=by grind
 rw[e] at hv
 have key:∀(s:Bool) (N Dn:Nat),C9 Tryz.prog 112 [.d (rD q),.d (nD b (qn r) r.den)] (E5 [nD s N Dn])->C9 Tryz.prog 113 [.d (rD q),.d (rD r)] (E5 [nD s N Dn]):=λs N Dn hx=>by
  refine pU Tryz.func113 ?_
  repeat' ((conv=>whnf);first|refine sT ?_|refine sP ?_ ?_<;>intro _|refine cA hn ?_|refine cA hx ?_|fail)
  all_goals exact fJ
 by_cases hs:gS q=b
 ·rw[if_pos hs] at hp hv
  exact⟨_,_,hv.symm,h0,key _ _ _ hp⟩
 ·rw[if_neg hs] at hp hv
  by_cases hl:qn q*r.den<qn r*q.den
  ·rw[if_pos hl] at hp hv
   exact⟨_,_,hv.symm,nL h0 (by omega),key _ _ _ hp⟩
  ·rw[if_neg hl] at hp hv
   exact⟨_,_,hv.symm,nL h0 (by omega),key _ _ _ hp⟩
theorem A8y (q r:Rat) (hq:Z9 q) (hr:Z9 r) (h0:lim (qn q*qn r)) (h3:lim (q.den*r.den)):∃s N,nv s N (q.den*r.den)=q*r/\lim N/\C9 Tryz.prog 115 [.d (rD q),.d (rD r)] (E5 [nD s N (q.den*r.den)]):=by
 have hp:=zF (gS q) (gS r) (qn q) q.den (qn r) r.den h0 h3 hq.1 hq.2 hr.1 hr.2
 have hv:=ZF (a:=gS q) (b:=gS r) (n1:=qn q) (n2:=qn r) (d1:=q.den) (d2:=r.den)
 rw[kF,kF] at hv
 refine⟨_,_,hv.symm,h0,?_⟩
 change C9 Tryz.prog _ [.d (rD q),.d (rD r)] _ at hp
 refine pU Tryz.func115 ?_
 repeat' ((conv=>whnf);first|refine sT ?_|refine sP ?_ ?_<;>intro _|refine cA hp ?_|fail)
 all_goals exact fJ
theorem op_by (q r:Rat) (hq:Z9 q) (hr:Z9 r) (hz:r≠0) (h0:lim (qn q*r.den)) (h3:lim (q.den*qn r)):∃s N,nv s N (q.den*qn r)=q/r/\lim N/\0<q.den*qn r/\C9 Tryz.prog 117 [.d (rD q),.d (rD r)] (E5 [nD s N (q.den*qn r)]):=by
 have hn:=HT (gS r) (qn r) r.den
 have hp:=zF (gS q) (gS r) (qn q) q.den r.den (qn r) h0 h3 hq.1 hq.2 hr.2 hr.1
 have hv:=ZF (a:=gS q) (b:=gS r) (n1:=qn q) (n2:=r.den) (d1:=q.den) (d2:=qn r)
 have hpos:0<qn r:=by
  rcases H3 (qn r) with h|h
  ·exact absurd (zC.1 h) hz
  ·exact h
 rw[kF,nv_inv hpos r.den_pos,kF,<-OX] at hv
 refine⟨_,_,hv.symm,h0,aV q.den_pos hpos,?_⟩
 change C9 Tryz.prog _ [.d (rD q),_] _ at hp
 change C9 Tryz.prog _ [.d (rD r)] _ at hn
 refine pU Tryz.func117 ?_
 repeat' ((conv=>whnf);first|refine sT ?_|refine sP ?_ ?_<;>intro _|refine cA hn ?_|refine cA hp ?_|fail)
 all_goals exact fJ
theorem B1p (q r:Rat) (hq:Z9 q) (hr:Z9 r) (s:Bool) (N Dn:Nat) (hN:lim N) (hD:lim Dn) (hp:0<Dn) (hop:C9 Tryz.prog 111 [.d (rD q),.d (rD r)] (E5 [nD s N Dn])):
 C9 Tryz.prog 30 [.d (.i .u8 43),.d (rD q),.d (rD r)] (E5 [rD (nv s N Dn),I 0]):=by
 have c1:=Y9 q hq
 have c2:=Y9 r hr
 have hL:=fV s N Dn hN hD hp
 refine bX (Z3 (T:=tt) T5 Tryz.func30 (by rfl) rfl (B5 rfl) ?_) rfl
 (conv=>whnf)
 refine wQ ?_
 repeat' ((conv=>whnf);first|refine sT ?_|refine sP ?_ ?_<;>intro _|fail)
 refine wQ ?_
 repeat' ((conv=>whnf);first|refine sT ?_|refine sP ?_ ?_<;>intro _|refine cA c1 ?_|refine cA c2 ?_|fail)
 refine wQ ?_
 repeat' ((conv=>whnf);first|fail|refine sT ?_|refine sP ?_ ?_<;>intro _|fail)
 refine DWP.deferAt (E:=(P9 Tryz.prog tt Tryz.f30.ntmps)) (I6 T5 mixed) 1 rfl rfl rfl rfl rfl ?_
 repeat' ((conv=>whnf);first|refine sT ?_|refine sP ?_ ?_<;>intro _|fail)
 refine wO ?_
 repeat' ((conv=>whnf);first|refine sT ?_|refine sP ?_ ?_<;>intro _|refine E6.ofMap U4 ?_|refine H6.ofMap U4 ?_|refine Nam.mk (y:=.k (.func (.func 111) #[] #[])) rfl ?_|refine cA hop ?_|refine cA hL ?_|fail)
 all_goals(conv=>whnf)
 refine rW _ _ _ ?_
 repeat' ((conv=>whnf);first|refine sT ?_|refine sP ?_ ?_<;>intro _|fail)
 all_goals(conv=>whnf)
 exact⟨DLe.refl _,DLe.refl _,rfl⟩
theorem B1m (q r:Rat) (hq:Z9 q) (hr:Z9 r) (s:Bool) (N Dn:Nat) (hN:lim N) (hD:lim Dn) (hp:0<Dn) (hop:C9 Tryz.prog 113 [.d (rD q),.d (rD r)] (E5 [nD s N Dn])):
 C9 Tryz.prog 30 [.d (.i .u8 45),.d (rD q),.d (rD r)] (E5 [rD (nv s N Dn),I 0]):=by
 have c1:=Y9 q hq
 have c2:=Y9 r hr
 have hL:=fV s N Dn hN hD hp
 refine bX (Z3 (T:=tt) T5 Tryz.func30 (by rfl) rfl (B5 rfl) ?_) rfl
 (conv=>whnf)
 refine wQ ?_
 repeat' ((conv=>whnf);first|refine sT ?_|refine sP ?_ ?_<;>intro _|fail)
 refine wQ ?_
 repeat' ((conv=>whnf);first|refine sT ?_|refine sP ?_ ?_<;>intro _|refine cA c1 ?_|refine cA c2 ?_|fail)
 refine wQ ?_
 repeat' ((conv=>whnf);first|fail|refine sT ?_|refine sP ?_ ?_<;>intro _|fail)
 refine DWP.deferAt (E:=(P9 Tryz.prog tt Tryz.f30.ntmps)) (I6 T5 mixed) 1 rfl rfl rfl rfl rfl ?_
 repeat' ((conv=>whnf);first|refine sT ?_|refine sP ?_ ?_<;>intro _|fail)
 refine wO ?_
 repeat' ((conv=>whnf);first|refine sT ?_|refine sP ?_ ?_<;>intro _|refine E6.ofMap U4 ?_|refine H6.ofMap U4 ?_|refine Nam.mk (y:=.k (.func (.func 113) #[] #[])) rfl ?_|refine cA hop ?_|refine cA hL ?_|fail)
 all_goals(conv=>whnf)
 refine rW _ _ _ ?_
 repeat' ((conv=>whnf);first|refine sT ?_|refine sP ?_ ?_<;>intro _|fail)
 all_goals(conv=>whnf)
 exact⟨DLe.refl _,DLe.refl _,rfl⟩
theorem B1n (q r:Rat) (hq:Z9 q) (hr:Z9 r) (s:Bool) (N Dn:Nat) (hN:lim N) (hD:lim Dn) (hp:0<Dn) (hop:C9 Tryz.prog 115 [.d (rD q),.d (rD r)] (E5 [nD s N Dn])):
 C9 Tryz.prog 30 [.d (.i .u8 42),.d (rD q),.d (rD r)] (E5 [rD (nv s N Dn),I 0]):=by
 have c1:=Y9 q hq
 have c2:=Y9 r hr
 have hL:=fV s N Dn hN hD hp
 refine bX (Z3 (T:=tt) T5 Tryz.func30 (by rfl) rfl (B5 rfl) ?_) rfl
 (conv=>whnf)
 refine wQ ?_
 repeat' ((conv=>whnf);first|refine sT ?_|refine sP ?_ ?_<;>intro _|fail)
 refine wQ ?_
 repeat' ((conv=>whnf);first|refine sT ?_|refine sP ?_ ?_<;>intro _|refine cA c1 ?_|refine cA c2 ?_|fail)
 refine wQ ?_
 repeat' ((conv=>whnf);first|fail|refine sT ?_|refine sP ?_ ?_<;>intro _|fail)
 refine DWP.deferAt (E:=(P9 Tryz.prog tt Tryz.f30.ntmps)) (I6 T5 mixed) 1 rfl rfl rfl rfl rfl ?_
 repeat' ((conv=>whnf);first|refine sT ?_|refine sP ?_ ?_<;>intro _|fail)
 refine wO ?_
 repeat' ((conv=>whnf);first|refine sT ?_|refine sP ?_ ?_<;>intro _|refine E6.ofMap U4 ?_|refine H6.ofMap U4 ?_|refine Nam.mk (y:=.k (.func (.func 115) #[] #[])) rfl ?_|refine cA hop ?_|refine cA hL ?_|fail)
 all_goals(conv=>whnf)
 refine rW _ _ _ ?_
 repeat' ((conv=>whnf);first|refine sT ?_|refine sP ?_ ?_<;>intro _|fail)
 all_goals(conv=>whnf)
 exact⟨DLe.refl _,DLe.refl _,rfl⟩
theorem B1o (q r:Rat) (hq:Z9 q) (hr:Z9 r) (hz:r≠0) (s:Bool) (N Dn:Nat) (hN:lim N) (hD:lim Dn) (hp:0<Dn) (hop:C9 Tryz.prog 117 [.d (rD q),.d (rD r)] (E5 [nD s N Dn])):
 C9 Tryz.prog 30 [.d (.i .u8 47),.d (rD q),.d (rD r)] (E5 [rD (nv s N Dn),I 0]):=by
 have c1:=Y9 q hq
 have c2:=Y9 r hr
 have hL:=fV s N Dn hN hD hp
 have hz':¬(str (qn r)).toList=(⟨#[]⟩:ByteArray).toList:=by rw[<-fP,LH,zC];exact hz
 refine bX (Z3 (T:=tt) T5 Tryz.func30 (by rfl) rfl (B5 rfl) ?_) rfl
 (conv=>whnf)
 refine wQ ?_
 repeat' ((conv=>whnf);first|refine sT ?_|refine sP ?_ ?_<;>intro _|fail)
 refine wQ ?_
 repeat' ((conv=>whnf);first|refine sT ?_|refine sP ?_ ?_<;>intro _|refine cA c1 ?_|refine cA c2 ?_|fail)
 refine wQ ?_
 repeat' ((conv=>whnf);first|refine Dec.f hz' ?_|fail|refine sT ?_|refine sP ?_ ?_<;>intro _|fail)
 refine DWP.deferAt (E:=(P9 Tryz.prog tt Tryz.f30.ntmps)) (I6 T5 mixed) 1 rfl rfl rfl rfl rfl ?_
 repeat' ((conv=>whnf);first|refine sT ?_|refine sP ?_ ?_<;>intro _|fail)
 refine wO ?_
 repeat' ((conv=>whnf);first|refine sT ?_|refine sP ?_ ?_<;>intro _|refine E6.ofMap U4 ?_|refine H6.ofMap U4 ?_|refine Nam.mk (y:=.k (.func (.func 117) #[] #[])) rfl ?_|refine cA hop ?_|refine cA hL ?_|fail)
 all_goals(conv=>whnf)
 refine rW _ _ _ ?_
 repeat' ((conv=>whnf);first|refine sT ?_|refine sP ?_ ?_<;>intro _|fail)
 all_goals(conv=>whnf)
 exact⟨DLe.refl _,DLe.refl _,rfl⟩
theorem VL {q r:Rat} (h0:lim (qn q*r.den+qn r*q.den)) (h3:lim (q.den*r.den)):Z9 q/\Z9 r:=
 ⟨⟨IQ (nL h0 (Nat.le_add_right _ _)) r.den_pos,IQ h3 r.den_pos⟩,⟨IQ (nL h0 (Nat.le_add_left _ _)) q.den_pos,A9s h3 q.den_pos⟩⟩
theorem HF (q r:Rat) (h0:lim (qn q*r.den+qn r*q.den)) (h3:lim (q.den*r.den)):C9 Tryz.prog 15 [.d (rD q),.d (rD r)] (E5 [rD (q+r),I 0]):=by
 obtain⟨l1,l2⟩:=VL h0 h3
 obtain⟨s,N,hv,hN,hop⟩:=B3s q r h0 h3
 have hc:=B1p q r l1 l2 s N _ hN h3 (aV q.den_pos r.den_pos) hop
 rw[hv] at hc
 refine pU Tryz.func15 ?_
 repeat' ((conv=>whnf);first|refine sT ?_|refine sP ?_ ?_<;>intro _|refine cA hc ?_|fail)
 all_goals(conv=>whnf)
 exact⟨DLe.refl _,DLe.refl _,rfl⟩
theorem YS (q r:Rat) (h0:lim (qn q*r.den+qn r*q.den)) (h3:lim (q.den*r.den)):C9 Tryz.prog 212 [.d (rD q),.d (rD r)] (E5 [rD (q-r),I 0]):=by
 obtain⟨l1,l2⟩:=VL h0 h3
 obtain⟨s,N,hv,hN,hop⟩:=A8z q r h0 h3
 have hc:=B1m q r l1 l2 s N _ hN h3 (aV q.den_pos r.den_pos) hop
 rw[hv] at hc
 refine pU Tryz.func212 ?_
 repeat' ((conv=>whnf);first|refine sT ?_|refine sP ?_ ?_<;>intro _|refine cA hc ?_|fail)
 all_goals(conv=>whnf)
 exact⟨DLe.refl _,DLe.refl _,rfl⟩
theorem HE (q r:Rat) (l1:Z9 q) (l2:Z9 r) (h0:lim (qn q*qn r)) (h3:lim (q.den*r.den)):C9 Tryz.prog 183 [.d (rD q),.d (rD r)] (E5 [rD (q*r),I 0]):=by
 obtain⟨s,N,hv,hN,hop⟩:=A8y q r l1 l2 h0 h3
 have hc:=B1n q r l1 l2 s N _ hN h3 (aV q.den_pos r.den_pos) hop
 rw[hv] at hc
 refine pU Tryz.func183 ?_
 repeat' ((conv=>whnf);first|refine sT ?_|refine sP ?_ ?_<;>intro _|refine cA hc ?_|fail)
 all_goals(conv=>whnf)
 exact⟨DLe.refl _,DLe.refl _,rfl⟩
theorem YT (q r:Rat) (l1:Z9 q) (l2:Z9 r) (hz:r≠0) (h0:lim (qn q*r.den)) (h3:lim (q.den*qn r)):C9 Tryz.prog 198 [.d (rD q),.d (rD r)] (E5 [rD (q/r),I 0]):=by
 obtain⟨s,N,hv,hN,hp,hop⟩:=op_by q r l1 l2 hz h0 h3
 have hc:=B1o q r l1 l2 hz s N _ hN h3 hp hop
 rw[hv] at hc
 refine pU Tryz.func198 ?_
 repeat' ((conv=>whnf);first|refine sT ?_|refine sP ?_ ?_<;>intro _|refine cA hc ?_|fail)
 all_goals(conv=>whnf)
 exact⟨DLe.refl _,DLe.refl _,rfl⟩
theorem pR {n:Nat} (h:n<2^63):lim n:=gM h (pwl (i:=63) (j:=2048) (by decide))
theorem xB (n:Int) (h: -4611686018427387904<n/\n<4611686018427387904):C9 Tryz.prog 26 [.d (I n)] (E5 [sD n.natAbs]):=by
 by_cases h0:0<=n
 ·obtain⟨m,rfl⟩:∃m:Nat,n=m:=⟨n.toNat,by omega⟩
  have c1:=DC m (by omega)
  have u1:=U5 (str m)
  rw[show((m:Int)).natAbs=m from rfl]
  refine pU Tryz.func26 ?_
  repeat' ((conv=>whnf);first|refine sT ?_|refine sP ?_ ?_<;>intro _|refine cA c1 ?_|refine cA u1 ?_|fail)
  all_goals(conv=>whnf)
  all_goals first|exact DLe.refl _|(exfalso;omega)
 ·obtain⟨m,rfl⟩:∃m:Nat,n= -((m:Int)+1):=⟨(-(n+1)).toNat,by omega⟩
  have c1:=DC m (by omega)
  have u1:=U5 (str m)
  have c2:=zJ m 1 (pR (by omega)) (pR (by omega)) (pR (by omega))
  have u2:=U5 (str (m+1))
  have e1:IntKind.i64.wrap (0-(-((m:Int)+1)+1))=(m:Int):=by rw[EY (by omega)];omega
  have e2:str 1=⟨#[1]⟩:=A1x
  rw[show(-((m:Int)+1)).natAbs=m+1 by omega]
  change C9 _ _ [.d (.s (str m)),.d (.s (str 1))] _ at c2
  rw[e2] at c2
  change C9 _ _ [.d (I m)] _ at c1
  rw[<-e1] at c1
  refine pU Tryz.func26 ?_
  repeat' ((conv=>whnf);first|refine sT ?_|refine sP ?_ ?_<;>intro _|refine cA c1 ?_|refine cA u1 ?_|refine cA c2 ?_|refine cA u2 ?_|fail)
  all_goals(conv=>whnf)
  all_goals first|exact DLe.refl _|(exfalso;omega)
theorem nv_int (n:Int):nv (decide (n<0)) n.natAbs 1=(n:Rat):=by
 unfold nv sg
 by_cases h:n<0
 ·rw[C2 h,if_pos rfl,show -((n.natAbs:Nat):Int)=n by omega,qS];simp;grind
 ·rw[B6 h];simp only[T0,if_false];rw[show((n.natAbs:Nat):Int)=n by omega,qS];simp;grind
theorem nC (n:Int) (h: -4611686018427387904<n/\n<4611686018427387904):C9 Tryz.prog 13 [.d (I n),.d (I 1)] (E5 [rD (n:Rat),I 0]):=by
 have c1:=xB n h
 have c2:=xB 1 (by decide)
 have hL:=fV (decide (n<0)) n.natAbs 1 (pR (by omega)) (pR (by omega)) (by decide)
 rw[nv_int] at hL
 by_cases h0:n<0
 ·rw[C2 h0] at hL
  refine bX (Z3 (T:=tt) T5 Tryz.func13 (by rfl) rfl (B5 rfl) ?_) rfl
  (conv=>whnf)
  refine wQ ?_
  repeat' ((conv=>whnf);first|refine sT ?_|refine sP ?_ ?_<;>intro _|fail)
  refine wQ ?_
  repeat' ((conv=>whnf);first|refine sT ?_|refine sP ?_ ?_<;>intro _|fail)
  refine DWP.deferAt (E:=(P9 Tryz.prog tt Tryz.f13.ntmps)) (I6 T5 mixed) 1 rfl rfl rfl rfl rfl ?_
  repeat' ((conv=>whnf);first|refine sT ?_|refine sP ?_ ?_<;>intro _|fail)
  refine wO ?_
  repeat' ((conv=>whnf);first|refine sT ?_|refine sP ?_ ?_<;>intro _|refine cA c1 ?_|refine cA c2 ?_|refine cA hL ?_|fail)
  all_goals((conv=>whnf);try exact xO)
  refine NC _ _ _ ?_
  repeat' ((conv=>whnf);first|refine sT ?_|refine sP ?_ ?_<;>intro _|fail)
  all_goals(conv=>whnf)
  exact⟨DLe.refl _,DLe.refl _,rfl⟩
 ·rw[B6 h0] at hL
  refine bX (Z3 (T:=tt) T5 Tryz.func13 (by rfl) rfl (B5 rfl) ?_) rfl
  (conv=>whnf)
  refine wQ ?_
  repeat' ((conv=>whnf);first|refine sT ?_|refine sP ?_ ?_<;>intro _|fail)
  refine wQ ?_
  repeat' ((conv=>whnf);first|refine sT ?_|refine sP ?_ ?_<;>intro _|fail)
  refine DWP.deferAt (E:=(P9 Tryz.prog tt Tryz.f13.ntmps)) (I6 T5 mixed) 1 rfl rfl rfl rfl rfl ?_
  repeat' ((conv=>whnf);first|refine sT ?_|refine sP ?_ ?_<;>intro _|fail)
  refine wO ?_
  repeat' ((conv=>whnf);first|refine sT ?_|refine sP ?_ ?_<;>intro _|refine cA c1 ?_|refine cA c2 ?_|refine cA hL ?_|fail)
  all_goals((conv=>whnf);try exact xO)
  refine NC _ _ _ ?_
  repeat' ((conv=>whnf);first|refine sT ?_|refine sP ?_ ?_<;>intro _|fail)
  all_goals(conv=>whnf)
  exact⟨DLe.refl _,DLe.refl _,rfl⟩
theorem B0f (n:Nat) (hn:n<2^30):T8 Tryz.prog 210 [.d (.sl 0 true []),.d (I n)] 3 []:=by
 refine rO Tryz.func210 ?_
 repeat' ((conv=>whnf);first|refine Nam.mk (y:=0) rfl ?_|refine Chk.mk rfl ?_|refine Chk.mk (by unfold room;omega) ?_|refine sT ?_|refine sP ?_ ?_<;>intro _|fail)
 all_goals(conv=>whnf)
 all_goals first|exact Nam.mk (y:=[]) (by simp) rfl|exact rfl
theorem A0l (l0 l1 l2:List D) (f0 f1 f2:Bool) (hl:l0.length+l1.length+l2.length<2^29):T8 Tryz.prog 190 [.d (.sl 1 true [.sl 3 f0 l0,.sl 3 f1 l1,.sl 3 f2 l2])] 3 (l0++l1++l2):=by
 refine rO Tryz.func190 ?_
 iterate 9
  try refine L3.rounds 4 ?_
  try refine nS ?_
  repeat' ((conv=>whnf);first|refine Nam.mk (y:=3) rfl ?_|refine Nam.mk (y:=l0.length) rfl ?_|refine Nam.mk (y:=l1.length) rfl ?_|refine Nam.mk (y:=l2.length) rfl ?_|refine Chk.mk ⟨rfl,by simp[X1],by simp[room];omega⟩ ?_|refine sT ?_|refine sP ?_ ?_<;>intro _|refine E6.ofRow (T8.le (args':=[.d (.sl 0 true []),.d (I ((l0.length+l1.length+l2.length:Nat):Int))]) ⟨VLe.refl _,by rw[show(0+(l0.length:Int)+(l1.length:Int)+(l2.length:Int))=((l0.length+l1.length+l2.length:Nat):Int) by omega];exact VLe.refl _,rfl⟩ (B0f (l0.length+l1.length+l2.length) (by omega))) ?_|fail)
  all_goals((conv=>whnf);try exact xO)
 exact Nam.mk (y:=l0++l1++l2) (by simp only[X1,G5,O4,V7,C1];exact C7 (by simp only[B4];omega)) rfl
theorem A4x (n:Nat) (hn:n<2^30):T8 Tryz.prog 218 [.d (.sl 0 true []),.d (I n)] 1 []:=by
 refine rO Tryz.func218 ?_
 repeat' ((conv=>whnf);first|refine Nam.mk (y:=0) rfl ?_|refine Chk.mk rfl ?_|refine Chk.mk (by unfold room;omega) ?_|refine sT ?_|refine sP ?_ ?_<;>intro _|fail)
 all_goals(conv=>whnf)
 all_goals first|exact Nam.mk (y:=[]) (by simp) rfl|exact rfl
theorem DO (l0 l1:List D) (f0 f1:Bool) (hl:l0.length+l1.length<2^29):T8 Tryz.prog 209 [.d (.sl 1 true [.sl 1 f0 l0,.sl 1 f1 l1])] 1 (l0++l1):=by
 refine rO Tryz.func209 ?_
 iterate 7
  try refine L3.rounds 3 ?_
  try refine nS ?_
  repeat' ((conv=>whnf);first|refine Nam.mk (y:=2) rfl ?_|refine Nam.mk (y:=l0.length) rfl ?_|refine Nam.mk (y:=l1.length) rfl ?_|refine Chk.mk ⟨rfl,by simp[X1],by simp[room];omega⟩ ?_|refine sT ?_|refine sP ?_ ?_<;>intro _|refine E6.ofRow (T8.le (args':=[.d (.sl 0 true []),.d (I ((l0.length+l1.length:Nat):Int))]) ⟨VLe.refl _,by rw[show(0+(l0.length:Int)+(l1.length:Int))=((l0.length+l1.length:Nat):Int) by omega];exact VLe.refl _,rfl⟩ (A4x (l0.length+l1.length) (by omega))) ?_|fail)
  all_goals((conv=>whnf);try exact xO)
 exact Nam.mk (y:=l0++l1) (by simp only[X1,G5,O4,V7,C1];exact C7 (by simp only[B4];omega)) rfl
def bF (xs:List Rat):D:=SL 3 (xs.map rD)
def K1 (rows:List (List Rat)):List D:=rows.map bF
theorem GL:T8 Tryz.prog 184 [.d (.sl 0 true [])] 1 []:=by
 refine rO Tryz.func184 ?_
 repeat' ((conv=>whnf);first|refine sT ?_|refine sP ?_ ?_<;>intro _|refine MA.both (λh=> ?_) ?_|fail)
 all_goals(conv=>whnf)
 all_goals exact Nam.mk (y:=[]) rfl rfl
theorem sN (n:Int) (h: -4611686018427387904<n/\n<4611686018427387904):C9 Tryz.prog 189 [.d (I n)] (E5 [rD (n:Rat)]):=by
 have hN:=nC n h
 refine pU Tryz.func189 ?_
 repeat' ((conv=>whnf);first|refine sT ?_|refine sP ?_ ?_<;>intro _|refine cA hN ?_|fail)
 all_goals(conv=>whnf)
 exact DLe.refl _
structure Rows (m n:Nat) (rows:List (List Rat)):Prop where
 len:rows.length=m
 wid:∀r∈rows,r.length=n
theorem oK (m n:Nat) (rows:List (List Rat)) (h:Rows m n rows) (hm:0<m) (f:Bool):C9 Tryz.prog 188 [.d (.sl 1 f (K1 rows))] (E5 [I n]):=by
 obtain⟨r,hr⟩:∃r,rows[0]? =some r:=⟨_,A3 (by have:=h.len;omega)⟩
 have hw:=h.wid r (A7 hr)
 have hl:=h.len
 have g1:(K1 rows)[Int.toNat 0]? =some (bF r):=by show(rows.map bF)[0]? =_;rw[A8,hr];rfl
 have m1:(K1 rows).length=m:=by unfold K1;rw[A6,hl]
 have m2:(r.map rD).length=n:=by rw[A6,hw]
 refine pU Tryz.func188 ?_
 repeat' ((conv=>whnf);first|refine Nam.mk m1 ?_|refine Nam.mk m2 ?_|refine sT ?_|refine sP ?_ ?_<;>intro _|refine A9 g1 ?_|fail)
 all_goals exact fI
theorem fW {rows:List (List Rat)} {i:Nat} {r:List Rat} (h:rows[i]? =some r):(K1 rows)[((i:Nat):Int).toNat]? =some (bF r):=by
 rw[B0];unfold K1;rw[A8,h];rfl
theorem LQ (m n:Nat) (rows:List (List Rat)) (h:Rows m n rows) (hm:0<m) (hm2:m<100) (f:Bool):C9 Tryz.prog 186 [.d (.sl 1 f (K1 rows))] (E5 [I 0]):=by
 have hU:=oK m n rows h hm f
 have m1:(K1 rows).length=m:=by unfold K1;rw[A6,h.len]
 refine pU Tryz.func186 ?_
 repeat' ((conv=>whnf);first|refine Nam.mk m1 ?_|refine sT ?_|refine sP ?_ ?_<;>intro _|fail)
 all_goals(conv=>whnf)
 refine lO (X:=Nat) (λi=>[(7,.d (I i))]) (λ_=>[]) (λi=>i<=m) (λi=>m-i) 0 sam rfl (B9 _) ?_
 intro i hi
 by_cases hlt:i<m
 ·obtain⟨r,hr⟩:∃r,rows[i]? =some r:=⟨_,A3 (by have:=h.len;omega)⟩
  have hw:=h.wid r (A7 hr)
  have m2:(r.map rD).length=n:=by rw[A6,hw]
  have g1:=fW hr
  repeat' ((conv=>whnf);first|refine Nam.mk m2 ?_|refine sT ?_|refine sP ?_ ?_<;>intro _|refine A9 g1 ?_|refine cA hU ?_|fail)
  all_goals(conv=>whnf)
  all_goals first|(exfalso;omega)|exact⟨i+1,wE,hlt,by omega⟩
 ·repeat' ((conv=>whnf);first|refine sT ?_|refine sP ?_ ?_<;>intro _|fail)
  all_goals exact fI
theorem IF (l0 l1:List (List Rat)) (h0:l0.length<=32) (h1:l1.length<=32) (hw:∀r∈l0++l1,r.length<=32) (f0 f1:Bool):C9 Tryz.prog 185 [.d (.sl 1 f0 (K1 l0)),.d (.sl 1 f1 (K1 l1))] (E5 [I 0]):=by
 have m0:(K1 l0).length=l0.length:=by unfold K1;rw[A6]
 have m1:(K1 l1).length=l1.length:=by unfold K1;rw[A6]
 have hC:=DO (K1 l0) (K1 l1) f0 f1 (by rw[m0,m1];omega)
 have ec:K1 l0++K1 l1=K1 (l0++l1):=by unfold K1;rw[D2]
 rw[ec] at hC
 have mc:(K1 (l0++l1)).length=(l0++l1).length:=by unfold K1;rw[A6]
 have hcl:(l0++l1).length<=64:=by rw[B4];omega
 obtain⟨L,hL⟩:∃L,L=l0++l1:=⟨_,rfl⟩
 rw[<-hL] at hC mc hcl hw
 refine pU Tryz.func185 ?_
 repeat' ((conv=>whnf);first|refine Nam.mk m0 ?_|refine Nam.mk mc ?_|refine sT ?_|refine sP ?_ ?_<;>intro _|refine E6.ofRow hC ?_|fail)
 all_goals((conv=>whnf);try exact xO)
 rw[mc]
 refine lO (X:=Nat) (λi=>[(15,.d (I i))]) (λ_=>[]) (λi=>i<=L.length) (λi=>L.length-i) 0 sam rfl (B9 _) ?_
 intro i hi
 by_cases hlt:i<L.length
 ·obtain⟨r,hr⟩:∃r,L[i]? =some r:=⟨_,A3 hlt⟩
  have hwr:=hw r (A7 hr)
  have m2:(r.map rD).length=r.length:=A6 _
  have g1:=fW hr
  have g2:(K1 L)[0+((i:Nat):Int).toNat]? =some (bF r):=by rw[C1];exact g1
  repeat' ((conv=>whnf);first|refine Nam.mk m2 ?_|refine sT ?_|refine sP ?_ ?_<;>intro _|refine A9 g2 ?_|refine A9 g1 ?_|fail)
  all_goals(conv=>whnf)
  all_goals first|(exfalso;omega)|exact⟨i+1,wE,hlt,by omega⟩
 ·repeat' ((conv=>whnf);first|refine sT ?_|refine sP ?_ ?_<;>intro _|fail)
  all_goals exact fI
theorem IE (l0 l1:List (List Rat)) (h0:l0.length<=32) (h1:l1.length<=32) (hw:∀r∈l0++l1,r.length<=32) (hq:∀r∈l0++l1,∀q∈r,Z9 q) (f0 f1:Bool):C9 Tryz.prog 187 [.d (.sl 1 f0 (K1 l0)),.d (.sl 1 f1 (K1 l1))] (E5 [I 0]):=by
 have m0:(K1 l0).length=l0.length:=by unfold K1;rw[A6]
 have m1:(K1 l1).length=l1.length:=by unfold K1;rw[A6]
 have hC:=DO (K1 l0) (K1 l1) f0 f1 (by rw[m0,m1];omega)
 have ec:K1 l0++K1 l1=K1 (l0++l1):=by unfold K1;rw[D2]
 rw[ec] at hC
 have mc:(K1 (l0++l1)).length=(l0++l1).length:=by unfold K1;rw[A6]
 have hcl:(l0++l1).length<=64:=by rw[B4];omega
 obtain⟨L,hL⟩:∃L,L=l0++l1:=⟨_,rfl⟩
 rw[<-hL] at hC mc hcl hw hq
 refine pU Tryz.func187 ?_
 repeat' ((conv=>whnf);first|refine Nam.mk mc ?_|refine sT ?_|refine sP ?_ ?_<;>intro _|refine E6.ofRow hC ?_|fail)
 all_goals((conv=>whnf);try exact xO)
 rw[mc]
 refine lO (X:=Nat) (λi=>[(14,.d (I i))]) (λ_=>[]) (λi=>i<=L.length) (λi=>L.length-i) 0 sam rfl (B9 _) ?_
 intro i hi
 by_cases hlt:i<L.length
 ·obtain⟨r,hr⟩:∃r,L[i]? =some r:=⟨_,A3 hlt⟩
  have hwr:=hw r (A7 hr)
  have hqr:=hq r (A7 hr)
  have m2:(r.map rD).length=r.length:=A6 _
  have g1:=fW hr
  have g2:(K1 L)[0+((i:Nat):Int).toNat]? =some (bF r):=by rw[C1];exact g1
  repeat' ((conv=>whnf);first|refine Nam.mk m2 ?_|refine sT ?_|refine sP ?_ ?_<;>intro _|refine A9 g2 ?_|refine A9 g1 ?_|fail)
  all_goals((conv=>whnf);try exact xO)
  refine lO (X:=Nat) (λj=>[(20,.d (I j))]) (λ_=>[]) (λj=>j<=r.length) (λj=>r.length-j) 0 sam rfl (B9 _) ?_
  intro j hj
  by_cases hjl:j<r.length
  ·obtain⟨q,hqj⟩:∃q,r[j]? =some q:=⟨_,A3 hjl⟩
   have hK:=Y9 q (hqr q (A7 hqj))
   have g3:(r.map rD)[((j:Nat):Int).toNat]? =some (rD q):=by rw[B0,A8,hqj];rfl
   repeat' ((conv=>whnf);first|refine sT ?_|refine sP ?_ ?_<;>intro _|refine A9 g3 ?_|refine cA hK ?_|fail)
   all_goals(conv=>whnf)
   all_goals first|(exfalso;omega)|exact⟨j+1,wE,hjl,by omega⟩
  ·repeat' ((conv=>whnf);first|refine sT ?_|refine sP ?_ ?_<;>intro _|fail)
   all_goals(conv=>whnf)
   all_goals first|(exfalso;omega)|exact⟨i+1,wE,hlt,by omega⟩
 ·repeat' ((conv=>whnf);first|refine sT ?_|refine sP ?_ ?_<;>intro _|fail)
  all_goals exact fI
theorem IG (m n:Nat) (rows:List (List Rat)) (b:List Rat) (h:Rows m n rows) (hm:0<m) (hm2:m<=32) (hn:n<=32) (hb:b.length=m) (hq:∀r∈rows,∀q∈r,Z9 q) (hqb:∀q∈b,Z9 q) (f:Bool):
 C9 Tryz.prog 152 [.d (.sl 1 f (K1 rows)),.d (bF b),.d (.sl 0 true [])] (E5 [I 0]):=by
 have hl:=h.len
 have hw:∀r∈rows++[b],r.length<=32:=λr hr=>by
  rcases K0.1 hr with hr|hr
  ·rw[h.wid r hr];exact hn
  ·rw[H9.1 hr];omega
 have hv:∀r∈rows++[b],∀q∈r,Z9 q:=λr hr=>by
  rcases K0.1 hr with hr|hr
  ·exact hq r hr
  ·rw[H9.1 hr];exact hqb
 have c1:=IF rows [b] (by omega) (by show 1<=32;decide) hw f
 have c2:=LQ m n rows h hm (by omega) f
 have c3:=IE rows [b] (by omega) (by show 1<=32;decide) hw hv f
 have m0:(K1 rows).length=m:=by unfold K1;rw[A6,hl]
 have m1:(b.map rD).length=m:=by rw[A6,hb]
 refine pU Tryz.func152 ?_
 repeat' ((conv=>whnf);first|refine sT ?_|refine sP ?_ ?_<;>intro _|refine E6.ofRow GL ?_|fail)
 all_goals(conv=>whnf)
 refine E6.lift ?_
 repeat' ((conv=>whnf);first|refine Nam.mk m0 ?_|refine Nam.mk m1 ?_|refine sT ?_|refine sP ?_ ?_<;>intro _|refine Nam.mk (y:=K1 [b]) rfl ?_|refine cA (c1 _) ?_|refine cA c2 ?_|refine cA (c3 _) ?_|refine E6.lift ?_|fail)
 all_goals exact fI
def sB (b ver m:Nat) (R:List D):Blk:=.var (.d (I 0):: .sref b ver 0 m false::R.map .d)
theorem okV_ds (q:Nat) (R:List D):(R.map V.d).all (okV q)=true:=by
 rw[List.all_map];exact C5.2 λ_ _=>rfl
theorem B3k (ns:List Nat) (R:List D):(R.map V.d).map (bG ns)=R.map V.d:=by
 rw[eG];rfl
theorem cS {q b ver m:Nat} {R:List D} (h:b<q):okB q (sB b ver m R)=true:=by
 show(okV q (.d (I 0))&&(okV q (.sref b ver 0 m false)&&(R.map V.d).all (okV q)))=true
 rw[okV_ds]
 show(true&&(Nat.blt b q&&true))=true
 have:Nat.blt b q=true:=Nat.ble_eq_true_of_le h
 rw[this];rfl
theorem rF (ns:List Nat) (b ver m:Nat) (R:List D):P4 ns (sB b ver m R)=sB (ns.getD b 0) ver m R:=by
 unfold sB
 simp only[P4,E8,B3k];rfl
theorem BG {a b:Nat} (h:a≠b):[a,b].Nodup:=by simp[h]
theorem A6d (x y:Rat) (l1:Z9 x) (l2:Z9 y) (hz:y≠0) (h0:lim (qn x*y.den)) (h3:lim (x.den*qn y)) (ver m:Nat) (ro:Bool) (R rows:List D):
 M4 Tryz.prog 158 [.ptr 0 0 0 0,.d (rD x),.d (rD y)] [sB 1 ver m R,.row ver 1 ro rows] λv h'=>okV [sB 1 ver m R,.row ver 1 ro rows].length v=true/\h'.length=[sB 1 ver m R,.row ver 1 ro rows].length/\h'.all (okB [sB 1 ver m R,.row ver 1 ro rows].length)=true/\(v=E5 [rD (x/y)]/\h'=[sB 1 ver m R,.row ver 1 ro rows]):=by
 have hC:=YT x y l1 l2 hz h0 h3
 refine lI Tryz.func158 ?_ ?_
 ·show(okB 2 (sB 1 ver m R)&&(true&&true))=true
  rw[cS (by decide)];rfl
 unfold sB
 repeat' ((conv=>whnf);first|refine sT ?_|refine sP ?_ ?_<;>intro _|refine cA hC ?_|refine bO Tryz.func197 ?_|fail)
 all_goals exact fI
theorem A6c (a b:Nat) (hab:a≠b) (x y:Rat) (l1:Z9 x) (l2:Z9 y) (hz:y≠0) (h0:lim (qn x*y.den)) (h3:lim (x.den*qn y)) (ver m:Nat) (ro:Bool) (R rows:List D):
 mC Tryz.prog 158 [.ptr a 0 0 0,.d (rD x),.d (rD y)] [a,b] [sB b ver m R,.row ver 1 ro rows] (.d (rD (x/y))):=by
 have h:=eW (by show(okB 2 (sB 1 ver m R)&&(true&&true))=true;rw[cS (by decide)];rfl) (by rfl) (A6d x y l1 l2 hz h0 h3 ver m ro R rows) [a,b] (BG hab) rfl
 simp only[E8,L4,rF] at h
 exact h
theorem A6b (x y:Rat) (l1:Z9 x) (l2:Z9 y) (h0:lim (qn x*qn y)) (h3:lim (x.den*y.den)) (ver m:Nat) (ro:Bool) (R rows:List D):
 M4 Tryz.prog 196 [.ptr 0 0 0 0,.d (rD x),.d (rD y)] [sB 1 ver m R,.row ver 1 ro rows] λv h'=>okV [sB 1 ver m R,.row ver 1 ro rows].length v=true/\h'.length=[sB 1 ver m R,.row ver 1 ro rows].length/\h'.all (okB [sB 1 ver m R,.row ver 1 ro rows].length)=true/\(v=E5 [rD (x*y)]/\h'=[sB 1 ver m R,.row ver 1 ro rows]):=by
 have hC:=HE x y l1 l2 h0 h3
 refine lI Tryz.func196 ?_ ?_
 ·show(okB 2 (sB 1 ver m R)&&(true&&true))=true
  rw[cS (by decide)];rfl
 unfold sB
 repeat' ((conv=>whnf);first|refine sT ?_|refine sP ?_ ?_<;>intro _|refine cA hC ?_|refine bO Tryz.func197 ?_|fail)
 all_goals exact fI
theorem A6a (a b:Nat) (hab:a≠b) (x y:Rat) (l1:Z9 x) (l2:Z9 y) (h0:lim (qn x*qn y)) (h3:lim (x.den*y.den)) (ver m:Nat) (ro:Bool) (R rows:List D):
 mC Tryz.prog 196 [.ptr a 0 0 0,.d (rD x),.d (rD y)] [a,b] [sB b ver m R,.row ver 1 ro rows] (.d (rD (x*y))):=by
 have h:=eW (by show(okB 2 (sB 1 ver m R)&&(true&&true))=true;rw[cS (by decide)];rfl) (by rfl) (A6b x y l1 l2 h0 h3 ver m ro R rows) [a,b] (BG hab) rfl
 simp only[E8,L4,rF] at h
 exact h
theorem A5z (x y:Rat) (h0:lim (qn x*y.den+qn y*x.den)) (h3:lim (x.den*y.den)) (ver m:Nat) (ro:Bool) (R rows:List D):
 M4 Tryz.prog 195 [.ptr 0 0 0 0,.d (rD x),.d (rD y)] [sB 1 ver m R,.row ver 1 ro rows] λv h'=>okV [sB 1 ver m R,.row ver 1 ro rows].length v=true/\h'.length=[sB 1 ver m R,.row ver 1 ro rows].length/\h'.all (okB [sB 1 ver m R,.row ver 1 ro rows].length)=true/\(v=E5 [rD (x-y)]/\h'=[sB 1 ver m R,.row ver 1 ro rows]):=by
 have hC:=YS x y h0 h3
 refine lI Tryz.func195 ?_ ?_
 ·show(okB 2 (sB 1 ver m R)&&(true&&true))=true
  rw[cS (by decide)];rfl
 unfold sB
 repeat' ((conv=>whnf);first|refine sT ?_|refine sP ?_ ?_<;>intro _|refine cA hC ?_|refine bO Tryz.func197 ?_|fail)
 all_goals exact fI
theorem A5y (a b:Nat) (hab:a≠b) (x y:Rat) (h0:lim (qn x*y.den+qn y*x.den)) (h3:lim (x.den*y.den)) (ver m:Nat) (ro:Bool) (R rows:List D):
 mC Tryz.prog 195 [.ptr a 0 0 0,.d (rD x),.d (rD y)] [a,b] [sB b ver m R,.row ver 1 ro rows] (.d (rD (x-y))):=by
 have h:=eW (by show(okB 2 (sB 1 ver m R)&&(true&&true))=true;rw[cS (by decide)];rfl) (by rfl) (A5z x y h0 h3 ver m ro R rows) [a,b] (BG hab) rfl
 simp only[E8,L4,rF] at h
 exact h
end Go.PM
namespace Go.PM
def L8:Nat->(Nat->Rat)->Rat
 |0,_=>0
 |n+1,f=>L8 n f+f n
theorem M9 {n:Nat} {f g:Nat->Rat} (h:∀i,i<n->f i=g i):L8 n f=L8 n g:=by
 induction n with
 |zero=>rfl
 |succ n ih=>rw[L8,L8,ih (λi hi=>h i (by omega)),h n (by omega)]
theorem iB {n:Nat} {f:Nat->Rat} (h:∀i,i<n->f i=0):L8 n f=0:=by
 induction n with
 |zero=>rfl
 |succ n ih=>rw[L8,ih (λi hi=>h i (by omega)),h n (by omega)];grind
theorem yS (n:Nat) (f g:Nat->Rat):L8 n (λi=>f i+g i)=L8 n f+L8 n g:=by
 induction n with
 |zero=>rw[L8,L8,L8];grind
 |succ n ih=>rw[L8,L8,L8,ih];grind
theorem GF (n:Nat) (f g:Nat->Rat):L8 n (λi=>f i-g i)=L8 n f-L8 n g:=by
 induction n with
 |zero=>rw[L8,L8,L8];grind
 |succ n ih=>rw[L8,L8,L8,ih];grind
theorem kQ (n:Nat) (a:Rat) (f:Nat->Rat):L8 n (λi=>a*f i)=a*L8 n f:=by
 induction n with
 |zero=>rw[L8,L8];grind
 |succ n ih=>rw[L8,L8,ih];grind
theorem kO {n j:Nat} {f:Nat->Rat} (hj:j<n) (h:∀i,i<n->i≠j->f i=0):L8 n f=f j:=by
 induction n with
 |zero=>omega
 |succ n ih=>
  rw[L8]
  by_cases e:j=n
  ·subst e
   rw[iB (λi hi=>h i (by omega) (by omega))];grind
  ·rw[ih (by omega) (λi hi=>h i (by omega)),h n (by omega) (by omega)];grind
theorem A7g {n j k:Nat} {f:Nat->Rat} (hj:j<n) (hk:k<n) (hjk:j≠k) (h:∀i,i<n->i≠j->i≠k->f i=0):L8 n f=f j+f k:=by
 have e:L8 n f=L8 n (λi=>if i=j then f j else 0)+L8 n (λi=>if i=j then 0 else f i):=by
  rw[<-yS]
  exact M9 λi _=>by by_cases hi:i=j<;>simp[hi]<;>grind
 rw[e,kO hj (λi _ hi=>by simp[hi]),kO hk (λi hi hik=>by by_cases hij:i=j<;>simp[hij];exact h i hi hij hik)]
 simp[N9 hjk]
theorem PV {n:Nat} {f g:Nat->Rat} (h:∀i,i<n->f i<=g i):L8 n f<=L8 n g:=by
 induction n with
 |zero=>exact OW
 |succ n ih=>
  rw[L8,L8]
  have h1:=ih (λi hi=>h i (by omega))
  have h2:=h n (by omega)
  grind
def eI (p j:Nat) (M:Nat->Nat->Rat):Nat->Nat->Rat:=λi c=>if i=p then M p c/M p j else M i c-M i j*(M p c/M p j)
def Sat (m n:Nat) (M:Nat->Nat->Rat) (x:Nat->Rat):Prop:=∀i,i<m->L8 n (λc=>M i c*x c)=M i n
def Hom (m n:Nat) (M:Nat->Nat->Rat) (x:Nat->Rat):Prop:=∀i,i<m->L8 n (λc=>M i c*x c)=0
theorem pK {p j i n:Nat} {M:Nat->Nat->Rat} {x:Nat->Rat}:L8 n (λc=>eI p j M i c*x c)=if i=p then L8 n (λc=>M p c*x c)/M p j else L8 n (λc=>M i c*x c)-M i j*(L8 n (λc=>M p c*x c)/M p j):=by
 unfold eI
 by_cases h:i=p
 ·simp only[h,if_true]
  rw[OX,Rat.mul_comm,<-kQ]
  exact M9 λc _=>by grind
 ·simp only[h,if_false]
  rw[OX,Rat.mul_comm (L8 n _) _,<-kQ,<-kQ,<-GF]
  exact M9 λc _=>by grind
theorem A8a {m n p j:Nat} {M:Nat->Nat->Rat} {x:Nat->Rat} (hp:p<m) (h:M p j≠0):Sat m n (eI p j M) x↔Sat m n M x:=by
 constructor
 ·intro hs
  have e1:=hs p hp
  rw[pK,if_pos rfl] at e1
  have e2:eI p j M p n=M p n/M p j:=by unfold eI;rw[if_pos rfl]
  rw[e2] at e1
  have e3:L8 n (λc=>M p c*x c)=M p n:=by grind
  intro i hi
  by_cases hip:i=p
  ·subst hip;exact e3
  ·have e4:=hs i hi
   rw[pK,if_neg hip,e3] at e4
   have e5:eI p j M i n=M i n-M i j*(M p n/M p j):=by unfold eI;rw[if_neg hip]
   rw[e5] at e4
   grind
 ·intro hs i hi
  rw[pK,hs p hp]
  unfold eI
  by_cases hip:i=p
  ·simp[hip]
  ·simp only[hip,if_false]
   rw[hs i hi]
theorem B0b {m n p j:Nat} {M:Nat->Nat->Rat} {x:Nat->Rat} (hp:p<m) (h:M p j≠0):Hom m n (eI p j M) x↔Hom m n M x:=by
 constructor
 ·intro hs
  have e1:=hs p hp
  rw[pK,if_pos rfl] at e1
  have e3:L8 n (λc=>M p c*x c)=0:=by grind
  intro i hi
  by_cases hip:i=p
  ·subst hip;exact e3
  ·have e4:=hs i hi
   rw[pK,if_neg hip,e3] at e4
   grind
 ·intro hs i hi
  rw[pK,hs p hp]
  by_cases hip:i=p
  ·simp only[hip,if_true];grind
  ·simp only[hip,if_false]
   rw[hs i hi];grind
structure Clean (m j:Nat) (q:Nat->Nat) (M:Nat->Nat->Rat):Prop where
 lt:∀k,k<j->q k<m
 inj:∀k l,k<j->l<j->q k=q l->k=l
 one:∀k,k<j->M (q k) k=1
 zero:∀k i,k<j->i<m->i≠q k->M i k=0
theorem Clean.step {m j p:Nat} {q:Nat->Nat} {M:Nat->Nat->Rat} (hc:Clean m j q M) (hp:p<m) (hq:q j=p) (hn:∀k,k<j->q k≠p) (h:M p j≠0):Clean m (j+1) q (eI p j M) where
 lt:=λk hk=>by
  by_cases e:k=j
  ·subst e;rw[hq];exact hp
  ·exact hc.lt k (by omega)
 inj:=λk l hk hl e=>by
  by_cases ek:k=j<;>by_cases el:l=j
  ·omega
  ·subst ek;exact absurd (e.symm.trans hq) (hn l (by omega))
  ·subst el;exact absurd (e.trans hq) (hn k (by omega))
  ·exact hc.inj k l (by omega) (by omega) e
 one:=λk hk=>by
  by_cases e:k=j
  ·subst e;rw[hq];unfold eI;rw[if_pos rfl];grind
  ·have hk':k<j:=by omega
   have h1:=hc.one k hk'
   have h0:=hc.zero k p hk' hp (N9 (hn k hk'))
   unfold eI
   rw[if_neg (hn k hk'),h0,h1];grind
 zero:=λk i hk hi hne=>by
  by_cases e:k=j
  ·subst e
   rw[hq] at hne
   unfold eI;rw[if_neg hne];grind
  ·have hk':k<j:=by omega
   have h0:=hc.zero k p hk' hp (N9 (hn k hk'))
   have h1:=hc.zero k i hk' hi hne
   unfold eI
   by_cases hip:i=p
   ·rw[if_pos hip,h0];grind
   ·rw[if_neg hip,h0,h1];grind
theorem A4u {m n j:Nat} {q:Nat->Nat} {M:Nat->Nat->Rat} (hc:Clean m j q M) (hj:j<n) (hno:∀i,i<m->(∀k,k<j->q k≠i)->M i j=0):∃x:Nat->Rat,x j=1/\Hom m n M x:=by
 refine⟨λc=>if c=j then 1 else if c<j then-M (q c) j else 0,by simp,λi hi=> ?_⟩
 by_cases hk:∃k,k<j/\q k=i
 ·obtain⟨k,hk,rfl⟩:=hk
  have h1:=hc.one k hk
  rw[A7g hj (show k<n by omega) (by omega) (λc hc' h2 h3=> ?_)]
  ·simp only[if_true,show ¬(k=j) by omega,if_false,hk]
   rw[h1];grind
  ·by_cases hcj:c<j
   ·rw[hc.zero c (q k) hcj hi (λe=>h3 (hc.inj k c hk hcj e).symm)];grind
   ·simp only[h2,hcj,if_false];grind
 ·have hno':=hno i hi (λk hk' e=>hk ⟨k,hk',e⟩)
  refine iB λc hc'=> ?_
  by_cases hcj:c=j
  ·subst hcj;rw[hno'];grind
  ·by_cases hcl:c<j
   ·rw[hc.zero c i hcl hi (λe=>hk ⟨c,hcl,e.symm⟩)];grind
   ·simp only[hcj,hcl,if_false];grind
theorem tX:∀(n:Nat) (q:Nat->Nat),(∀k,k<n->q k<n)->(∀k l,k<n->l<n->q k=q l->k=l)->∀i,i<n->∃k,k<n/\q k=i
 |0,_,_,_,i,hi=>by omega
 |n+1,q,hl,hi,i,hin=>by
  by_cases e:q n=i
  ·exact⟨n,by omega,e⟩
  ·
   have hr:=tX n (λk=>if q k=n then q n else q k)
    (λk hk=>by
      have h1:=hl k (by omega)
      have h2:=hl n (by omega)
      have h3:q k≠q n:=λe=>by have:=hi k n (by omega) (by omega) e;omega
      split<;>omega)
    (λk l hk hl' e=>by
      have h3:q k≠q n:=λe=>by have:=hi k n (by omega) (by omega) e;omega
      have h4:q l≠q n:=λe=>by have:=hi l n (by omega) (by omega) e;omega
      refine hi k l (by omega) (by omega) ?_
      split at e<;>split at e<;>omega)
   by_cases hin':i=n
   ·subst hin'
    obtain⟨k,hk,hk2⟩:=hr (q i) (by have:=hl i (by omega);omega)
    split at hk2
    ·exact⟨k,by omega,by assumption⟩
    ·exact absurd (hi k i (by omega) (by omega) hk2) (by omega)
   ·obtain⟨k,hk,hk2⟩:=hr i (by omega)
    split at hk2
    ·exact absurd hk2 e
    ·exact⟨k,by omega,hk2⟩
theorem B3e {n:Nat} {q:Nat->Nat} {M:Nat->Nat->Rat} (hc:Clean n n q M):Sat n n M (λj=>M (q j) n):=λi hi=>by
 obtain⟨k,hk,rfl⟩:=tX n q hc.lt hc.inj i hi
 rw[kO hk (λc hc' hne=>by rw[hc.zero c (q k) hc' hi (λe=>hne (hc.inj k c hk hc' e).symm)];grind),hc.one k hk]
 grind
def det3 (a b c d e f g h i:Rat):Rat:=a*(e*i-f*h)-b*(d*i-f*g)+c*(d*h-e*g)
def det4 (M:Nat->Nat->Rat):Rat:=
 M 0 0*det3 (M 1 1) (M 1 2) (M 1 3) (M 2 1) (M 2 2) (M 2 3) (M 3 1) (M 3 2) (M 3 3)
 -M 0 1*det3 (M 1 0) (M 1 2) (M 1 3) (M 2 0) (M 2 2) (M 2 3) (M 3 0) (M 3 2) (M 3 3)
 +M 0 2*det3 (M 1 0) (M 1 1) (M 1 3) (M 2 0) (M 2 1) (M 2 3) (M 3 0) (M 3 1) (M 3 3)
 -M 0 3*det3 (M 1 0) (M 1 1) (M 1 2) (M 2 0) (M 2 1) (M 2 2) (M 3 0) (M 3 1) (M 3 2)
theorem A5p {p j:Nat} {M:Nat->Nat->Rat} (hp:p<4) (h:M p j≠0):det4 (eI p j M)*M p j=det4 M:=by
 have e:∀c,M p c=M p j*(M p c/M p j):=λc=>by grind
 match p,hp with
 |0,_=>
  simp only[det4,det3,eI]
  simp only[show ¬(1=0) by decide,show ¬(2=0) by decide,show ¬(3=0) by decide,if_true,if_false]
  have e0:=e 0;have e1:=e 1;have e2:=e 2;have e3:=e 3
  generalize M 0 0/M 0 j=y0 at*
  generalize M 0 1/M 0 j=y1 at*
  generalize M 0 2/M 0 j=y2 at*
  generalize M 0 3/M 0 j=y3 at*
  rw[e0,e1,e2,e3]
  generalize M 0 j=p at*
  grind
 |1,_=>
  simp only[det4,det3,eI]
  simp only[show ¬(0=1) by decide,show ¬(2=1) by decide,show ¬(3=1) by decide,if_true,if_false]
  have e0:=e 0;have e1:=e 1;have e2:=e 2;have e3:=e 3
  generalize M 1 0/M 1 j=y0 at*
  generalize M 1 1/M 1 j=y1 at*
  generalize M 1 2/M 1 j=y2 at*
  generalize M 1 3/M 1 j=y3 at*
  rw[e0,e1,e2,e3]
  generalize M 1 j=p at*
  grind
 |2,_=>
  simp only[det4,det3,eI]
  simp only[show ¬(0=2) by decide,show ¬(1=2) by decide,show ¬(3=2) by decide,if_true,if_false]
  have e0:=e 0;have e1:=e 1;have e2:=e 2;have e3:=e 3
  generalize M 2 0/M 2 j=y0 at*
  generalize M 2 1/M 2 j=y1 at*
  generalize M 2 2/M 2 j=y2 at*
  generalize M 2 3/M 2 j=y3 at*
  rw[e0,e1,e2,e3]
  generalize M 2 j=p at*
  grind
 |3,_=>
  simp only[det4,det3,eI]
  simp only[show ¬(0=3) by decide,show ¬(1=3) by decide,show ¬(2=3) by decide,if_true,if_false]
  have e0:=e 0;have e1:=e 1;have e2:=e 2;have e3:=e 3
  generalize M 3 0/M 3 j=y0 at*
  generalize M 3 1/M 3 j=y1 at*
  generalize M 3 2/M 3 j=y2 at*
  generalize M 3 3/M 3 j=y3 at*
  rw[e0,e1,e2,e3]
  generalize M 3 j=p at*
  grind
theorem A5q {q:Nat->Nat} {M:Nat->Nat->Rat} (hc:Clean 4 4 q M):det4 M≠0:=by
 have e:∀i k,i<4->k<4->M i k=if i=q k then 1 else 0:=λi k hi hk=>by
  by_cases h:i=q k
  ·rw[if_pos h,h];exact hc.one k hk
  ·rw[if_neg h];exact hc.zero k i hk hi h
 have l0:=hc.lt 0 (by decide)
 have l1:=hc.lt 1 (by decide)
 have l2:=hc.lt 2 (by decide)
 have l3:=hc.lt 3 (by decide)
 have n01:=λh=>hc.inj 0 1 (by decide) (by decide) h
 have n02:=λh=>hc.inj 0 2 (by decide) (by decide) h
 have n03:=λh=>hc.inj 0 3 (by decide) (by decide) h
 have n12:=λh=>hc.inj 1 2 (by decide) (by decide) h
 have n13:=λh=>hc.inj 1 3 (by decide) (by decide) h
 have n23:=λh=>hc.inj 2 3 (by decide) (by decide) h
 unfold det4 det3
 rw[e 0 0,e 0 1,e 0 2,e 0 3,e 1 0,e 1 1,e 1 2,e 1 3,e 2 0,e 2 1,e 2 2,e 2 3,e 3 0,e 3 1,e 3 2,e 3 3]<;>try decide
 generalize q 0=a at*
 generalize q 1=b at*
 generalize q 2=c at*
 generalize q 3=d at*
 clear e hc
 have key:∀a b c d:Fin 4,a≠b->a≠c->a≠d->b≠c->b≠d->c≠d->
  (let f (i:Nat) (k:Fin 4):Rat:=if i=k.val then 1 else 0
  f 0 a*(f 1 b*(f 2 c*f 3 d-f 2 d*f 3 c)-f 1 c*(f 2 b*f 3 d-f 2 d*f 3 b)+f 1 d*(f 2 b*f 3 c-f 2 c*f 3 b))
  -f 0 b*(f 1 a*(f 2 c*f 3 d-f 2 d*f 3 c)-f 1 c*(f 2 a*f 3 d-f 2 d*f 3 a)+f 1 d*(f 2 a*f 3 c-f 2 c*f 3 a))
  +f 0 c*(f 1 a*(f 2 b*f 3 d-f 2 d*f 3 b)-f 1 b*(f 2 a*f 3 d-f 2 d*f 3 a)+f 1 d*(f 2 a*f 3 b-f 2 b*f 3 a))
  -f 0 d*(f 1 a*(f 2 b*f 3 c-f 2 c*f 3 b)-f 1 b*(f 2 a*f 3 c-f 2 c*f 3 a)+f 1 c*(f 2 a*f 3 b-f 2 b*f 3 a))≠0):=by decide+kernel
 exact key ⟨a,l0⟩ ⟨b,l1⟩ ⟨c,l2⟩ ⟨d,l3⟩ (λh=>absurd (n01 (FQ h)) (by decide)) (λh=>absurd (n02 (FQ h)) (by decide)) (λh=>absurd (n03 (FQ h)) (by decide)) (λh=>absurd (n12 (FQ h)) (by decide)) (λh=>absurd (n13 (FQ h)) (by decide)) (λh=>absurd (n23 (FQ h)) (by decide))
theorem cramer {M:Nat->Nat->Rat} {x:Nat->Rat} (hs:Sat 4 4 M x):
 det4 M*x 0=M 0 4*det3 (M 1 1) (M 1 2) (M 1 3) (M 2 1) (M 2 2) (M 2 3) (M 3 1) (M 3 2) (M 3 3)-M 1 4*det3 (M 0 1) (M 0 2) (M 0 3) (M 2 1) (M 2 2) (M 2 3) (M 3 1) (M 3 2) (M 3 3)
  +M 2 4*det3 (M 0 1) (M 0 2) (M 0 3) (M 1 1) (M 1 2) (M 1 3) (M 3 1) (M 3 2) (M 3 3)-M 3 4*det3 (M 0 1) (M 0 2) (M 0 3) (M 1 1) (M 1 2) (M 1 3) (M 2 1) (M 2 2) (M 2 3)
 /\det4 M*x 1= -M 0 4*det3 (M 1 0) (M 1 2) (M 1 3) (M 2 0) (M 2 2) (M 2 3) (M 3 0) (M 3 2) (M 3 3)+M 1 4*det3 (M 0 0) (M 0 2) (M 0 3) (M 2 0) (M 2 2) (M 2 3) (M 3 0) (M 3 2) (M 3 3)
   -M 2 4*det3 (M 0 0) (M 0 2) (M 0 3) (M 1 0) (M 1 2) (M 1 3) (M 3 0) (M 3 2) (M 3 3)+M 3 4*det3 (M 0 0) (M 0 2) (M 0 3) (M 1 0) (M 1 2) (M 1 3) (M 2 0) (M 2 2) (M 2 3)
 /\det4 M*x 2=M 0 4*det3 (M 1 0) (M 1 1) (M 1 3) (M 2 0) (M 2 1) (M 2 3) (M 3 0) (M 3 1) (M 3 3)-M 1 4*det3 (M 0 0) (M 0 1) (M 0 3) (M 2 0) (M 2 1) (M 2 3) (M 3 0) (M 3 1) (M 3 3)
   +M 2 4*det3 (M 0 0) (M 0 1) (M 0 3) (M 1 0) (M 1 1) (M 1 3) (M 3 0) (M 3 1) (M 3 3)-M 3 4*det3 (M 0 0) (M 0 1) (M 0 3) (M 1 0) (M 1 1) (M 1 3) (M 2 0) (M 2 1) (M 2 3)
 /\det4 M*x 3= -M 0 4*det3 (M 1 0) (M 1 1) (M 1 2) (M 2 0) (M 2 1) (M 2 2) (M 3 0) (M 3 1) (M 3 2)+M 1 4*det3 (M 0 0) (M 0 1) (M 0 2) (M 2 0) (M 2 1) (M 2 2) (M 3 0) (M 3 1) (M 3 2)
   -M 2 4*det3 (M 0 0) (M 0 1) (M 0 2) (M 1 0) (M 1 1) (M 1 2) (M 3 0) (M 3 1) (M 3 2)+M 3 4*det3 (M 0 0) (M 0 1) (M 0 2) (M 1 0) (M 1 1) (M 1 2) (M 2 0) (M 2 1) (M 2 2):=by
 have h0:=hs 0 (by decide)
 have h1:=hs 1 (by decide)
 have h2:=hs 2 (by decide)
 have h3:=hs 3 (by decide)
 simp only[L8] at h0 h1 h2 h3
 rw[<-h0,<-h1,<-h2,<-h3]
 unfold det4 det3
 clear h0 h1 h2 h3 hs
 refine⟨?_,?_,?_,?_⟩<;>grind
def IB (N:Nat) (q:Rat):Prop:=∃z:Int,q=(z:Rat)/\z.natAbs<=N
theorem IB.mono {N N':Nat} {q:Rat} (h:IB N q) (hn:N<=N'):IB N' q:=let ⟨z,e,l⟩:=h;⟨z,e,F5 l hn⟩
theorem IB.zero:IB 0 0:=⟨0,by rfl,B1 _⟩
theorem IB.neg {N:Nat} {q:Rat} (h:IB N q):IB N (-q):=by
 obtain⟨z,rfl,l⟩:=h
 exact⟨-z,by simp,by omega⟩
theorem IB.add {N N':Nat} {q r:Rat} (h:IB N q) (h':IB N' r):IB (N+N') (q+r):=by
 obtain⟨z,rfl,l⟩:=h
 obtain⟨z',rfl,l'⟩:=h'
 exact⟨z+z',by simp,by omega⟩
theorem IB.sub {N N':Nat} {q r:Rat} (h:IB N q) (h':IB N' r):IB (N+N') (q-r):=by
 have:=h.add h'.neg
 rw[show q-r=q+ -r by grind];exact this
theorem IB.mul {N N':Nat} {q r:Rat} (h:IB N q) (h':IB N' r):IB (N*N') (q*r):=by
 obtain⟨z,rfl,l⟩:=h
 obtain⟨z',rfl,l'⟩:=h'
 exact⟨z*z',by simp,by rw[fK];exact G6 l l'⟩
theorem IB.det3 {m:Nat} {a b c d e f g h i:Rat} (ha:IB m a) (hb:IB m b) (hc:IB m c) (hd:IB m d) (he:IB m e) (hf:IB m f) (hg:IB m g) (hh:IB m h) (hi:IB m i):IB (6*(m*m*m)) (Go.PM.det3 a b c d e f g h i):=by
 have:=(((ha.mul ((he.mul hi).sub (hf.mul hh))).sub (hb.mul ((hd.mul hi).sub (hf.mul hg)))).add (hc.mul ((hd.mul hh).sub (he.mul hg))))
 refine IB.mono this (Nat.le_of_eq ?_)
 rw[R2,I2];omega
theorem IB.det4 {m:Nat} {M:Nat->Nat->Rat} (h:∀i c,c<4->IB m (M i c)):IB (24*(m*m*m*m)) (Go.PM.det4 M):=by
 have h3:∀i1 i2 i3 c1 c2 c3,c1<4->c2<4->c3<4->IB (6*(m*m*m)) (Go.PM.det3 (M i1 c1) (M i1 c2) (M i1 c3) (M i2 c1) (M i2 c2) (M i2 c3) (M i3 c1) (M i3 c2) (M i3 c3)):=
  λi1 i2 i3 c1 c2 c3 a b c=>IB.det3 (h _ _ a) (h _ _ b) (h _ _ c) (h _ _ a) (h _ _ b) (h _ _ c) (h _ _ a) (h _ _ b) (h _ _ c)
 have:=((((h 0 0 (by decide)).mul (h3 1 2 3 1 2 3 (by decide) (by decide) (by decide))).sub ((h 0 1 (by decide)).mul (h3 1 2 3 0 2 3 (by decide) (by decide) (by decide)))).add ((h 0 2 (by decide)).mul (h3 1 2 3 0 1 3 (by decide) (by decide) (by decide)))).sub ((h 0 3 (by decide)).mul (h3 1 2 3 0 1 2 (by decide) (by decide) (by decide)))
 refine IB.mono this (Nat.le_of_eq ?_)
 rw[show m*(6*(m*m*m))=6*(m*m*m*m) by rw[oX,C6 m (m*m*m)]];omega
theorem A0i {m Q:Nat} {M:Nat->Nat->Rat} {x:Nat->Rat} (hs:Sat 4 4 M x) (h:∀i c,c<4->IB m (M i c)) (hb:∀i,∃z:Int,(Q:Rat)*M i 4=(z:Rat)):
 ∀j,j<4->∃z:Int,(Q:Rat)*(det4 M*x j)=(z:Rat):=by
 have h3:∀i1 i2 i3 c1 c2 c3,c1<4->c2<4->c3<4->∃z:Int,det3 (M i1 c1) (M i1 c2) (M i1 c3) (M i2 c1) (M i2 c2) (M i2 c3) (M i3 c1) (M i3 c2) (M i3 c3)=(z:Rat):=
  λi1 i2 i3 c1 c2 c3 a b c=>let ⟨z,e,_⟩:=IB.det3 (h i1 _ a) (h i1 _ b) (h i1 _ c) (h i2 _ a) (h i2 _ b) (h i2 _ c) (h i3 _ a) (h i3 _ b) (h i3 _ c);⟨z,e⟩
 obtain⟨c0,c1,c2,c3⟩:=cramer hs
 obtain⟨b0,e0⟩:=hb 0
 obtain⟨b1,e1⟩:=hb 1
 obtain⟨b2,e2⟩:=hb 2
 obtain⟨b3,e3⟩:=hb 3
 intro j hj
 match j,hj with
 |0,_=>
  obtain⟨z0,d0⟩:=h3 1 2 3 1 2 3 (by decide) (by decide) (by decide)
  obtain⟨z1,d1⟩:=h3 0 2 3 1 2 3 (by decide) (by decide) (by decide)
  obtain⟨z2,d2⟩:=h3 0 1 3 1 2 3 (by decide) (by decide) (by decide)
  obtain⟨z3,d3⟩:=h3 0 1 2 1 2 3 (by decide) (by decide) (by decide)
  rw[c0,d0,d1,d2,d3]
  refine⟨b0*z0-b1*z1+b2*z2-b3*z3,?_⟩
  simp only[X3,tG,T6,<-e0,<-e1,<-e2,<-e3];grind
 |1,_=>
  obtain⟨z0,d0⟩:=h3 1 2 3 0 2 3 (by decide) (by decide) (by decide)
  obtain⟨z1,d1⟩:=h3 0 2 3 0 2 3 (by decide) (by decide) (by decide)
  obtain⟨z2,d2⟩:=h3 0 1 3 0 2 3 (by decide) (by decide) (by decide)
  obtain⟨z3,d3⟩:=h3 0 1 2 0 2 3 (by decide) (by decide) (by decide)
  rw[c1,d0,d1,d2,d3]
  refine⟨-(b0*z0)+b1*z1-b2*z2+b3*z3,?_⟩
  simp only[X3,tG,T6,mN,<-e0,<-e1,<-e2,<-e3];grind
 |2,_=>
  obtain⟨z0,d0⟩:=h3 1 2 3 0 1 3 (by decide) (by decide) (by decide)
  obtain⟨z1,d1⟩:=h3 0 2 3 0 1 3 (by decide) (by decide) (by decide)
  obtain⟨z2,d2⟩:=h3 0 1 3 0 1 3 (by decide) (by decide) (by decide)
  obtain⟨z3,d3⟩:=h3 0 1 2 0 1 3 (by decide) (by decide) (by decide)
  rw[c2,d0,d1,d2,d3]
  refine⟨b0*z0-b1*z1+b2*z2-b3*z3,?_⟩
  simp only[X3,tG,T6,<-e0,<-e1,<-e2,<-e3];grind
 |3,_=>
  obtain⟨z0,d0⟩:=h3 1 2 3 0 1 2 (by decide) (by decide) (by decide)
  obtain⟨z1,d1⟩:=h3 0 2 3 0 1 2 (by decide) (by decide) (by decide)
  obtain⟨z2,d2⟩:=h3 0 1 3 0 1 2 (by decide) (by decide) (by decide)
  obtain⟨z3,d3⟩:=h3 0 1 2 0 1 2 (by decide) (by decide) (by decide)
  rw[c3,d0,d1,d2,d3]
  refine⟨-(b0*z0)+b1*z1-b2*z2+b3*z3,?_⟩
  simp only[X3,tG,T6,mN,<-e0,<-e1,<-e2,<-e3];grind
def QB (N D:Nat) (q:Rat):Prop:=q.num.natAbs<=N/\q.den<=D
theorem QB.mono {N N' D D':Nat} {q:Rat} (h:QB N D q) (hn:N<=N') (hd:D<=D'):QB N' D' q:=⟨F5 h.1 hn,F5 h.2 hd⟩
theorem MW {N D:Nat} {q:Rat} (hD:0<D) (h:IB N ((D:Rat)*q)):QB N D q:=by
 obtain⟨z,e,l⟩:=h
 have hq:q=mkRat q.num q.den:=(Rat.mkRat_self q).symm
 have e2:(D:Int)*q.num=z*q.den:=by
  have h1:(q.num:Rat)=q*(q.den:Rat):=by
   have:=Rat.mul_inv_cancel (q.den:Rat) (by have:=q.den_pos;simp;omega)
   conv=>lhs;rw[show(q.num:Rat)=(q.num:Rat)*((q.den:Rat)*(q.den:Rat)⁻¹) by rw[this];grind]
   have hd:q=(q.num:Rat)*(q.den:Rat)⁻¹ :=by
    rw[<-OX,<-qS];exact hq
   conv=>rhs;rw[hd]
   grind
  have h2:((D:Int):Rat)*(q.num:Rat)=(z:Rat)*((q.den:Int):Rat):=by
   rw[h1,<-e,P6,P6];grind
  rw[<-T6,<-T6] at h2
  exact tI.1 h2
 have e3:D*q.num.natAbs=z.natAbs*q.den:=by
  have:=N8 Int.natAbs e2
  rw[fK,fK] at this
  simpa using this
 have hdv:q.den∣D:=Nat.Coprime.dvd_of_dvd_mul_right (q.reduced.symm) ⟨z.natAbs,by rw[e3,C6]⟩
 refine⟨?_,Nat.le_of_dvd hD hdv⟩
 obtain⟨k,hk⟩:=hdv
 have hk0:0<k:=by
  rcases H3 k with h|h
  ·subst h;omega
  ·exact h
 have e4:k*q.num.natAbs=z.natAbs:=by
  rw[hk,I2,C6 z.natAbs] at e3
  exact Nat.eq_of_mul_eq_mul_left q.den_pos e3
 have:q.num.natAbs<=k*q.num.natAbs:=Nat.le_mul_of_pos_left _ hk0
 omega
structure EB (n:Nat) (Q B:Nat->Nat) (A E:Nat) (M:Nat->Nat->Rat) (d:Nat):Prop where
 d0:0<d
 dE:d<=E
 EA:E<=A
 q1:∀c,c<n->Q c=1/\B c<=A
 int:∀i c,IB (B c) ((Q c:Rat)*(d:Rat)*M i c)
theorem EB.step {n p j:Nat} {Q B:Nat->Nat} {A E d:Nat} {M:Nat->Nat->Rat} (h:EB n Q B A E M d) (hj:j<n) (hp:M p j≠0):
 ∃d',EB n Q (λc=>2*(A*B c)) (2*(A*A)) (E*A) (eI p j M) d':=by
 obtain⟨qj,bj⟩:=h.q1 j hj
 have hi:∀i,∃z:Int,(d:Rat)*M i j=(z:Rat)/\z.natAbs<=A:=λi=>by
  obtain⟨z,e,l⟩:=h.int i j
  rw[qj] at e
  exact⟨z,by rw[<-e];grind,by omega⟩
 obtain⟨a,ea,la⟩:=hi p
 have hd:(d:Rat)≠0:=by have:=h.d0;simp;omega
 have ha:a≠0:=by
  rintro rfl
  apply hp
  have:(d:Rat)*M p j=0:=by rw[ea];rfl
  grind
 have ha':(a:Rat)≠0:=by simp;exact ha
 have hA:0<A:=by have:=h.d0;have:=h.dE;have:=h.EA;omega
 have hsg:∃s:Int,(a.natAbs:Int)=s*a/\s.natAbs=1:=by
  rcases Int.natAbs_eq a with e|e
  ·exact⟨1,by omega,rfl⟩
  ·exact⟨-1,by omega,rfl⟩
 obtain⟨s,es,ls⟩:=hsg
 refine⟨d*a.natAbs,aV h.d0 (by omega),G6 h.dE la,?_,λc hc=>⟨(h.q1 c hc).1,?_⟩,λi c=> ?_⟩
 ·have:=G6 h.EA (B1 A)
  omega
 ·have:=G6 (B1 A) (h.q1 c hc).2
  omega
 ·have esr:((a.natAbs:Nat):Rat)=(s:Rat)*(a:Rat):=by
   rw[<-T6,<-es,P6]
  obtain⟨zp,ep,lp⟩:=h.int p c
  obtain⟨zi,ei,li⟩:=h.int i c
  obtain⟨ai,eai,lai⟩:=hi i
  have e1:((d*a.natAbs:Nat):Rat)=(d:Rat)*((s:Rat)*(a:Rat)):=by rw[<-esr];simp
  rw[e1]
  unfold eI
  have emp:M p j=(a:Rat)/(d:Rat):=by rw[<-ea];grind
  by_cases hip:i=p
  ·rw[if_pos hip,emp]
   refine⟨s*(d*zp),?_,?_⟩
   ·simp only[T6,<-ep]
    rw[P6];grind
   ·rw[fK,fK,ls,V4]
    have h1:(d:Int).natAbs<=A:=by have:=h.dE;have:=h.EA;simp;omega
    have:=G6 h1 lp
    omega
  ·rw[if_neg hip,emp]
   refine⟨s*(a*zi-ai*zp),?_,?_⟩
   ·simp only[T6,tG,<-ep,<-ei,<-eai]
    grind
   ·rw[fK,ls,V4]
    have h1:=G6 la li
    have h2:=G6 lai lp
    rw[<-fK] at h1 h2
    omega
def ent (rows:List (List Rat)) (i c:Nat):Rat:=(rows.getD i []).getD c 0
def bY (p j:Nat) (rows:List (List Rat)):List Rat:=(rows.getD p []).map λx=>x/ent rows p j
def fM (f:Rat) (r q:List Rat):List Rat:=List.zipWith (λx y=>x-f*y) r q
def newRow (p j:Nat) (rows:List (List Rat)) (i:Nat) (r:List Rat):List Rat:=if i=p then bY p j rows else if r.getD j 0=0 then r else fM (r.getD j 0) r (bY p j rows)
def jG (p j:Nat) (rows:List (List Rat)):List (List Rat):=rows.mapIdx (newRow p j rows)
def rI (piv:List Nat) (j:Nat) (rows:List (List Rat)):Option Nat:=(List.range rows.length).find? λi=> !piv.contains i&&decide (ent rows i j≠0)
inductive T4 (rows0:List (List Rat)):Nat->List (List Rat)->List Nat->Prop
 |zero:T4 rows0 0 rows0 []
 |succ {j:Nat} {rows:List (List Rat)} {piv:List Nat} {p:Nat} (h:T4 rows0 j rows piv) (hp:rI piv j rows=some p):T4 rows0 (j+1) (jG p j rows) (piv++[p])
theorem T4.uniq {rows0:List (List Rat)} {j:Nat} {r r':List (List Rat)} {q q':List Nat} (h:T4 rows0 j r q) (h':T4 rows0 j r' q'):r=r'/\q=q':=by
 induction h generalizing r' q' with
 |zero=>cases h';exact⟨rfl,rfl⟩
 |succ h hp ih=>
  cases h' with
  |succ g gp=>
   obtain⟨rfl,rfl⟩:=ih g
   rw[hp] at gp
   obtain rfl:=T7 gp
   exact⟨rfl,rfl⟩
structure Wid (m w:Nat) (rows:List (List Rat)):Prop where
 len:rows.length=m
 wid:∀r∈rows,r.length=w
theorem Wid.at {m w i:Nat} {rows:List (List Rat)} (h:Wid m w rows) (hi:i<m):(rows.getD i []).length=w:=by
 rw[A5,A3 (by have:=h.len;omega)]
 exact h.wid _ (R5 _)
theorem A4z {l:List Rat} {f:Rat->Rat} (h0:f 0=0) (c:Nat):(l.map f).getD c 0=f (l.getD c 0):=by
 rw[A5,A5,A8]
 cases l[c]? <;>simp[h0]
theorem B0j {r q:List Rat} (hl:r.length=q.length) (f:Rat) (c:Nat):(fM f r q).getD c 0=r.getD c 0-f*q.getD c 0:=by
 unfold fM
 rw[A5,A5,A5,List.getElem?_zipWith]
 by_cases h:c<r.length
 ·rw[A3 h,A3 (by omega)];rfl
 ·rw[E0 (by omega),E0 (by omega)]
  simp;grind
theorem RO {p j c:Nat} {rows:List (List Rat)}:(bY p j rows).getD c 0=ent rows p c/ent rows p j:=by
 unfold bY
 rw[A4z (by rw[OX];grind)];rfl
theorem nE {m w p j:Nat} {rows:List (List Rat)} (h:Wid m w rows) (hp:p<m):(bY p j rows).length=w:=by unfold bY;rw[A6,h.at hp]
theorem ZH {m w p j i:Nat} {rows:List (List Rat)} {r:List Rat} (h:Wid m w rows) (hp:p<m) (hr:r.length=w):(newRow p j rows i r).length=w:=by
 unfold newRow
 split
 ·exact nE h hp
 ·split
  ·exact hr
  ·unfold fM;rw[List.length_zipWith,nE h hp,hr,Nat.min_self]
theorem jM {m w p j:Nat} {rows:List (List Rat)} (h:Wid m w rows) (hp:p<m):Wid m w (jG p j rows):=
 ⟨by unfold jG;rw[List.length_mapIdx,h.len],λr hr=>by
   unfold jG at hr
   obtain⟨i,hi,rfl⟩:=List.mem_mapIdx.1 hr
   exact ZH h hp (h.wid _ (R5 _))⟩
theorem uO {m w p j:Nat} {rows:List (List Rat)} (h:Wid m w rows) (hp:p<m):ent (jG p j rows)=eI p j (ent rows):=by
 funext i c
 unfold eI
 by_cases hi:i<m
 ·have e:(jG p j rows).getD i []=newRow p j rows i (rows.getD i []):=by
   unfold jG
   rw[A5,OZ,A5,A3 (by have:=h.len;omega)];rfl
  show((jG p j rows).getD i []).getD c 0=_
  rw[e]
  unfold newRow
  by_cases hip:i=p
  ·rw[if_pos hip,if_pos hip,RO]
  ·rw[if_neg hip,if_neg hip]
   by_cases h0:(rows.getD i []).getD j 0=0
   ·rw[if_pos h0,show ent rows i j=0 from h0]
    show ent rows i c=_
    grind
   ·rw[if_neg h0,B0j (by rw[h.at hi,nE h hp]),RO];rfl
 ·have e0:∀c,ent rows i c=0:=λc=>by
   unfold ent
   rw[A5 (l:=rows),E0 (by have:=h.len;omega)];rfl
  have e1:ent (jG p j rows) i c=0:=by
   unfold ent
   rw[A5 (l:=jG p j rows),E0 (by have:=(jM (j:=j) h hp).len;omega)];rfl
  rw[e1,if_neg (by omega),e0,e0];grind
theorem mS {piv:List Nat} {j p:Nat} {rows:List (List Rat)} (h:rI piv j rows=some p):p<rows.length/\p∉piv/\ent rows p j≠0:=by
 unfold rI at h
 have h1:=KZ h
 have h2:=lC h
 simp at h1 h2
 exact⟨h2,h1.1,h1.2⟩
theorem A4k {piv:List Nat} {j:Nat} {rows:List (List Rat)} (h:rI piv j rows=none):∀i,i<rows.length->i∉piv->ent rows i j=0:=by
 unfold rI at h
 rw[cV] at h
 intro i hi hn
 have:=h i (K2.2 hi)
 simp at this
 exact this hn
structure ElimOk (m w n j:Nat) (rows0 rows:List (List Rat)) (piv:List Nat):Prop where
 wid:Wid m w rows
 plen:piv.length=j
 clean:Clean m j (λk=>piv.getD k 0) (ent rows)
 sat:∀x,Sat m n (ent rows) x↔Sat m n (ent rows0) x
 hom:∀x,Hom m n (ent rows) x↔Hom m n (ent rows0) x
theorem T4.ok {m w n j:Nat} {rows0 rows:List (List Rat)} {piv:List Nat} (h:T4 rows0 j rows piv) (hw:Wid m w rows0):ElimOk m w n j rows0 rows piv:=by
 induction h with
 |zero=>exact⟨hw,rfl,⟨λk hk=>by omega,λk l hk=>by omega,λk hk=>by omega,λk i hk=>by omega⟩,λ_=>Iff.rfl,λ_=>Iff.rfl⟩
 | @succ j rows piv p h hp ih=>
   obtain⟨h1,h2,h3⟩:=mS hp
   rw[ih.wid.len] at h1
   have hq:∀k,k<j->(piv++[p]).getD k 0=piv.getD k 0:=λk hk=>by
    rw[A5,A5,B8 (by have:=ih.plen;omega)]
   have hqj:(piv++[p]).getD j 0=p:=by
    rw[A5,B3 (by have:=ih.plen;omega),ih.plen,G2];rfl
   have hc:Clean m j (λk=>(piv++[p]).getD k 0) (ent rows):=
    ⟨λk hk=>by rw[hq k hk];exact ih.clean.lt k hk,λk l hk hl e=>by rw[hq k hk,hq l hl] at e;exact ih.clean.inj k l hk hl e,λk hk=>by rw[hq k hk];exact ih.clean.one k hk,λk i hk hi hne=>ih.clean.zero k i hk hi (by rw[hq k hk] at hne;exact hne)⟩
   refine⟨jM ih.wid h1,by rw[B4,ih.plen];rfl,?_,λx=> ?_,λx=> ?_⟩
   ·rw[uO ih.wid h1]
    refine hc.step h1 hqj (λk hk e=> ?_) h3
    rw[hq k hk] at e
    apply h2
    rw[<-e,A5,A3 (by have:=ih.plen;omega)]
    exact R5 _
   ·rw[uO ih.wid h1,A8a h1 h3];exact ih.sat x
   ·rw[uO ih.wid h1,B0b h1 h3];exact ih.hom x
theorem T4.next {m w n j:Nat} {rows0 rows:List (List Rat)} {piv:List Nat} (h:T4 rows0 j rows piv) (hw:Wid m w rows0) (hj:j<n) (hker:∀x,Hom m n (ent rows0) x->x j=0):∃p,rI piv j rows=some p:=by
 have ho:=h.ok (n:=n) hw
 cases hp:rI piv j rows with
 |some p=>exact⟨p,rfl⟩
 |none=>
  exfalso
  have h0:=A4k hp
  rw[ho.wid.len] at h0
  obtain⟨x,x1,x2⟩:=A4u ho.clean hj λi hi hk=>h0 i hi λhm=>by
   obtain⟨k,hk1,hk2⟩:=List.mem_iff_getElem.1 hm
   refine hk k (by have:=ho.plen;omega) ?_
   rw[A5,A3 hk1];exact hk2
  have:=hker x ((ho.hom x).1 x2)
  rw[x1] at this
  exact absurd this (by decide)
theorem T4.exists {m w n:Nat} {rows0:List (List Rat)} (hw:Wid m w rows0) (hker:∀x,Hom m n (ent rows0) x->∀j,j<n->x j=0):∀j,j<=n->∃rows piv,T4 rows0 j rows piv
 |0,_=>⟨_,_,.zero⟩
 |j+1,hj=>by
  obtain⟨rows,piv,h⟩:=T4.exists hw hker j (by omega)
  obtain⟨p,hp⟩:=h.next (n:=n) hw (by omega) λx hx=>hker x hx j (by omega)
  exact⟨_,_,.succ h hp⟩
def sV (n:Nat) (rows:List (List Rat)) (piv:List Nat):List Rat:=(List.range n).map λj=>ent rows (piv.getD j 0) n
theorem T4.sol {w n:Nat} {rows0 rows:List (List Rat)} {piv:List Nat} (h:T4 rows0 n rows piv) (hw:Wid n w rows0):Sat n n (ent rows0) (λj=>ent rows (piv.getD j 0) n):=by
 have ho:=h.ok (n:=n) hw
 exact(ho.sat _).1 (B3e ho.clean)
theorem A8k {N D N' D':Nat} {q r:Rat} (h:QB N D q) (h':QB N' D' r):QB (N*N') (D*D') (q*r):=by
 have e:q*r=nv (gS q !=gS r) (Go.PM.qn q*Go.PM.qn r) (q.den*r.den):=by rw[<-ZF,kF,kF]
 have hp:0<q.den*r.den:=aV q.den_pos r.den_pos
 rw[e]
 refine⟨?_,?_⟩
 ·show Go.PM.qn _<=_
  rw[B5d hp]
  exact F5 (N5 _ _) (G6 h.1 h'.1)
 ·rw[A9g hp]
  exact F5 (N5 _ _) (G6 h.2 h'.2)
def aE:Nat->Nat
 |0=>32
 |k+1=>2*aE k+1
def eE:Nat->Nat
 |0=>0
 |k+1=>eE k+aE k
def bE:Nat->Nat
 |0=>440
 |k+1=>1+aE k+bE k
def bN (n k c:Nat):Nat:=if c<n then 2^aE k else 2^bE k
def qN (n Q c:Nat):Nat:=if c=n then Q else 1
structure CL (L p j w m:Nat) (rows:List (List Rat)):Prop where
 nz:ent rows p j≠0
 bl:qn (ent rows p j)<L/\(ent rows p j).den<L
 div:∀c,c<w->(qn (ent rows p c)<L/\(ent rows p c).den<L)/\qn (ent rows p c)*(ent rows p j).den<L/\(ent rows p c).den*qn (ent rows p j)<L
 sub:∀i c,i<m->c<w->(qn (ent rows i j)<L/\(ent rows i j).den<L)/\(qn (ent rows p c/ent rows p j)<L/\(ent rows p c/ent rows p j).den<L)/\
  qn (ent rows i j)*qn (ent rows p c/ent rows p j)<L/\(ent rows i j).den*(ent rows p c/ent rows p j).den<L/\
  qn (ent rows i c)*(ent rows i j*(ent rows p c/ent rows p j)).den+qn (ent rows i j*(ent rows p c/ent rows p j))*(ent rows i c).den<L/\
  (ent rows i c).den*(ent rows i j*(ent rows p c/ent rows p j)).den<L
theorem EB.at {n:Nat} {Q B:Nat->Nat} {A E d:Nat} {M:Nat->Nat->Rat} (h:EB n Q B A E M d) (hQ:∀c,0<Q c) (i c:Nat):QB (B c) (Q c*d) (M i c):=
 MW (aV (hQ c) h.d0) (by rw[KX];exact h.int i c)
theorem EB.quot {n p j:Nat} {Q B:Nat->Nat} {A E d:Nat} {M:Nat->Nat->Rat} (h:EB n Q B A E M d) (hQ:∀c,0<Q c) (hj:j<n) (hp:M p j≠0) (c:Nat):QB (B c) (Q c*A) (M p c/M p j):=by
 obtain⟨qj,bj⟩:=h.q1 j hj
 obtain⟨a,ea,la⟩:=h.int p j
 rw[qj] at ea
 have hd:(d:Rat)≠0:=by have:=h.d0;simp;omega
 have ha:a≠0:=by
  rintro rfl
  apply hp
  have:((1:Nat):Rat)*(d:Rat)*M p j=0:=by rw[ea];rfl
  have h1:((1:Nat):Rat)=1:=rfl
  rw[h1] at this
  grind
 have hsg:∃s:Int,(a.natAbs:Int)=s*a/\s.natAbs=1:=by
  rcases Int.natAbs_eq a with e|e
  ·exact⟨1,by omega,rfl⟩
  ·exact⟨-1,by omega,rfl⟩
 obtain⟨s,es,ls⟩:=hsg
 obtain⟨z,ez,lz⟩:=h.int p c
 have key:QB (B c) (Q c*a.natAbs) (M p c/M p j):=by
  refine MW (aV (hQ c) (by omega)) ⟨s*z,?_,by rw[fK,ls,V4];exact lz⟩
  have esr:((a.natAbs:Nat):Rat)=(s:Rat)*(a:Rat):=by
   rw[<-T6,<-es,P6]
  rw[KX,esr,T6,<-ez,<-ea]
  have h1:((1:Nat):Rat)=1:=rfl
  rw[h1]
  have e2:M p c/M p j*M p j=M p c:=by grind
  grind
 exact key.mono (B1 _) (fF _ (by omega))
theorem TW {n p j w m:Nat} {Qf Bf:Nat->Nat} {A E B Q L d:Nat} {rows:List (List Rat)} (h:EB n Qf Bf A E (ent rows) d) (hQp:∀c,0<Qf c) (hQl:∀c,Qf c<=Q) (hB:∀c,Bf c<=B) (hj:j<n) (hp:ent rows p j≠0)
 (n1:B<L) (n2:Q*E<L) (n3:A<L) (n4:E<L) (n5:Q*A<L) (n6:B*E<L) (n7:Q*E*A<L) (n8:A*B<L) (n9:E*(Q*A)<L) (n10:B*(E*(Q*A))+A*B*(Q*E)<L) (n11:Q*E*(E*(Q*A))<L):CL L p j w m rows:=by
 have hd:=h.dE
 obtain⟨qj,bj⟩:=h.q1 j hj
 have at1:∀i c,QB B (Q*E) (ent rows i c):=λi c=>(h.at hQp i c).mono (hB c) (G6 (hQl c) hd)
 have at2:∀i,QB A E (ent rows i j):=λi=>(h.at hQp i j).mono bj (by rw[qj,V4];exact hd)
 have at3:∀c,QB B (Q*A) (ent rows p c/ent rows p j):=λc=>(h.quot hQp hj hp c).mono (hB c) (D6 _ (hQl c))
 have at4:∀i c,QB (A*B) (E*(Q*A)) (ent rows i j*(ent rows p c/ent rows p j)):=λi c=>A8k (at2 i) (at3 c)
 have le:∀{a b:Nat},a<=b->b<L->a<L:=λh1 h2=>I4 h1 h2
 refine⟨hp,⟨le (at2 p).1 n3,le (at2 p).2 n4⟩,λc _=>⟨⟨le (at1 p c).1 n1,le (at1 p c).2 n2⟩,le (G6 (at1 p c).1 (at2 p).2) n6,le (G6 (at1 p c).2 (at2 p).1) n7⟩,λi c _ _=>⟨⟨le (at2 i).1 n3,le (at2 i).2 n4⟩,⟨le (at3 c).1 n1,le (at3 c).2 n5⟩,le (G6 (at2 i).1 (at3 c).1) n8,le (G6 (at2 i).2 (at3 c).2) n9,?_,le (G6 (at1 i c).2 (at4 i c).2) n11⟩⟩
 exact le (Nat.add_le_add (G6 (at1 i c).1 (at4 i c).2) (G6 (at4 i c).1 (at1 i c).2)) n10
theorem A6e:∀k,k<4->let A:=2^aE k;let E:=2^eE k;let B:=2^bE k;let Q:=2^400;let L:=2^2048;A<=B/\B<L/\Q*E<L/\A<L/\E<L/\Q*A<L/\B*E<L/\Q*E*A<L/\A*B<L/\E*(Q*A)<L/\B*(E*(Q*A))+A*B*(Q*E)<L/\Q*E*(E*(Q*A))<L
 |0,_=>by decide+kernel
 |1,_=>by decide+kernel
 |2,_=>by decide+kernel
 |3,_=>by decide+kernel
theorem A3v {n k p j w m Q:Nat} {rows:List (List Rat)} {d:Nat} (hk:k<4) (hQ0:0<Q) (hQ:Q<=2^400) (hj:j<n) (h:EB n (qN n Q) (bN n k) (2^aE k) (2^eE k) (ent rows) d) (hp:ent rows p j≠0):CL (2^2048) p j w m rows:=by
 have hb:=A6e k hk
 dsimp only at hb
 generalize 2^2048=L at hb ⊢
 generalize hq:2^400=Q2 at hb hQ
 have hq1:1<=Q2:=by rw[<-hq];exact xI (n:=400)
 have hBf:∀c,bN n k c<=2^bE k:=λc=>by
  unfold bN;split
  ·exact hb.1
  ·exact B1 _
 generalize 2^aE k=A at hb h
 generalize 2^eE k=E at hb h
 generalize 2^bE k=B at hb hBf
 obtain⟨_,n1,n2,n3,n4,n5,n6,n7,n8,n9,n10,n11⟩:=hb
 exact TW h (λc=>by unfold qN;split<;>omega) (λc=>by unfold qN;split<;>omega) hBf hj hp n1 n2 n3 n4 n5 n6 n7 n8 n9 n10 n11
theorem T4.eb {m w n j Q:Nat} {rows0 rows:List (List Rat)} {piv:List Nat} (h:T4 rows0 j rows piv) (hw:Wid m w rows0) (hj:j<=n) (h0:EB n (qN n Q) (bN n 0) (2^aE 0) (2^eE 0) (ent rows0) 1):
 ∃d,EB n (qN n Q) (bN n j) (2^aE j) (2^eE j) (ent rows) d:=by
 induction h with
 |zero=>exact⟨1,h0⟩
 | @succ j rows piv p h hp ih=>
   obtain⟨d,hd⟩:=ih (by omega)
   obtain⟨h1,h2,h3⟩:=mS hp
   have ho:=h.ok (n:=n) hw
   rw[ho.wid.len] at h1
   obtain⟨d',hd'⟩:=hd.step (by omega) h3
   rw[uO ho.wid h1]
   refine⟨d',?_⟩
   have e1:(λc=>2*(2^aE j*bN n j c))=bN n (j+1):=funext λc=>by
    unfold bN
    split
    ·rw[<-H2,aE,U8,C6,show aE j+aE j=2*aE j by omega]
    ·rw[<-H2,bE,C6,<-U8];congr 1;omega
   have e2:2*(2^aE j*2^aE j)=2^aE (j+1):=by rw[<-H2,aE,U8,C6,show aE j+aE j=2*aE j by omega]
   have e3:2^eE j*2^aE j=2^eE (j+1):=by rw[<-H2,eE]
   rw[e1,e2,e3] at hd'
   exact hd'
end Go.PM
namespace Go.PM
open Go.Proofs
structure XF where
 i:Nat
 v:Nat
theorem FJ {q ver m:Nat} {ro:Bool} {R rows:List D} {more:Hp} (h:1<q) (hm:more.all (okB q)=true):(sB 1 ver m R:: .row ver 1 ro rows::more).all (okB q)=true:=by
 show(okB q (sB 1 ver m R)&&(true&&more.all (okB q)))=true
 rw[cS h,hm];rfl
theorem A3o {α:Type} (f:α->D) {l:List α} {i:Nat} {x:α} (h:l[i]? =some x):(l.take (i+1)).map f=(l.take i).map f++[f x]:=by
 rw[D1,h,D2];rfl
theorem A5o (xs:List Rat) (y:Rat) (hl:xs.length<1000) (hy:Z9 y) (hz:y≠0) (h:∀x∈xs,Z9 x/\lim (qn x*y.den)/\lim (x.den*qn y)) (f:Bool) (ver m:Nat) (ro:Bool) (R rows:List D):
 let H:Hp:=[sB 1 ver m R,.row ver 1 ro rows,.var [.ptr 0 0 0 0],.vard (rD y).cells]
 M4 Tryz.prog 156 [.d (.sl 3 f (xs.map rD)),.fn 192 [.ptr 2 0 0 0,.ptr 3 0 0 0]] H λv h'=>okV H.length v=true/\h'.length=H.length/\h'.all (okB H.length)=true/\(v=E5 [bF (xs.map λx=>x/y)]/\h'=H):=by
 intro H
 refine lI Tryz.func156 ?_ ?_
 ·exact FJ (q:=4) (by decide) rfl
 have m0:(xs.map rD).length=xs.length:=A6 _
 repeat' ((conv=>whnf);first|refine Nam.mk m0 ?_|refine sT ?_|refine sP ?_ ?_<;>intro _|fail)
 all_goals(conv=>whnf)
 refine L3.virt 5 0 3 false (by decide) rfl ?_
 conv=>whnf
 refine lO (X:=Nat) (λi=>[(10,.d (I i)),(5,.sref 4 i 0 i false)]) (λi=>[(4,.row i 3 false ((xs.take i).map λx=>rD (x/y)))]) (λi=>i<=xs.length) (λi=>xs.length-i) 0 sam rfl (B9 _) ?_
 intro i hi
 by_cases hlt:i<xs.length
 ·obtain⟨x,hx⟩:∃x,xs[i]? =some x:=⟨_,A3 hlt⟩
  obtain⟨h1,h2,h3⟩:=h x (A7 hx)
  have hK:=A6c 0 1 (by decide) x y h1 hy hz h2 h3 ver m ro R rows
  have g1:(xs.map rD)[((i:Nat):Int).toNat]? =some (rD x):=by rw[B0,A8,hx];rfl
  repeat' ((conv=>whnf);first|refine Chk.mk ⟨rfl,by simp[X1];omega,by simp[room];omega⟩ ?_|refine sT ?_|refine sP ?_ ?_<;>intro _|refine A9 g1 ?_|refine bO Tryz.func192 ?_|refine H6.keepN hK rfl rfl (λj n hj=> ?_) ?_|fail)
  ·match j,hj with
   |0,hj=>simp at hj;subst hj;rfl
   |1,hj=>simp at hj;subst hj;rfl
  ·refine⟨i+1,?_,hlt,by omega⟩
   rw[A3o (λx=>rD (x/y)) hx]
   exact Wm.end sam rfl rfl (U9 (dQ (q:=5) (cS (b:=1) (by decide))) rfl)
 ·have hie:i=xs.length:=by omega
  subst hie
  rw[I5]
  repeat' ((conv=>whnf);first|refine sT ?_|refine sP ?_ ?_<;>intro _|fail)
  all_goals((conv=>whnf);try exact xO)
  refine Nam.mk (y:=(xs.map λx=>x/y).map rD) (by rw[O4,eG];exact C7 (by rw[A6];exact B1 _)) ?_
  (conv=>whnf)
  exact⟨DLe.refl _,rfl⟩
theorem A5n (a b c d:Nat) (hnd:[a,b,c,d].Nodup) (xs:List Rat) (y:Rat) (hl:xs.length<1000) (hy:Z9 y) (hz:y≠0) (h:∀x∈xs,Z9 x/\lim (qn x*y.den)/\lim (x.den*qn y)) (f:Bool) (ver m:Nat) (ro:Bool) (R rows:List D):
 mC Tryz.prog 156 [.d (.sl 3 f (xs.map rD)),.fn 192 [.ptr c 0 0 0,.ptr d 0 0 0]] [a,b,c,d] [sB b ver m R,.row ver 1 ro rows,.var [.ptr a 0 0 0],.vard (rD y).cells] (.d (bF (xs.map λx=>x/y))):=by
 have h:=eW (FJ (q:=4) (by decide) rfl) (by rfl) (A5o xs y hl hy hz h f ver m ro R rows) [a,b,c,d] hnd rfl
 simp only[E8,L4,rF] at h
 exact h
theorem A7h (q:Rat) {xs ys:List Rat} {i:Nat} {x y:Rat} (hx:xs[i]? =some x) (hy:ys[i]? =some y):(fM q (xs.take (i+1)) (ys.take (i+1))).map rD=(fM q (xs.take i) (ys.take i)).map rD++[rD (x-q*y)]:=by
 have h1:=(A4.1 hx).1
 have h2:=(A4.1 hy).1
 unfold fM
 rw[D1,hx,D1,hy,P2,P2,List.zipWith_append (by rw[D0,D0];omega),D2];rfl
theorem A6g (xs ys:List Rat) (q:Rat) (hl:xs.length<1000) (hlen:ys.length=xs.length)
 (h:∀(i:Nat) (x y:Rat),xs[i]? =some x->ys[i]? =some y->(Z9 q/\Z9 y/\lim (qn q*qn y)/\lim (q.den*y.den))/\lim (qn x*(q*y).den+qn (q*y)*x.den)/\lim (x.den*(q*y).den)) (f g:Bool) (ver m:Nat) (ro:Bool) (R rows:List D):
 let H:Hp:=[sB 1 ver m R,.row ver 1 ro rows,.var [.ptr 0 0 0 0],.vard (rD q).cells]
 M4 Tryz.prog 193 [.d (.sl 3 f (xs.map rD)),.d (.sl 3 g (ys.map rD)),.fn 194 [.ptr 2 0 0 0,.ptr 3 0 0 0]] H λv h'=>okV H.length v=true/\h'.length=H.length/\h'.all (okB H.length)=true/\(v=E5 [bF (fM q xs ys)]/\h'=H):=by
 intro H
 refine lI Tryz.func193 ?_ ?_
 ·exact FJ (q:=4) (by decide) rfl
 have m0:(xs.map rD).length=xs.length:=A6 _
 repeat' ((conv=>whnf);first|refine Nam.mk m0 ?_|refine sT ?_|refine sP ?_ ?_<;>intro _|refine bO Tryz.func156 ?_|fail)
 all_goals(conv=>whnf)
 refine L3.virt 5 0 3 false (by decide) rfl ?_
 conv=>whnf
 refine lO (X:=Nat) (λi=>[(10,.d (I i)),(5,.sref 7 i 0 i false)]) (λi=>[(6,.vard [I i]),(7,.row i 3 false ((fM q (xs.take i) (ys.take i)).map rD))]) (λi=>i<=xs.length) (λi=>xs.length-i) 0 sam rfl (B9 _) ?_
 intro i hi
 by_cases hlt:i<xs.length
 ·obtain⟨x,hx⟩:∃x,xs[i]? =some x:=⟨_,A3 hlt⟩
  obtain⟨y,hy⟩:∃y,ys[i]? =some y:=⟨_,A3 (by omega)⟩
  obtain⟨⟨h1,h2,h3,h4⟩,h5,h6⟩:=h i x y hx hy
  have hK1:=A6a 0 1 (by decide) q y h1 h2 h3 h4 ver m ro R rows
  have hK2:=A5y 0 1 (by decide) x (q*y) h5 h6 ver m ro R rows
  have g1:(xs.map rD)[((i:Nat):Int).toNat]? =some (rD x):=by rw[B0,A8,hx];rfl
  have g2:(ys.map rD)[((i:Nat):Int).toNat]? =some (rD y):=by rw[B0,A8,hy];rfl
  repeat' ((conv=>whnf);first|refine Chk.mk ⟨rfl,by simp[X1,fM];omega,by simp[room];omega⟩ ?_|refine sT ?_|refine sP ?_ ?_<;>intro _|refine A9 g1 ?_|refine A9 g2 ?_|refine bO Tryz.func211 ?_|refine bO Tryz.func194 ?_|refine H6.keepN hK1 rfl rfl (λj n hj=> ?_) ?_|refine H6.keepN hK2 rfl rfl (λj n hj=> ?_) ?_|fail)
  all_goals((conv=>whnf);try exact xO)
  all_goals try(
   match j,hj with
   |0,hj=>simp at hj;subst hj;rfl
   |1,hj=>simp at hj;subst hj;rfl)
  refine⟨i+1,?_,hlt,by omega⟩
  rw[A7h q hx hy]
  exact Wm.end sam rfl rfl (U9 (dQ (q:=8) (cS (b:=1) (by decide))) rfl)
 ·have hie:i=xs.length:=by omega
  subst hie
  rw[I5,<-hlen,I5]
  repeat' ((conv=>whnf);first|refine sT ?_|refine sP ?_ ?_<;>intro _|fail)
  all_goals((conv=>whnf);try exact xO)
  refine Chk.mk ⟨rfl,by rw[A6];unfold fM;simp;omega⟩ ?_
  refine Nam.mk (y:=(fM q xs ys).map rD) ?_ ?_
  ·rw[O4];exact C7 (by rw[A6];unfold fM;simp;omega)
  (conv=>whnf)
  exact⟨DLe.refl _,rfl⟩
theorem A6f (a b c d:Nat) (hnd:[a,b,c,d].Nodup) (xs ys:List Rat) (q:Rat) (hl:xs.length<1000) (hlen:ys.length=xs.length)
 (h:∀(i:Nat) (x y:Rat),xs[i]? =some x->ys[i]? =some y->(Z9 q/\Z9 y/\lim (qn q*qn y)/\lim (q.den*y.den))/\lim (qn x*(q*y).den+qn (q*y)*x.den)/\lim (x.den*(q*y).den)) (f g:Bool) (ver m:Nat) (ro:Bool) (R rows:List D):
 mC Tryz.prog 193 [.d (.sl 3 f (xs.map rD)),.d (.sl 3 g (ys.map rD)),.fn 194 [.ptr c 0 0 0,.ptr d 0 0 0]] [a,b,c,d] [sB b ver m R,.row ver 1 ro rows,.var [.ptr a 0 0 0],.vard (rD q).cells] (.d (bF (fM q xs ys))):=by
 have h:=eW (FJ (q:=4) (by decide) rfl) (by rfl) (A6g xs ys q hl hlen h f g ver m ro R rows) [a,b,c,d] hnd rfl
 simp only[E8,L4,rF] at h
 exact h
def RX (n:Nat) (P:List Int) (T:List Bool):List D:=I n::(P.map I++T.map B)
def sC (b ver m:Nat) (R:List D):List V:=.d (I 0):: .sref b ver 0 m false::R.map .d
theorem A8c {b ver m n:Nat} {P:List Int} {T:List Bool} {j:Nat} {x:Int} (h:P[j]? =some x):(sC b ver m (RX n P T))[j+3]? =some (.d (I x)):=by
 have hl:=(A4.1 h).1
 show((I n::(P.map I++T.map B)).map V.d)[j+1]? =_
 rw[A8,R6,B8 (by rw[A6];exact hl),A8,h];rfl
theorem A8b {b ver m n:Nat} {P:List Int} {T:List Bool} (hP:P.length=32) {i:Nat} {x:Bool} (h:T[i]? =some x):(sC b ver m (RX n P T))[i+35]? =some (.d (.b x)):=by
 show((I n::(P.map I++T.map B)).map V.d)[(i+32)+1]? =_
 rw[A8,R6,B3 (by rw[A6];omega),A6,hP,V5,A8,h];rfl
theorem B3g {b ver m n:Nat} {P:List Int} {T:List Bool} {j:Nat} {x:Int} (h:j<P.length):(sC b ver m (RX n P T)).set (j+3) (.d (I x))=sC b ver m (RX n (P.set j x) T):=by
 show V.d (I 0):: .sref b ver 0 m false::((I n::(P.map I++T.map B)).map V.d).set (j+1) (.d (I x))=_
 rw[<-O7,H4,List.set_append_left _ _ (by rw[A6];exact h),<-O7];rfl
theorem B3f {b ver m n:Nat} {P:List Int} {T:List Bool} (hP:P.length=32) {i:Nat} {x:Bool}:(sC b ver m (RX n P T)).set (i+35) (.d (.b x))=sC b ver m (RX n P (T.set i x)):=by
 show V.d (I 0):: .sref b ver 0 m false::((I n::(P.map I++T.map B)).map V.d).set ((i+32)+1) (.d (B x))=_
 rw[<-O7,H4,K8 _ _ (by rw[A6];omega),A6,hP,V5,<-O7];rfl
theorem A8d {b ver m n:Nat} {P:List Int} {T:List Bool} (hP:P.length=32) (hT:T.length=32):(sC b ver m (RX n P T)).length=67:=by
 show((I n::(P.map I++T.map B)).map V.d).length+1+1=_
 simp[hP,hT]
def PL (piv:List Nat):List Int:=piv.map Int.ofNat++List.replicate (32-piv.length) 0
def TL (piv:List Nat):List Bool:=(List.range 32).map λi=>piv.contains i
theorem SW {piv:List Nat} (h:piv.length<=32):(PL piv).length=32:=by unfold PL;simp;omega
theorem KV (piv:List Nat):(TL piv).length=32:=by unfold TL;simp
theorem SU {piv:List Nat} {i:Nat} (h:i<32):(TL piv)[i]? =some (piv.contains i):=by unfold TL;rw[A8,F2 h];rfl
theorem B5b {piv:List Nat} {p:Nat} (h:piv.length<32):PL (piv++[p])=(PL piv).set piv.length (p:Int):=by
 unfold PL
 rw[K8 _ _ (by simp),A6,G2]
 obtain⟨k,hk⟩:∃k,32-piv.length=k+1:=⟨31-piv.length,by omega⟩
 rw[hk,M1,E9,B4,D2,D5]
 congr 1
 show Int.ofNat p::([]++List.replicate (32-(piv.length+1)) 0)=_
 rw[show 32-(piv.length+1)=k by omega];rfl
theorem B5a {piv:List Nat} {p:Nat} (h:p<32):TL (piv++[p])=(TL piv).set p true:=by
 refine L9 λi=> ?_
 by_cases hi:i<32
 ·rw[SU hi,K5,KV]
  by_cases hp:p=i
  ·subst hp;rw[if_pos rfl,if_pos h];simp
  ·rw[if_neg hp,SU hi];congr 1
   simp[List.contains_eq_mem];intro h2;exact absurd h2.symm hp
 ·rw[E0 (by rw[KV];omega),E0 (by rw[L5,KV];omega)]
theorem WL (w m n j p ver:Nat) (ro:Bool) (rows:List (List Rat)) (piv:List Nat) (P:List Int) (hP:P.length=32) (hw:Wid m w rows) (hm:m<=32) (hj:j<w) (hp:rI piv j rows=some p):
 let H:Hp:=[.var (sC 1 ver m (RX n P (TL piv))),.row ver 1 ro (K1 rows)]
 M4 Tryz.prog 191 [.ptr 0 0 0 0,.d (I j)] H λv h'=>okV H.length v=true/\h'.length=H.length/\h'.all (okB H.length)=true/\(v=E5 [I p]/\h'=H):=by
 intro H
 refine lI Tryz.func191 ?_ ?_
 ·show(okB 2 (sB 1 ver m (RX n P (TL piv)))&&(true&&true))=true
  rw[cS (by decide)];rfl
 obtain⟨p1,p2,p3⟩:=mS hp
 have hlt:∀i,i<p->(piv.contains i=true∨ent rows i j=0):=λi hi=>by
  unfold rI at hp
  rw[List.find?_range_eq_some] at hp
  have:=hp.2.2 i hi
  simp at this
  by_cases h:i∈piv
  ·exact .inl (by simpa using h)
  ·exact .inr (this.resolve_left h)
 have hl:=hw.len
 repeat' ((conv=>whnf);first|refine sT ?_|refine sP ?_ ?_<;>intro _|fail)
 all_goals(conv=>whnf)
 refine lO (X:=Nat) (λi=>[(12,.d (I i))]) (λ_=>[]) (λi=>i<=p) (λi=>p-i) 0 sam rfl (B9 _) ?_
 intro i hi
 obtain⟨r,hr⟩:∃r,rows[i]? =some r:=⟨_,A3 (by omega)⟩
 have hwr:=hw.wid r (A7 hr)
 obtain⟨q,hq⟩:∃q,r[j]? =some q:=⟨_,A3 (by omega)⟩
 have he:ent rows i j=q:=by
  unfold ent
  rw[A5 (l:=rows),hr,O0,A5,hq];rfl
 have g1:=fW hr
 have g2:(r.map rD)[((j:Nat):Int).toNat]? =some (rD q):=by rw[B0,A8,hq];rfl
 have g3:(sC 1 ver m (RX n P (TL piv)))[0+35+((i:Nat):Int).toNat*1]? =some (.d (.b (piv.contains i))):=by
  rw[show 0+35+((i:Nat):Int).toNat*1=i+35 by omega]
  exact A8b hP (SU (by omega))
 have hz:(str (qn q)).toList=(⟨#[]⟩:ByteArray).toList↔q=0:=by rw[<-fP,LH,zC]
 have g1':(K1 rows)[0+((i:Nat):Int).toNat]? =some (bF r):=by rw[C1];exact g1
 by_cases hip:i<p
 ·rcases hlt i hip with hc|hc
  ·rw[hc] at g3
   repeat' ((conv=>whnf);first|refine sT ?_|refine sP ?_ ?_<;>intro _|refine A9 g1' ?_|refine A9 g2 ?_|refine A9 g3 ?_|fail)
   all_goals(conv=>whnf)
   all_goals first|(exfalso;omega)|exact⟨i+1,Wm.end sam rfl rfl (U9 (dQ (q:=2) (cS (b:=1) (by decide))) rfl),hip,by omega⟩
  ·have hzz:=hz.2 (he.symm.trans hc)
   generalize piv.contains i=t at g3
   cases t<;>(
    repeat' ((conv=>whnf);first|refine Dec.t hzz ?_|refine sT ?_|refine sP ?_ ?_<;>intro _|refine A9 g1' ?_|refine A9 g2 ?_|refine A9 g3 ?_|fail)
    all_goals(conv=>whnf)
    all_goals first|(exfalso;omega)|exact⟨i+1,Wm.end sam rfl rfl (U9 (dQ (q:=2) (cS (b:=1) (by decide))) rfl),hip,by omega⟩)
 ·have hie:i=p:=by omega
  subst hie
  have hzz:¬(str (qn q)).toList=(⟨#[]⟩:ByteArray).toList:=λhh=>p3 (by rw[he];exact hz.1 hh)
  rw[show piv.contains i=false by simpa using p2] at g3
  repeat' ((conv=>whnf);first|refine Dec.f hzz ?_|refine sT ?_|refine sP ?_ ?_<;>intro _|refine A9 g1' ?_|refine A9 g2 ?_|refine A9 g3 ?_|fail)
  all_goals exact fI
theorem WK (a b:Nat) (hab:a≠b) (w m n j p ver:Nat) (ro:Bool) (rows:List (List Rat)) (piv:List Nat) (P:List Int) (hP:P.length=32) (hw:Wid m w rows) (hm:m<=32) (hj:j<w) (hp:rI piv j rows=some p):
 mC Tryz.prog 191 [.ptr a 0 0 0,.d (I j)] [a,b] [.var (sC b ver m (RX n P (TL piv))),.row ver 1 ro (K1 rows)] (.d (I p)):=by
 have h:=eW (by show(okB 2 (sB 1 ver m (RX n P (TL piv)))&&(true&&true))=true;rw[cS (by decide)];rfl) (by rfl) (WL w m n j p ver ro rows piv P hP hw hm hj hp) [a,b] (BG hab) rfl
 simp only[E8,L4] at h
 rw[show Blk.var (sC 1 ver m (RX n P (TL piv)))=sB 1 ver m (RX n P (TL piv)) from rfl,rF] at h
 exact h
end Go.PM

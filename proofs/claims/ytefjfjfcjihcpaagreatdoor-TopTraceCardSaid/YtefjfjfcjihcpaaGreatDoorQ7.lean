/- TopTrace: part 7 of the proof: for every input the law returns true, and its arguments read behind the call as they read before; where the library's table is as its own text lays it. -/
import Derived.Test.YtefjfjfcjihcpaaGreatDoorQ6
import Derived.Shelf.Strconv.Itoa3
import Derived.Shelf.Spec.BitsCarry
import Derived.Shelf.Spec.TrailingZeros
import Derived.Shelf.Bits.Mul64
import Derived.Shelf.Small.Bits
import Derived.Ground.NamesProg
import Derived.Ground.Names7Prog
set_option maxRecDepth 10000
set_option maxHeartbeats 400000000
set_option linter.unusedSectionVars false
namespace Go.PM
open Go.Proofs
abbrev U (n:Nat):D:=.i .u64 (n:Int)
def str (n:Nat):ByteArray:=⟨(be n).toArray⟩
def nw (n:Nat):Nat:=((be n).length+7)/8
theorem yU (n:Nat):(str n).size=(be n).length:=by simp[str,ByteArray.size]
theorem wrap_u64 {n:Int} (h:0<=n/\n<18446744073709551616):IntKind.u64.wrap n=n:=by
 simp[IntKind.wrap,IntKind.bits,IntKind.signed];omega
theorem Wr.u64 {n:Int} {K:Int->Prop} (m:Int) (e:n=m) (h:0<=m/\m<18446744073709551616) (a:K m):Wr .u64 n K:=.keep (by rw[e,wrap_u64 h];exact a)
theorem Wr.is {k:IntKind} {n m:Int} {K:Int->Prop} (e:k.wrap n=m) (a:K m):Wr k n K:=.keep (by rw[e];exact a)
theorem bvn {n:Nat} (h:n<18446744073709551616):(BitVec.ofInt 64 (n:Int)).toNat=n:=by
 rw[BitVec.toNat_ofInt];omega
theorem A8w {x y:Nat} (hx:x<18446744073709551616) (hy:y<18446744073709551616):eX .or .u64 (x:Int) (y:Int)=((x ||| y:Nat):Int):=by
 have h:x ||| y<2^64:=Nat.or_lt_two_pow (by omega) (by omega)
 show IntKind.u64.wrap (((BitVec.ofInt 64 (x:Int) ||| BitVec.ofInt 64 (y:Int)).toNat:Nat):Int)=_
 rw[BitVec.toNat_or,bvn hx,bvn hy,wrap_u64 (by omega)]
theorem B5h {x y:Nat} (hx:x<18446744073709551616) (hy:y<18446744073709551616):eX .and .u64 (x:Int) (y:Int)=((x &&& y:Nat):Int):=by
 have h:x &&& y<2^64:=Nat.and_lt_two_pow _ (by omega)
 show IntKind.u64.wrap (((BitVec.ofInt 64 (x:Int) &&& BitVec.ofInt 64 (y:Int)).toNat:Nat):Int)=_
 rw[BitVec.toNat_and,bvn hx,bvn hy,wrap_u64 (by omega)]
theorem HQ {x y k:Nat} (h:x<2^k):x ||| y*2^k=x+y*2^k:=by
 rw[Nat.or_comm,C6,<-Nat.two_pow_add_eq_or_of_lt h,kK]
theorem Wr.i64 {n:Int} {K:Int->Prop} (m:Int) (e:n=m) (h: -9223372036854775808<=m/\m<9223372036854775808) (a:K m):Wr .i64 n K:=by subst e;exact .id h a
theorem wX (n k:Nat):(n:Int).tdiv (k:Int)=((n/k:Nat):Int):=(Int.ofNat_tdiv n k).symm
theorem CT (n k:Nat):(n:Int).tmod (k:Int)=((n%k:Nat):Int):=(Int.ofNat_tmod n k).symm
theorem p256 (i:Nat):256^i=2^(8*(i%8))*2^(64*(i/8)):=by
 rw[<-H2,show(256:Nat)=2^8 from rfl,<-Nat.pow_mul]
 congr 1;omega
theorem pY {l:List Nat} {i:Int} {j x:Nat} (hi:i=j) (h:l[j]? =some x):(l.map U)[0+i.toNat]? =some (U x):=by subst hi;rw[C1,B0,A8,h];rfl
theorem J6 {α:Type} {y:α} {xs zs:List α} {n:Nat} {k:List α->Prop} (h:n<xs.length) (e:xs.set n y=zs) (hk:k zs):iI xs n y k:=vK h (by rw[e];exact hk)
theorem sO {l:List Nat} {i:Int} {j:Nat} (hi:i=j) (h:j<l.length):0+i.toNat<(l.map U).length:=by subst hi;rw[C1,B0,A6];exact h
theorem sG {l l':List Nat} {i:Int} {j x:Nat} {y:Int} (hi:i=j) (hy:y=x) (h:l.set j x=l'):(l.map U).set (0+i.toNat) (D.i .u64 y)=l'.map U:=by
 subst hi;subst hy;rw[C1,B0,<-h,O7]
theorem gU {l:List Nat} {i:Int} {j x:Nat} (hi:i=j) (h:l[j]? =some x):(l.map U)[i.toNat]? =some (U x):=by subst hi;rw[B0,A8,h];rfl
theorem B2w {n i:Nat} {j:Int} (hj:j=(((be n).length-1-i:Nat):Int)) (h:i<(be n).length):(str n).data.toList[j.toNat]? =some (UInt8.ofNat (n/256^i%256)):=by
 subst hj;rw[B0];simpa[str] using A0r i n h
theorem FW {n i:Nat} {d:Nat} (hd:d=n%256^i/2^(64*(i/8))%18446744073709551616):d<2^(8*(i%8))/\d<18446744073709551616:=by
 have hp:=p256 i
 have h1:n%256^i/2^(64*(i/8))<2^(8*(i%8)):=by
  rw[O1 (G7 (by decide)),<-hp]
  exact J7 _ (G7 (by decide))
 constructor
 ·rw[hd];exact I4 (Nat.mod_le _ _) h1
 ·rw[hd];exact J7 _ (by decide)
theorem YE {k n i c d:Nat} (hk:i/8<k) (hc:c=n/256^i%256) (hd:d=n%256^i/2^(64*(i/8))%18446744073709551616):
 (H0 k (n%256^i)).set (i/8) (d+c*2^(8*(i%8)))=H0 k (n%256^(i+1)):=by
 have h1:=(FW hd).1
 have hs:d+c*2^(8*(i%8))<18446744073709551616:=by
  have hcl:c<256:=by rw[hc];exact J7 _ (by decide)
  have e:(18446744073709551616:Nat)=2^(64-8*(i%8))*2^(8*(i%8)):=by rw[<-H2,show 64-8*(i%8)+8*(i%8)=64 by omega]
  have h2:256<=2^(64-8*(i%8)):=by
   have:2^8<=2^(64-8*(i%8)):=M3 (by decide) (by omega)
   exact this
  have h3:(c+1)*2^(8*(i%8))<=2^(64-8*(i%8))*2^(8*(i%8)):=D6 _ (by omega)
  rw[e];rw[H5,V4] at h3;omega
 have h4:=nV k (n%256^i) (i/8) (c*2^(8*(i%8))) hk (by rw[<-hd];exact hs)
 rw[<-hd] at h4
 rw[h4,I2,<-p256 i,Nat.mod_pow_succ,hc,C6 (256^i)]
theorem HX (n:Nat) (h:(be n).length<2^20):T8 Tryz.prog 98 [.d (.s (str n))] 1 ((H0 (nw n) n).map U):=by
 have hs:=yU n
 have e1:(((str n).size:Int)+7).tdiv 8=((nw n:Nat):Int):=by
  rw[hs,show(((be n).length:Nat):Int)+7=(((be n).length+7:Nat):Int) by omega];exact wX _ 8
 have hnw:nw n<2^20:=by unfold nw;omega
 refine rO Tryz.func98 ?_
 repeat' ((conv=>whnf);first|refine Wr.i64 ((nw n:Nat):Int) e1 (by omega) ?_|refine sT ?_|refine sP ?_ ?_<;>intro _|fail)
 all_goals(conv=>whnf)
 have e0:List.replicate ((nw n:Nat):Int).toNat (Q9 ⟨.int .u64,1,8,[.i .u64 0]⟩)=(H0 (nw n) (n%256^0)).map U:=by
  rw[B0,aO,gF,cN,M8];rfl
 rw[e0]
 refine lO (X:=Nat) (λi=>[(12,.d (I i))]) (λi=>[(0,.row 0 1 false ((H0 (nw n) (n%256^i)).map U))]) (λi=>i<=(be n).length) (λi=>(be n).length-i) 0 sam rfl (B9 _) ?_
 intro i hi
 by_cases hlt:i<(be n).length
 ·have hj:i/8<nw n:=by unfold nw;omega
  have ej:((i:Int)).tdiv 8=((i/8:Nat):Int):=wX i 8
  have em:((i:Int)).tmod 8=((i%8:Nat):Int):=CT i 8
  obtain⟨d,hd⟩:∃d,d=n%256^i/2^(64*(i/8))%18446744073709551616:=⟨_,rfl⟩
  obtain⟨c,hc⟩:∃c,c=n/256^i%256:=⟨_,rfl⟩
  have hg:=P5 (nw n) (n%256^i) (i/8) hj
  rw[<-hd] at hg
  have hcl:c<256:=by rw[hc];exact J7 _ (by decide)
  have hb:=B2w (n:=n) (i:=i) (j:=((str n).size:Int)-1-(i:Int)) (by omega) hlt
  rw[<-hc] at hb
  have hst:=FW hd
  have hnx:=YE hj hc hd
  have uc:((UInt8.ofNat c).toNat:Int)=((c:Nat):Int):=by rw[mX];omega
  obtain⟨y,hy⟩:∃y,y=c*2^(8*(i%8)):=⟨_,rfl⟩
  have hyl:y<18446744073709551616:=by
   have h2:2^(8*(i%8))<=2^56:=M3 (by decide) (by omega)
   have h3:c*2^(8*(i%8))<=255*2^56:=G6 (by omega) h2
   omega
  have esh:((c:Nat):Int)*2^(min (8*((i%8:Nat):Int)).toNat (IntKind.bits .u64))=((y:Nat):Int):=by
   rw[hy,show(min (8*((i%8:Nat):Int)).toNat (IntKind.bits .u64))=8*(i%8) from by show min _ 64=_;omega]
   rw[Q5,P1];rfl
  have eor:eX .or .u64 ((d:Nat):Int) ((y:Nat):Int)=((d+y:Nat):Int):=by rw[A8w hst.2 hyl,hy,HQ hst.1]
  rw[<-hy] at hnx
  have q1:=sO (l:=H0 (nw n) (n%256^i)) (i:=((i/8:Nat):Int)) rfl (by rw[G9];exact hj)
  have q2:=sG (i:=((i/8:Nat):Int)) rfl eor hnx
  repeat' ((conv=>whnf);first|refine Wr.u64 ((c:Nat):Int) uc (by omega) ?_|refine Wr.u64 ((y:Nat):Int) esh (by omega) ?_|refine Wr.i64 ((i/8:Nat):Int) ej (by omega) ?_|refine Wr.i64 ((i%8:Nat):Int) em (by omega) ?_|refine sT ?_|refine sP ?_ ?_<;>intro _|refine A9 (pY rfl hg) ?_|refine A9 hb ?_|refine J6 q1 q2 ?_|fail)
  all_goals((conv=>whnf);try exact xO)
  exact⟨i+1,wE,hlt,by show(be n).length-(i+1)<(be n).length-i;omega⟩
 ·have hie:i=(be n).length:=by omega
  subst hie
  have e9:n%256^(be n).length=n:=M0 (B1t n)
  rw[e9]
  repeat' ((conv=>whnf);first|refine sT ?_|refine sP ?_ ?_<;>intro _|fail)
  all_goals((conv=>whnf);try exact xO)
  exact Chk.mk ⟨rfl,by rw[A6,G9,B0];omega⟩ (Nam.mk (y:=(H0 (nw n) n).map U) (by rw[B0];exact whole (by rw[A6,G9])) rfl)
def bU (c:UInt8):D:=.i .u8 (c.toNat:Int)
theorem OL:∀l:List UInt8,uT (l.map bU)=some l
 |[]=>rfl
 |x::l=>by
  show(match uT (l.map bU) with|some r=>some (UInt8.ofNat (x.toNat:Int).toNat::r)|none=>none)=some (x::l)
  rw[OL l]
  simp
structure XT where
 j:Nat
 v:Nat
theorem B4n {k n i:Nat} (hi:i<8*k):n/2^(64*(i/8))%18446744073709551616/2^(8*(i%8))%256=n/256^i%256:=by
 have e:(18446744073709551616:Nat)=2^(8*(i%8))*2^(64-8*(i%8)):=by rw[<-H2,show 8*(i%8)+(64-8*(i%8))=64 by omega]
 rw[e,xJ,F4,C6 (2^(64*(i/8))),<-p256 i]
 have e2:2^(64-8*(i%8))=256*2^(56-8*(i%8)):=by rw[show(256:Nat)=2^8 from rfl,<-H2];congr 1;omega
 rw[e2,qR]
theorem Q7 (k n:Nat) (hk:k<2^20) (h:n<2^(64*k)) (f:Bool):C9 Tryz.prog 94 [.d (.sl 1 f ((H0 k n).map U))] (E5 [.s (str n)]):=by
 have hl:=G9 k n
 refine pU Tryz.func94 ?_
 repeat' ((conv=>whnf);first|refine sT ?_|refine sP ?_ ?_<;>intro _|refine Nam.mk (A6 _) ?_|fail)
 all_goals(conv=>whnf)
 rw[hl]
 have h8:n/256^(8*k)=0:=I9 (by rw[show(256:Nat)=2^8 from rfl,<-Nat.pow_mul,<-I2];exact h)
 refine lO (X:=XT) (λx=>[(4,.d (I ((x.j:Int)-1))),(3,.sref 0 x.v 0 (be (n/256^x.j)).length false)]) (λx=>[(0,.row x.v 1 false ((be (n/256^x.j)).map bU))]) (λx=>x.j<=8*k) (λx=>x.j) ⟨8*k,0⟩ (by
  dsimp only
  rw[h8,dZ,show(((8*k:Nat):Int)-1)=8*(k:Int)-1 by omega]
  exact sam) (by dsimp only;rw[h8,dZ];rfl) (B1 _) ?_
 rintro⟨j,v⟩ hj
 dsimp only at hj
 dsimp only
 by_cases hlt:0<j
 ·obtain⟨i,rfl⟩:∃i,j=i+1:=⟨j-1,by omega⟩
  rw[show(((i+1:Nat):Int)-1)=(i:Int) by omega]
  have ej:((i:Int)).tdiv 8=((i/8:Nat):Int):=wX i 8
  have em:((i:Int)).tmod 8=((i%8:Nat):Int):=CT i 8
  have hg:=P5 k n (i/8) (by omega)
  obtain⟨d,hd⟩:∃d,d=n/2^(64*(i/8))%18446744073709551616:=⟨_,rfl⟩
  rw[<-hd] at hg
  obtain⟨c,hc⟩:∃c,c=n/256^i%256:=⟨_,rfl⟩
  have hcl:c<256:=by rw[hc];exact J7 _ (by decide)
  have hcd:d/2^(8*(i%8))%256=c:=by rw[hd,hc];exact B4n (k:=k) (by omega)
  have esh:((d:Nat):Int).fdiv (2^min (8*(i:Int).tmod 8).toNat (IntKind.bits .u64))=((d/2^(8*(i%8)):Nat):Int):=by
   rw[em,show(min (8*((i%8:Nat):Int)).toNat (IntKind.bits .u64))=8*(i%8) from by show min _ 64=_;omega,R7 _ (gR (PA (by decide)))]
   rw[fH,P1];rfl
  have ewr:IntKind.u8.wrap (((d:Nat):Int).fdiv (2^min (8*(i:Int).tmod 8).toNat (IntKind.bits .u64)))=((c:Nat):Int):=by
   rw[esh,<-hcd];simp[IntKind.wrap,IntKind.bits,IntKind.signed]
  have hbe:256*(n/256^(i+1))+c=n/256^i:=by
   rw[U8,<-F4,hc];omega
  obtain⟨N,hN⟩:∃N,N=n/256^(i+1):=⟨_,rfl⟩
  rw[<-hN] at hbe ⊢
  have hlN:(be N).length<2^25:=by
   have:N<256^(8*k):=by
    have h2:N<=n:=by rw[hN];exact N5 _ _
    refine I4 h2 ?_
    rw[show(256:Nat)=2^8 from rfl,<-Nat.pow_mul,<-I2];exact h
   have:=OO this
   omega
  by_cases hz:c=0/\(be N).length=0
  ·obtain⟨hz1,hz2⟩:=hz
   have hN0:N=0:=by
    rcases H3 N with h0|h0
    ·exact h0
    ·have:=eZ h0;omega
   have hnx:n/256^i=N:=by omega
   repeat' ((conv=>whnf);first|refine Wr.i64 ((i/8:Nat):Int) ej (by omega) ?_|refine Wr.is ewr ?_|refine sT ?_|refine sP ?_ ?_<;>intro _|refine A9 (gU rfl hg) ?_|fail)
   all_goals((conv=>whnf);try exact xO)
   all_goals exact⟨⟨i,v⟩,by dsimp only;rw[hnx];exact wE,by show i<=8*k;omega,by show i<i+1;omega⟩
  ·repeat' ((conv=>whnf);first|refine Wr.i64 ((i/8:Nat):Int) ej (by omega) ?_|refine Wr.is ewr ?_|refine sT ?_|refine sP ?_ ?_<;>intro _|refine A9 (gU rfl hg) ?_|fail)
   all_goals((conv=>whnf);try exact xO)
   all_goals
    refine⟨⟨i,v+1⟩,?_,by show i<=8*k;omega,by show i<i+1;omega⟩
    dsimp only
    rw[<-hbe,B4q N c hcl (by
     rcases H3 N with h0|h0
     ·subst h0;rw[dZ] at hz;simp at hz;omega
     ·exact .inl h0),B4,D2]
    exact Wm.end sam (by
     have uc:((UInt8.ofNat c).toNat:Int)=((c:Nat):Int):=by rw[mX];omega
     simp[bU,X1,J3];omega) rfl rfl
 ·have hj0:j=0:=by omega
  subst hj0
  rw[aO,sS]
  repeat' ((conv=>whnf);first|refine Nam.mk (OL _) ?_|refine Nam.mk (y:=(be n).map bU) (whole (A6 _).symm) ?_|refine sT ?_|refine sP ?_ ?_<;>intro _|fail)
  all_goals((conv=>whnf);try exact xO)
  exact DLe.refl _
end Go.PM
namespace Go.PM
open Go.Proofs Go.Shelf Go.RowKit Go.Lib Go.Sort
variable [CN]
variable {P:Program} {ρ:Ren}
theorem QO {w:World} {S:Stb} {h:Hp} {β:Bet} {k:IntKind} {n:Int} {argv:Array Value} (hv:VRs w S h β [.d (.i k n)] argv):argv= #[.int k n]:=by
 obtain⟨h1,h2⟩:=hv
 have hs:argv.size=1:=h1
 have:=h2 0 _ argv[0] rfl (B7 _)
 apply Array.ext
 ·simp[hs]
 ·intro i hi hj
  have hi0:i=0:=by omega
  subst hi0
  generalize argv[0]=a at this
  cases this with
  |d hd=>cases hd;rfl
end Go.PM
namespace Go.PM
open Go.Proofs Go.Shelf Go.RowKit Go.Lib
variable [CN]
variable {P:Program} {ρ:Ren}
theorem B2r {w:World} {S:Stb} {h:Hp} {β:Bet} {k:IntKind} {m n:Int} {argv:Array Value} (hv:VRs w S h β [.d (.i k m),.d (.i k n)] argv):argv= #[.int k m,.int k n]:=by
 obtain⟨h1,h2⟩:=hv
 have hs:argv.size=2:=h1
 have r0:=h2 0 _ argv[0] rfl (B7 _)
 have r1:=h2 1 _ argv[1] rfl (B7 _)
 apply Array.ext
 ·simp[hs]
 ·intro i hi hj
  match i,hj with
  |0,_=>
   generalize argv[0]=a at r0
   cases r0 with
   |d hd=>cases hd;rfl
  |1,_=>
   generalize argv[1]=a at r1
   cases r1 with
   |d hd=>cases hd;rfl
theorem MG {w:World} {S:Stb} {h:Hp} {β:Bet} {k:IntKind} {l m n:Int} {argv:Array Value} (hv:VRs w S h β [.d (.i k l),.d (.i k m),.d (.i k n)] argv):argv= #[.int k l,.int k m,.int k n]:=by
 obtain⟨h1,h2⟩:=hv
 have hs:argv.size=3:=h1
 have r0:=h2 0 _ argv[0] rfl (B7 _)
 have r1:=h2 1 _ argv[1] rfl (B7 _)
 have r2:=h2 2 _ argv[2] rfl (B7 _)
 apply Array.ext
 ·simp[hs]
 ·intro i hi hj
  match i,hj with
  |0,_=>
   generalize argv[0]=a at r0
   cases r0 with
   |d hd=>cases hd;rfl
  |1,_=>
   generalize argv[1]=a at r1
   cases r1 with
   |d hd=>cases hd;rfl
  |2,_=>
   generalize argv[2]=a at r2
   cases r2 with
   |d hd=>cases hd;rfl
abbrev uD (n:Nat):D:=.i .u64 (n:Int)
theorem HM {w:World} {S:Stb} {h:Hp} {β:Bet} (a b:Nat):VR w S h β (.tup [.d (uD a),.d (uD b)]) (.tuple #[.int .u64 a,.int .u64 b]):=by
 refine .tup _ _ rfl λj c u hj hu=> ?_
 match j,hj,hu with
 |0,hj,hu=>simp at hj hu;subst hj;subst hu;exact .d (.i _ _)
 |1,hj,hu=>simp at hj hu;subst hj;subst hu;exact .d (.i _ _)
theorem ZN (L:Lays7.n25 P ρ) (x y c:Nat) (hc:c<=1):C9 P (ρ.f 25) [.d (uD x),.d (uD y),.d (uD c)] (.tup [.d (uD ((x+y+c)%18446744073709551616)),.d (uD ((x+y+c)/18446744073709551616))]):=λw S h β argv hr hv=>by
 obtain rfl:=MG hv
 exact .inr ⟨_,w,Any7.bits_Add64 L x y c hc w,S,β,hr,HM _ _,F7.refl _ _ _ _⟩
theorem ZK (L:Lays7.n26 P ρ) (x y b:Nat) (hb:b<=1):C9 P (ρ.f 26) [.d (uD x),.d (uD y),.d (uD b)] (.tup [.d (uD ((x+18446744073709551616-y-b)%18446744073709551616)),.d (uD (if x<y+b then 1 else 0))]):=λw S h β argv hr hv=>by
 obtain rfl:=MG hv
 exact .inr ⟨_,w,Any7.bits_Sub64 L x y b hb w,S,β,hr,HM _ _,F7.refl _ _ _ _⟩
theorem ZL (L:Lays.n264 P ρ) (x y:Nat) (hx:x<18446744073709551616) (hy:y<18446744073709551616):C9 P (ρ.f 264) [.d (uD x),.d (uD y)] (.tup [.d (uD (x*y/18446744073709551616)),.d (uD (x*y%18446744073709551616))]):=λw S h β argv hr hv=>by
 obtain rfl:=B2r hv
 refine .inl ⟨enters_of L.f264 (by kernel_rfl) rfl _ _,(Any.bits_Mul64 L x y hx hy w).mono ?_⟩
 rintro e w' ⟨rfl,rfl⟩
 exact⟨_,rfl,S,β,hr,HM _ _,F7.refl _ _ _ _⟩
theorem ZM (L:Lays.n129 P ρ) (x:Nat) (hx:x<18446744073709551616):C9 P (ρ.f 129) [.d (uD x)] (.d (.i .i64 (Lib.bitLen x))):=λw S h β argv hr hv=>by
 obtain rfl:=QO hv
 refine .inl ⟨enters_of L.f129 (by kernel_rfl) rfl _ _,(Any.bits_Len64 L (x:Int) w (by omega) (by omega)).mono ?_⟩
 rintro e w' ⟨rfl,rfl⟩
 exact⟨_,rfl,S,β,hr,.d (.i _ _),F7.refl _ _ _ _⟩
theorem wR (L:Lays.n134 P ρ) (x:Nat) (hx:x<18446744073709551616):C9 P (ρ.f 134) [.d (uD x)] (.d (.i .i64 (64-(Lib.bitLen x:Int)))):=λw S h β argv hr hv=>by
 obtain rfl:=QO hv
 refine .inl ⟨enters_of L.f134 (by kernel_rfl) rfl _ _,(Any.bits_LeadingZeros64 L (x:Int) w (by omega) (by omega)).mono ?_⟩
 rintro e w' ⟨rfl,rfl⟩
 exact⟨_,rfl,S,β,hr,.d (.i _ _),F7.refl _ _ _ _⟩
theorem uF (L:Lays7.n29 P ρ) {g:Nat} (hg:ρ.g 1=g) (hm:(g,Lib.deBruijn64tab.map λn:Nat=>D.i .u8 (n:Int))∈CN.cells) (x:Nat) (hx:x<18446744073709551616):C9 P (ρ.f 29) [.d (uD x)] (.d (.i .i64 (Lib.ctz 64 x))):=λw S h β argv hr hv=>by
 obtain rfl:=QO hv
 refine .inl ⟨enters_of L.f29 (by kernel_rfl) rfl _ _,(Any7.bits_TrailingZeros64 L x hx w (λ_ j hj=> ?_)).mono ?_⟩
 ·have hj':(Lib.deBruijn64tab.map λn:Nat=>D.i .u8 (n:Int))[j]? =some (.i .u8 ((Lib.deBruijn64tab.getD j 0:Nat):Int)):=by
   rw[A8,A3 hj];simp[A5,A3 hj]
  obtain⟨_,u,h3,h4,_⟩:=hr.glob.cells _ hm j _ hj'
  rw[hg]
  cases h4
  exact h3
 ·rintro e w' ⟨rfl,rfl⟩
  exact⟨_,rfl,S,β,hr,.d (.i _ _),F7.refl _ _ _ _⟩
end Go.PM
namespace Go.Proofs
open Go.Shelf
def Tryz.layAdd64_ren:Go.Shelf.Ren:=⟨fun|25=>137|n=>n,fun|22=>154|n=>n,fun|n=>n⟩
theorem Tryz.layAdd64:Go.Proofs.Lays7.n25 Tryz.prog Tryz.layAdd64_ren:={
 mixed:=by kernel_rfl
 f25:=Tryz.func137.trans (congrArg some (by kernel_rfl))
 t22:=Tryz.underlying154
 a22:=Tryz.isAgg154
 z22:=Tryz.sizeOf154
 v22:=Tryz.zeroValue154
 i22:=by kernel_rfl}
def Tryz.laySub64_ren:Go.Shelf.Ren:=⟨fun|26=>177|n=>n,fun|22=>154|n=>n,fun|n=>n⟩
theorem Tryz.laySub64:Go.Proofs.Lays7.n26 Tryz.prog Tryz.laySub64_ren:={
 mixed:=by kernel_rfl
 f26:=Tryz.func177.trans (congrArg some (by kernel_rfl))
 t22:=Tryz.underlying154
 a22:=Tryz.isAgg154
 z22:=Tryz.sizeOf154
 v22:=Tryz.zeroValue154
 i22:=by kernel_rfl}
def Tryz.layTz64_ren:Go.Shelf.Ren:=⟨fun|29=>174|n=>n,fun|22=>154|3=>3|4=>4|25=>200|54=>257|0=>0|5=>5|n=>n,fun|1=>2|n=>n⟩
theorem Tryz.layTz64:Go.Proofs.Lays7.n29 Tryz.prog Tryz.layTz64_ren:={
 mixed:=by kernel_rfl
 f29:=Tryz.func174.trans (congrArg some (by kernel_rfl))
 t0:=Tryz.underlying0
 a0:=Tryz.isAgg0
 z0:=Tryz.sizeOf0
 v0:=Tryz.zeroValue0
 i0:=by kernel_rfl
 t3:=Tryz.underlying3
 a3:=Tryz.isAgg3
 z3:=Tryz.sizeOf3
 v3:=Tryz.zeroValue3
 i3:=by kernel_rfl
 t4:=Tryz.underlying4
 a4:=Tryz.isAgg4
 z4:=Tryz.sizeOf4
 v4:=Tryz.zeroValue4
 i4:=by kernel_rfl
 t5:=Tryz.underlying5
 a5:=Tryz.isAgg5
 z5:=Tryz.sizeOf5
 v5:=Tryz.zeroValue5
 i5:=by kernel_rfl
 t22:=Tryz.underlying154
 a22:=Tryz.isAgg154
 z22:=Tryz.sizeOf154
 v22:=Tryz.zeroValue154
 i22:=by kernel_rfl
 t25:=Tryz.underlying200
 a25:=Tryz.isAgg200
 z25:=Tryz.sizeOf200
 v25:=Tryz.zeroValue200
 i25:=by kernel_rfl
 t54:=Tryz.underlying257
 a54:=Tryz.isAgg257
 z54:=Tryz.sizeOf257
 g1:=by kernel_rfl}
def Tryz.layMul64_ren:Go.Shelf.Ren:=⟨fun|264=>178|n=>n,fun|53=>154|46=>200|n=>n,fun|n=>n⟩
theorem Tryz.layMul64:Go.Proofs.Lays.n264 Tryz.prog Tryz.layMul64_ren:={
 mixed:=by kernel_rfl
 f264:=Tryz.func178.trans (congrArg some (by kernel_rfl))
 t46:=Tryz.underlying200
 a46:=Tryz.isAgg200
 z46:=Tryz.sizeOf200
 v46:=Tryz.zeroValue200
 t53:=Tryz.underlying154
 a53:=Tryz.isAgg154
 z53:=Tryz.sizeOf154
 v53:=Tryz.zeroValue154}
def Tryz.layLen64_ren:Go.Shelf.Ren:=⟨fun|129=>180|n=>n,fun|53=>154|3=>3|4=>4|46=>200|5=>5|9=>9|n=>n,fun|n=>n⟩
theorem Tryz.layLen64:Go.Proofs.Lays.n129 Tryz.prog Tryz.layLen64_ren:={
 mixed:=by kernel_rfl
 f129:=Tryz.func180.trans (congrArg some (by kernel_rfl))
 t3:=Tryz.underlying3
 a3:=Tryz.isAgg3
 z3:=Tryz.sizeOf3
 v3:=Tryz.zeroValue3
 t4:=Tryz.underlying4
 a4:=Tryz.isAgg4
 z4:=Tryz.sizeOf4
 v4:=Tryz.zeroValue4
 t5:=Tryz.underlying5
 a5:=Tryz.isAgg5
 z5:=Tryz.sizeOf5
 v5:=Tryz.zeroValue5
 t9:=Tryz.underlying9
 a9:=Tryz.isAgg9
 z9:=Tryz.sizeOf9
 v9:=Tryz.zeroValue9
 t46:=Tryz.underlying200
 a46:=Tryz.isAgg200
 z46:=Tryz.sizeOf200
 v46:=Tryz.zeroValue200
 t53:=Tryz.underlying154
 a53:=Tryz.isAgg154
 z53:=Tryz.sizeOf154
 v53:=Tryz.zeroValue154}
def Tryz.layLz64_ren:Go.Shelf.Ren:=⟨fun|134=>179|129=>180|n=>n,fun|53=>154|3=>3|4=>4|46=>200|5=>5|9=>9|n=>n,fun|n=>n⟩
theorem Tryz.layLz64:Go.Proofs.Lays.n134 Tryz.prog Tryz.layLz64_ren:={
 mixed:=by kernel_rfl
 f129:=Tryz.func180.trans (congrArg some (by kernel_rfl))
 f134:=Tryz.func179.trans (congrArg some (by kernel_rfl))
 t3:=Tryz.underlying3
 a3:=Tryz.isAgg3
 z3:=Tryz.sizeOf3
 v3:=Tryz.zeroValue3
 t4:=Tryz.underlying4
 a4:=Tryz.isAgg4
 z4:=Tryz.sizeOf4
 v4:=Tryz.zeroValue4
 t5:=Tryz.underlying5
 a5:=Tryz.isAgg5
 z5:=Tryz.sizeOf5
 v5:=Tryz.zeroValue5
 t9:=Tryz.underlying9
 a9:=Tryz.isAgg9
 z9:=Tryz.sizeOf9
 v9:=Tryz.zeroValue9
 t46:=Tryz.underlying200
 a46:=Tryz.isAgg200
 z46:=Tryz.sizeOf200
 v46:=Tryz.zeroValue200
 t53:=Tryz.underlying154
 a53:=Tryz.isAgg154
 z53:=Tryz.sizeOf154
 v53:=Tryz.zeroValue154}
end Go.Proofs
namespace Go.PM
open Go.Proofs
set_option maxRecDepth 10000
theorem bits_Add64 (x y c:Nat) (hc:c<=1):C9 Tryz.prog 137 [.d (uD x),.d (uD y),.d (uD c)] (E5 [uD ((x+y+c)%18446744073709551616),uD ((x+y+c)/18446744073709551616)]):=ZN Tryz.layAdd64 x y c hc
theorem bits_Sub64 (x y b:Nat) (hb:b<=1):C9 Tryz.prog 177 [.d (uD x),.d (uD y),.d (uD b)] (E5 [uD ((x+18446744073709551616-y-b)%18446744073709551616),uD (if x<y+b then 1 else 0)]):=ZK Tryz.laySub64 x y b hb
theorem bits_Mul64 (x y:Nat) (hx:x<18446744073709551616) (hy:y<18446744073709551616):C9 Tryz.prog 178 [.d (uD x),.d (uD y)] (E5 [uD (x*y/18446744073709551616),uD (x*y%18446744073709551616)]):=ZL Tryz.layMul64 x y hx hy
theorem bits_Len64 (x:Nat) (hx:x<18446744073709551616):C9 Tryz.prog 180 [.d (uD x)] (E5 [I (Go.Lib.bitLen x)]):=ZM Tryz.layLen64 x hx
theorem bits_LeadingZeros64 (x:Nat) (hx:x<18446744073709551616):C9 Tryz.prog 179 [.d (uD x)] (E5 [I (64-(Go.Lib.bitLen x:Int))]):=wR Tryz.layLz64 x hx
theorem bits_TrailingZeros64 (x:Nat) (hx:x<18446744073709551616):C9 Tryz.prog 174 [.d (uD x)] (E5 [I (Go.Lib.ctz 64 x)]):=uF Tryz.layTz64 (g:=2) rfl List.mem_cons_self x hx
end Go.PM
namespace Go.PM
open Go.Proofs
abbrev sD (n:Nat):D:=.s (str n)
theorem A7j {n:Nat} {c:UInt8} (h:(str n).data.toList[(0:Int).toNat]? =some c):¬((c.toNat:Int)=0):=by
 have h1:(be n)[0]? =some c:=by simpa[str] using h
 have h2:=B4r h1
 intro h3
 apply h2
 apply UInt8.toNat_inj.1
 simpa using h3
theorem uC (l:List Nat) (hl:l.length<100) (h:∀n∈l,(be n).length<=256) (f:Bool):C9 Tryz.prog 95 [.d (.sl 1 f (l.map sD))] (E5 [I 0]):=by
 refine pU Tryz.func95 ?_
 repeat' ((conv=>whnf);first|refine sT ?_|refine sP ?_ ?_<;>intro _|fail)
 all_goals(conv=>whnf)
 refine lO (X:=Nat) (λi=>[(9,.d (I i))]) (λ_=>[]) (λi=>i<=l.length) (λi=>l.length-i) 0 sam rfl (B9 _) ?_
 intro i hi
 by_cases hlt:i<l.length
 ·obtain⟨n,hn,_⟩:=dI hlt
  have hs:=yU n
  by_cases h0:0<(be n).length
  ·obtain⟨c,hc⟩:∃c,(str n).data.toList[(0:Int).toNat]? =some c:=⟨_,A3 (by simpa[str] using h0)⟩
   have hcn:=A7j hc
   repeat' ((conv=>whnf);first|refine sT ?_|refine sP ?_ ?_<;>intro _|refine A9 (D4 (f:=sD) hn) ?_|refine A9 hc ?_|fail)
   all_goals(conv=>whnf)
   all_goals first|(exfalso;omega)|exact⟨i+1,wE,hlt,by show l.length-(i+1)<l.length-i;omega⟩
  ·repeat' ((conv=>whnf);first|refine sT ?_|refine sP ?_ ?_<;>intro _|refine A9 (D4 (f:=sD) hn) ?_|fail)
   all_goals(conv=>whnf)
   all_goals first|(exfalso;omega)|exact⟨i+1,wE,hlt,by show l.length-(i+1)<l.length-i;omega⟩
 ·repeat' ((conv=>whnf);first|refine sT ?_|refine sP ?_ ?_<;>intro _|fail)
  all_goals((conv=>whnf);try exact xO)
  refine lO (X:=Nat) (λi=>[(24,.d (I i))]) (λ_=>[]) (λi=>i<=l.length) (λi=>l.length-i) 0 sam rfl (B9 _) ?_
  intro j hj
  by_cases hjl:j<l.length
  ·obtain⟨n,hn,_⟩:=dI hjl
   have hs:=yU n
   have hb:=h n (A7 hn)
   repeat' ((conv=>whnf);first|refine sT ?_|refine sP ?_ ?_<;>intro _|refine A9 (D4 (f:=sD) hn) ?_|fail)
   all_goals(conv=>whnf)
   all_goals first|(exfalso;omega)|exact⟨j+1,wE,hjl,by show l.length-(j+1)<l.length-j;omega⟩
  ·repeat' ((conv=>whnf);first|refine sT ?_|refine sP ?_ ?_<;>intro _|fail)
   all_goals exact fI
theorem uB (k n:Nat) (hk:k<2^20) (h:n<2^(64*k)) (hn:(be n).length<=256) (f:Bool):C9 Tryz.prog 96 [.d (.sl 1 f ((H0 k n).map U))] (E5 [.s (str n),I 0]):=by
 have hT:=Q7 k n hk h f
 have hs:=yU n
 refine pU Tryz.func96 ?_
 repeat' ((conv=>whnf);first|refine sT ?_|refine sP ?_ ?_<;>intro _|refine cA hT ?_|fail)
 all_goals exact fI
theorem DC (n:Nat) (hn:n<9223372036854775808):C9 Tryz.prog 57 [.d (I n)] (E5 [.s (str n),I 0]):=by
 have hT:=Q7 1 n (by decide) (by omega) true
 rw[show H0 1 n=[n] from by rw[H0,H0];congr 1;omega] at hT
 refine pU Tryz.func57 ?_
 repeat' ((conv=>whnf);first|refine Wr.u64 ((n:Nat):Int) rfl (by omega) ?_|refine sT ?_|refine sP ?_ ?_<;>intro _|refine cA hT ?_|fail)
 all_goals exact fI
theorem A0m (x:Nat):C9 Tryz.prog 207 [.d (U x)] (E5 [.b false]):=by
 refine pU Tryz.func207 ?_
 repeat' ((conv=>whnf);first|refine sT ?_|refine sP ?_ ?_<;>intro _)
 all_goals(conv=>whnf)
 exact DLe.refl _
theorem RW (x y:Nat):C9 Tryz.prog 176 [.d (U x),.d (U y)] (E5 [I (WU x y)]):=by
 refine pU Tryz.func176 ?_
 repeat' ((conv=>whnf);first|refine sT ?_|refine sP ?_ ?_<;>intro _|refine E6.of (A0m _) ?_)
 all_goals(conv=>whnf)
 all_goals(simp only[WU];simp only[*,if_true,if_false];exact DLe.refl _)
theorem B0x {k n i:Nat} (h:n<2^(64*k)) (hi:k<=i):n/2^(64*i)=0:=I9 (D3 h (M3 (by decide) (by omega)))
abbrev dg (n i:Nat):Nat:=n/2^(64*i)%18446744073709551616
theorem dJ (k n i:Nat) (h:n<2^(64*k)) (f:Bool):C9 Tryz.prog 138 [.d (.sl 1 f ((H0 k n).map U)),.d (I i)] (E5 [U (dg n i)]):=by
 have hl:=G9 k n
 refine pU Tryz.func138 ?_
 by_cases hi:i<k
 ·have hg:=gU (i:=(i:Int)) rfl (P5 k n i hi)
  repeat' ((conv=>whnf);first|refine sT ?_|refine sP ?_ ?_<;>intro _|refine A9 hg ?_|fail)
  all_goals exact fI
 ·have h0:=B0x h (show k<=i by omega)
  repeat' ((conv=>whnf);first|refine sT ?_|refine sP ?_ ?_<;>intro _|fail)
  all_goals(conv=>whnf)
  all_goals first|(exfalso;omega)|(unfold dg;rw[h0];exact DLe.refl _)
theorem A4j {a b i c:Nat} (hc:c=(a%2^(64*i)+b%2^(64*i))/2^(64*i)):
 (dg a i+dg b i+c)/18446744073709551616=(a%2^(64*(i+1))+b%2^(64*(i+1)))/2^(64*(i+1))/\c<=1/\
 (a+b)%2^(64*i)+(dg a i+dg b i+c)%18446744073709551616*2^(64*i)=(a+b)%2^(64*(i+1)):=by
 have hp:0<2^(64*i):=G7 (by decide)
 have e1:a%2^(64*(i+1))=a%2^(64*i)+2^(64*i)*dg a i:=by
  rw[p64,C6,eC]
 have e2:b%2^(64*(i+1))=b%2^(64*i)+2^(64*i)*dg b i:=by
  rw[p64,C6,eC]
 have e3:(a+b)%2^(64*(i+1))=(a+b)%2^(64*i)+2^(64*i)*((a+b)/2^(64*i)%18446744073709551616):=by
  rw[p64,C6,eC]
 rw[e1,e2,e3,p64]
 generalize hP:2^(64*i)=P at*
 have d1:=O2 a P
 have d2:=O2 b P
 have ha:dg a i=a/P%18446744073709551616:=by unfold dg;rw[hP]
 have hb:dg b i=b/P%18446744073709551616:=by unfold dg;rw[hP]
 have s1:(a+b)/P=a/P+b/P+c:=by
  rw[hc]
  have:a+b=(a%P+b%P)+P*(a/P+b/P):=by rw[R2];omega
  conv=>lhs;rw[this]
  rw[S7 _ _ hp];omega
 have hc1:c<=1:=by
  have h1:=J7 a hp
  have h2:=J7 b hp
  rw[hc]
  have:(a%P+b%P)/P<2:=by rw[O1 hp];omega
  omega
 refine⟨?_,hc1,?_⟩
 ·rw[C6 18446744073709551616 P,<-F4]
  have:a%P+P*dg a i+(b%P+P*dg b i)=(a%P+b%P)+P*(dg a i+dg b i):=by rw[R2];omega
  rw[this,S7 _ _ hp,<-hc]
  congr 1;omega
 ·rw[s1,C6 P,ha,hb]
  congr 2
  omega
theorem qH (n i:Nat):dg n i<18446744073709551616:=J7 _ (by decide)
theorem QC {L n i x:Nat} (hi:i<L) (hn:n<2^(64*i)) (hx:x<18446744073709551616):(H0 L n).set i x=H0 L (n+x*2^(64*i)):=by
 have h0:n/2^(64*i)=0:=I9 hn
 have:=nV L n i x hi (by rw[h0];simpa using hx)
 rw[h0] at this
 simpa using this
structure XC where
 i:Nat
 c:Nat
theorem LN (k m a b:Nat) (hk:k<2^20) (hm:m<2^20) (ha:a<2^(64*k)) (hb:b<2^(64*m)) (f g:Bool):T8 Tryz.prog 97 [.d (.sl 1 f ((H0 k a).map U)),.d (.sl 1 g ((H0 m b).map U))] 1 ((H0 (max k m+1) (a+b)).map U):=by
 have l1:=G9 k a
 have l2:=G9 m b
 have emx:(if(((H0 m b).length:Nat):Int)>(((H0 k a).length:Nat):Int) then(((H0 m b).length:Nat):Int) else(((H0 k a).length:Nat):Int))+1=((max k m+1:Nat):Int):=by
  rw[l1,l2];split<;>omega
 refine rO Tryz.func97 ?_
 repeat' ((conv=>whnf);first|refine Wr.i64 ((max k m+1:Nat):Int) emx (by omega) ?_|refine sT ?_|refine sP ?_ ?_<;>intro _|fail)
 all_goals(conv=>whnf)
 obtain⟨L,hL⟩:∃L,L=max k m+1:=⟨_,rfl⟩
 have hLl:L<2^21:=by omega
 rw[<-hL]
 have e0:List.replicate ((L:Nat):Int).toNat (Q9 ⟨.int .u64,1,8,[.i .u64 0]⟩)=(H0 L ((a+b)%2^(64*0))).map U:=by
  rw[B0,oW,aO,gF,cN,M8];rfl
 rw[e0]
 refine lO (X:=XC) (λx=>[(17,.d (I x.i)),(6,.d (U x.c))]) (λx=>[(0,.row 0 1 false ((H0 L ((a+b)%2^(64*x.i))).map U))]) (λx=>x.i<=L/\x.c=(a%2^(64*x.i)+b%2^(64*x.i))/2^(64*x.i)) (λx=>L-x.i) ⟨0,0⟩ sam rfl ⟨B9 _,by simp[gF]⟩ ?_
 rintro⟨i,c⟩ ⟨hi,hc⟩
 dsimp only at hi hc
 dsimp only
 have hLt:((L:Nat):Int).toNat=L:=B0 L
 by_cases hlt:i<L
 ·obtain⟨n1,n2,n3⟩:=A4j hc
  have w1:=dJ k a i ha f
  have w2:=dJ m b i hb g
  have hA:=bits_Add64 (dg a i) (dg b i) c n2
  have J3:(H0 L ((a+b)%2^(64*i))).set i ((dg a i+dg b i+c)%18446744073709551616)=H0 L ((a+b)%2^(64*(i+1))):=by
   rw[QC hlt (J7 _ (G7 (by decide))) (J7 _ (by decide)),n3]
  have q1:=sO (l:=H0 L ((a+b)%2^(64*i))) (i:=(i:Int)) rfl (by rw[G9];exact hlt)
  have q2:=sG (i:=(i:Int)) rfl rfl J3
  have hg:=pY (i:=(i:Int)) rfl (P5 L ((a+b)%2^(64*i)) i hlt)
  repeat' ((conv=>whnf);first|refine sT ?_|refine sP ?_ ?_<;>intro _|refine cA w1 ?_|refine cA w2 ?_|refine cA hA ?_|refine A9 hg ?_|refine J6 q1 q2 ?_|fail)
  all_goals((conv=>whnf);try exact xO)
  exact⟨⟨i+1,(dg a i+dg b i+c)/18446744073709551616⟩,wE,⟨hlt,n1⟩,by show L-(i+1)<L-i;omega⟩
 ·have hie:i=L:=by omega
  subst hie
  have hab:(a+b)%2^(64*i)=a+b:=by
   refine M0 ?_
   have h1:2^(64*k)<=2^(64*max k m):=M3 (by decide) (by omega)
   have h2:2^(64*m)<=2^(64*max k m):=M3 (by decide) (by omega)
   rw[hL,p64];omega
  rw[hab]
  repeat' ((conv=>whnf);first|refine sT ?_|refine sP ?_ ?_<;>intro _|fail)
  all_goals((conv=>whnf);try exact xO)
  exact Chk.mk ⟨rfl,by rw[A6,G9,B0];omega⟩ (Nam.mk (y:=(H0 i (a+b)).map U) (by rw[B0];exact whole (by rw[A6,G9])) rfl)
def fE (a b:Nat):Int:=if a<b then -1 else if b<a then 1 else 0
def EX (k n:Nat):Prop:=n<2^(64*k)/\(0<k->2^(64*(k-1))<=n)
theorem FK {k m a b:Nat} (ha:EX k a) (hb:EX m b) (h:k<m):a<b:=
 D3 ha.1 (F5 (M3 (by decide) (by omega)) (hb.2 (by omega)))
theorem A2z {a b i:Nat} (h:a/2^(64*(i+1))=b/2^(64*(i+1))):(dg a i=dg b i->a/2^(64*i)=b/2^(64*i))/\(dg a i<dg b i->a<b):=by
 have hp:0<2^(64*i):=G7 (by decide)
 rw[p64,C6,<-F4,<-F4] at h
 unfold dg
 generalize hA:a/2^(64*i)=A at*
 generalize hB:b/2^(64*i)=B at*
 constructor
 ·intro h2;omega
 ·intro h2
  have h3:A<B:=by omega
  rw[<-hA,<-hB] at h3
  exact Nat.lt_of_div_lt_div h3
theorem cM (k m a b:Nat) (hk:k<2^20) (hm:m<2^20) (ha:EX k a) (hb:EX m b) (f g:Bool):C9 Tryz.prog 142 [.d (.sl 1 f ((H0 k a).map U)),.d (.sl 1 g ((H0 m b).map U))] (E5 [I (fE a b)]):=by
 have l1:=G9 k a
 have l2:=G9 m b
 refine pU Tryz.func142 ?_
 by_cases hkm:k=m
 ·subst hkm
  repeat' ((conv=>whnf);first|refine sT ?_|refine sP ?_ ?_<;>intro _|refine cA (DP _ _) ?_|refine Nam.mk (A6 _) ?_|fail)
  all_goals((conv=>whnf);try exact xO)
  rw[l1]
  refine lO (X:=Nat) (λj=>[(5,.d (I ((j:Int)-1)))]) (λ_=>[]) (λj=>j<=k/\a/2^(64*j)=b/2^(64*j)) (λj=>j) k sam rfl ⟨B1 _,by rw[I9 ha.1,I9 hb.1]⟩ ?_
  rintro j ⟨hj,hm⟩
  by_cases hj0:0<j
  ·obtain⟨i,rfl⟩:∃i,j=i+1:=⟨j-1,by omega⟩
   rw[show(((i+1:Nat):Int)-1)=(i:Int) by omega]
   have g1:=gU (i:=(i:Int)) rfl (P5 k a i (by omega))
   have g2:=gU (i:=(i:Int)) rfl (P5 k b i (by omega))
   obtain⟨c1,c2⟩:=A2z hm
   have c3:=(A2z hm.symm).2
   have hl1:=qH a i
   have hl2:=qH b i
   unfold dg at c1 c2 c3 hl1 hl2
   generalize a/2^(64*i)%18446744073709551616=x at g1 c1 c2 c3 hl1
   generalize b/2^(64*i)%18446744073709551616=y at g2 c1 c2 c3 hl2
   have hC:=RW x y
   by_cases hxy:x=y
   ·subst hxy
    repeat' ((conv=>whnf);first|refine sT ?_|refine sP ?_ ?_<;>intro _|refine A9 g1 ?_|refine A9 g2 ?_|fail)
    all_goals(conv=>whnf)
    all_goals first|(exfalso;omega)|exact⟨i,wE,⟨by omega,c1 rfl⟩,by show i<i+1;omega⟩
   ·have hv:WU (x:Int) (y:Int)=fE a b:=by
     unfold WU fE
     rcases gN x y with h|h
     ·rw[if_pos (by omega),if_pos (c2 h)]
     ·have:=c3 (show y<x by omega)
      rw[if_neg (by omega),if_pos (by omega),if_neg (by omega),if_pos this]
    rw[hv] at hC
    repeat' ((conv=>whnf);first|refine sT ?_|refine sP ?_ ?_<;>intro _|refine A9 g1 ?_|refine A9 g2 ?_|refine cA hC ?_|fail)
    all_goals exact fI
  ·have hj1:j=0:=by omega
   subst hj1
   have hab:a=b:=by simpa using hm
   have hv:(0:Int)=fE a b:=by unfold fE;rw[hab,if_neg (cO _),if_neg (cO _)]
   rw[<-hv]
   repeat' ((conv=>whnf);first|refine sT ?_|refine sP ?_ ?_<;>intro _|fail)
   all_goals exact fI
 ·have hc:WU ((H0 k a).length:Int) ((H0 m b).length:Int)=fE a b:=by
   rw[l1,l2];unfold WU fE
   rcases gN k m with h|h
   ·have:=FK ha hb h
    rw[if_pos (by omega),if_pos this]
   ·have:=FK hb ha (show m<k by omega)
    rw[if_neg (by omega),if_pos (by omega),if_neg (by omega),if_pos this]
  have hC:=DP ((H0 k a).length:Int) ((H0 m b).length:Int)
  rw[hc] at hC
  repeat' ((conv=>whnf);first|refine sT ?_|refine sP ?_ ?_<;>intro _|refine cA hC ?_|refine Nam.mk (A6 _) ?_|fail)
  all_goals exact fI
theorem YW (k:Nat):256^k=2^(8*k):=by rw[show(256:Nat)=2^8 from rfl,<-Nat.pow_mul]
theorem cX (n:Nat):EX (nw n) n:=by
 have h1:=B1t n
 rw[YW] at h1
 refine⟨D3 h1 (M3 (by decide) (by unfold nw;omega)),λh=> ?_⟩
 have hn:0<n:=by
  rcases H3 n with h0|h0
  ·subst h0;unfold nw at h;rw[dZ] at h;simp at h
  ·exact h0
 have h2:=B1u hn
 rw[YW] at h2
 exact F5 (M3 (by decide) (by unfold nw at*;omega)) h2
theorem R9 (n:Nat):n<2^(64*nw n):=(cX n).1
def lim (n:Nat):Prop:=n<2^2048
theorem rN {n:Nat} (h:lim n):(be n).length<=256:=OO (by
 have e:256^256=2^(8*256):=YW 256
 rw[show 8*256=2048 from rfl] at e
 rw[e];exact h)
theorem lP {n:Nat} (h:lim n):nw n<=32:=by have:=rN h;unfold nw;omega
theorem BU {a b:Nat} (ha:lim a) (hb:lim b):C9 Tryz.prog 95 [.d (.sl 1 true [sD a,sD b])] (E5 [I 0]):=
 uC [a,b] (by simp) (by
  intro n hn
  simp only[J0,O9,oI] at hn
  rcases hn with rfl|rfl
  ·exact rN ha
  ·exact rN hb) true
theorem lF {a:Nat} (ha:lim a):T8 Tryz.prog 98 [.d (sD a)] 1 ((H0 (nw a) a).map U):=HX a (by have:=rN ha;omega)
theorem zJ (a b:Nat) (ha:lim a) (hb:lim b) (hab:lim (a+b)):C9 Tryz.prog 58 [.d (sD a),.d (sD b)] (E5 [sD (a+b),I 0]):=by
 have k1:=lP ha
 have k2:=lP hb
 have hS:=uB (max (nw a) (nw b)+1) (a+b) (by omega) (by
  have h1:2^(64*nw a)<=2^(64*max (nw a) (nw b)):=M3 (by decide) (by omega)
  have h2:2^(64*nw b)<=2^(64*max (nw a) (nw b)):=M3 (by decide) (by omega)
  have h3:=R9 a
  have h4:=R9 b
  rw[p64];omega) (rN hab)
 have hP:=LN (nw a) (nw b) a b (by omega) (by omega) (R9 a) (R9 b)
 have hc:=BU ha hb
 have w1:=lF ha
 have w2:=lF hb
 refine pU Tryz.func58 ?_
 repeat' ((conv=>whnf);first|refine sT ?_|refine sP ?_ ?_<;>intro _|refine cA hc ?_|refine E6.ofRow w1 ?_|refine E6.ofRow w2 ?_|refine E6.ofRow (hP _ _) ?_|refine cA (hS _) ?_|refine Nam.mk (whole rfl) ?_|refine E6.lift ?_|fail)
 all_goals exact fJ
theorem BH (a b:Nat) (ha:lim a) (hb:lim b):C9 Tryz.prog 199 [.d (sD a),.d (sD b)] (E5 [I (fE a b),I 0]):=by
 have k1:=lP ha
 have k2:=lP hb
 have hP:=cM (nw a) (nw b) a b (by omega) (by omega) (cX a) (cX b)
 have hc:=BU ha hb
 have w1:=lF ha
 have w2:=lF hb
 refine pU Tryz.func199 ?_
 repeat' ((conv=>whnf);first|refine sT ?_|refine sP ?_ ?_<;>intro _|refine cA hc ?_|refine E6.ofRow w1 ?_|refine E6.ofRow w2 ?_|refine cA (hP _ _) ?_|refine Nam.mk (whole rfl) ?_|refine E6.lift ?_|fail)
 all_goals exact fJ
theorem uE (a:Nat) (ha:lim a):C9 Tryz.prog 110 [.d (sD a)] (E5 [I 0]):=by
 have hc:=uC [a] (by simp) (by intro n hn;rw[H9.1 hn];exact rN ha) true
 refine pU Tryz.func110 ?_
 repeat' ((conv=>whnf);first|refine sT ?_|refine sP ?_ ?_<;>intro _|refine cA hc ?_|fail)
 all_goals exact fJ
theorem qG {L n i x:Nat} (hi:i<L) (hx:x<18446744073709551616):(H0 L n).set i x=H0 L (n-dg n i*2^(64*i)+x*2^(64*i)):=by
 obtain⟨P,hP⟩:∃P,P=2^(64*i):=⟨_,rfl⟩
 have hp:0<P:=by rw[hP];exact G7 (by decide)
 obtain⟨d,hd⟩:∃d,d=dg n i:=⟨_,rfl⟩
 have hdl:d*P<=n:=by
  rw[hd];unfold dg;rw[<-hP]
  exact F5 (D6 _ (Nat.mod_le _ _)) (Nat.div_mul_le_self _ _)
 have h0:dg (n-d*P) i=0:=by
  have e1:=O2 n P
  have hdq:d<=n/P:=by rw[hd];unfold dg;rw[<-hP];exact Nat.mod_le _ _
  have e2:n-d*P=n%P+P*(n/P-d):=by
   rw[Nat.mul_sub,C6 P d]
   have:d*P<=P*(n/P):=by rw[C6 d P];exact fF _ hdq
   omega
  unfold dg;rw[<-hP,e2,S7 _ _ hp,I9 (J7 _ hp)]
  have:d=n/P%18446744073709551616:=by rw[hd];unfold dg;rw[<-hP]
  omega
 have hdB:d<18446744073709551616:=by rw[hd];exact qH _ _
 have e1:=nV L (n-d*P) i d hi (by unfold dg at h0;rw[h0];omega)
 have e2:=nV L (n-d*P) i x hi (by unfold dg at h0;rw[h0];omega)
 unfold dg at h0
 rw[h0,C1,<-hP] at e1 e2
 rw[Nat.sub_add_cancel hdl] at e1
 rw[<-hd,<-hP,<-e2,<-e1,List.set_set]
structure XV where
 i:Nat
 v:Nat
structure XJ where
 j:Nat
 h:Nat
 v:Nat
theorem A9k {x y:Nat} (hx:x<18446744073709551616) (hy:y<18446744073709551616):x*y+18446744073709551615+18446744073709551615<18446744073709551616*18446744073709551616:=by
 have h1:x*y<=18446744073709551615*18446744073709551615:=G6 (by omega) (by omega)
 omega
theorem A0n {x y s h:Nat} (hx:x<18446744073709551616) (hy:y<18446744073709551616) (hs:s<18446744073709551616) (hh:h<18446744073709551616):
 let hi:=x*y/18446744073709551616
 let lo:=x*y%18446744073709551616
 let c:=(lo+s+0)/18446744073709551616
 let l1:=(lo+s+0)%18446744073709551616
 let d:=(l1+h+0)/18446744073709551616
 let l2:=(l1+h+0)%18446744073709551616
 hi+c+d<18446744073709551616/\l2<18446744073709551616/\x*y+s+h=(hi+c+d)*18446744073709551616+l2:=by
 have h1:=A9k hx hy
 generalize x*y=p at*
 dsimp only
 omega
theorem B3m {v i j s l P:Nat} (hP:P=2^(64*i)) (hs:s=dg v i) (hl:l<18446744073709551616) (hij:i<j):(v-s*P+l*P)/2^(64*j)=v/2^(64*j)/\s*P<=v:=by
 have hp:0<P:=by rw[hP];exact G7 (by decide)
 have hdl:s*P<=v:=by
  rw[hs];unfold dg;rw[<-hP]
  exact F5 (D6 _ (Nat.mod_le _ _)) (Nat.div_mul_le_self _ _)
 refine⟨?_,hdl⟩
 obtain⟨e,rfl⟩:∃e,j=i+1+e:=⟨j-(i+1),by omega⟩
 have hpow:2^(64*(i+1+e))=P*18446744073709551616*2^(64*e):=by
  rw[R2,H2,p64,<-hP,C6 18446744073709551616 P]
 rw[hpow,<-F4,<-F4,<-F4,<-F4]
 congr 1
 have e1:=O2 v P
 have hdq:s<=v/P:=by rw[hs];unfold dg;rw[<-hP];exact Nat.mod_le _ _
 have e2:v-s*P+l*P=v%P+P*(v/P-s+l):=by
  rw[R2,Nat.mul_sub,C6 P s,C6 P l]
  have:s*P<=P*(v/P):=by rw[C6 s P];exact fF _ hdq
  omega
 rw[e2,S7 _ _ hp,I9 (J7 _ hp)]
 have:s=v/P%18446744073709551616:=by rw[hs];unfold dg;rw[<-hP]
 omega
structure TI2 (x b v0 i m:Nat) (q:XJ):Prop where
 jm:q.j<=m
 val:q.v+q.h*2^(64*(i+q.j))=v0+x*(b%2^(64*q.j))*2^(64*i)
 top:q.v/2^(64*(i+m))=0
 hh:q.h<18446744073709551616
theorem YL {x b v0 i m j h v y s h' l:Nat} (I0:TI2 x b v0 i m ⟨j,h,v⟩) (hj:j<m) (hy:y=dg b j) (hs:s=dg v (i+j)) (hl:l<18446744073709551616) (hh':h'<18446744073709551616) (ht:x*y+s+h=h'*18446744073709551616+l):
 TI2 x b v0 i m ⟨j+1,h',v-s*2^(64*(i+j))+l*2^(64*(i+j))⟩:=by
 obtain⟨_,hv,hd,_⟩:=I0
 dsimp only at hv hd
 have hpd:=B3m (v:=v) (i:=i+j) (j:=i+m) (s:=s) (l:=l) rfl hs hl (by omega)
 refine⟨hj,?_,by dsimp only;rw[hpd.1,hd],hh'⟩
 dsimp only
 have e2:b%2^(64*(j+1))=b%2^(64*j)+2^(64*j)*y:=by
  rw[p64,C6,eC,hy]
 have e3:2^(64*(i+j))=2^(64*i)*2^(64*j):=by rw[R2,H2]
 rw[e2,show i+(j+1)=i+j+1 by omega,p64]
 have hle:=hpd.2
 generalize 2^(64*(i+j))=P at*
 have f1:x*(b%2^(64*j)+2^(64*j)*y)*2^(64*i)=x*(b%2^(64*j))*2^(64*i)+x*y*P:=by
  rw[e3,R2,H5]
  congr 1
  rw[C6 (2^(64*j)) y,<-I2,I2 (x*y),C6 (2^(64*j))]
 have f2:(x*y+s+h)*P=(h'*18446744073709551616+l)*P:=by rw[ht]
 rw[f1]
 have f3:h'*(18446744073709551616*P)=h'*18446744073709551616*P:=by rw[I2]
 rw[f3]
 simp only[H5] at f2
 omega
theorem nH (k m a b:Nat) (hk:k<2^20) (hm:m<2^20) (ha:a<2^(64*k)) (hb:b<2^(64*m)) (f g:Bool):T8 Tryz.prog 144 [.d (.sl 1 f ((H0 k a).map U)),.d (.sl 1 g ((H0 m b).map U))] 1 ((H0 (k+m) (a*b)).map U):=by
 have l1:=G9 k a
 have l2:=G9 m b
 refine rO Tryz.func144 ?_
 repeat' ((conv=>whnf);first|refine Wr.i64 ((k+m:Nat):Int) (by rw[l1,l2];omega) (by omega) ?_|refine sT ?_|refine sP ?_ ?_<;>intro _|fail)
 all_goals(conv=>whnf)
 have e0:List.replicate ((k+m:Nat):Int).toNat (Q9 ⟨.int .u64,1,8,[.i .u64 0]⟩)=(H0 (k+m) 0).map U:=by
  rw[B0,cN,M8];rfl
 rw[e0]
 have hLt:((k+m:Nat):Int).toNat=k+m:=B0 _
 refine lO (X:=XV) (λx=>[(23,.d (I x.i))]) (λx=>[(0,.row 0 1 false ((H0 (k+m) x.v).map U))]) (λx=>x.i<=k/\x.v=a%2^(64*x.i)*b) (λx=>k-x.i) ⟨0,0⟩ sam rfl ⟨B9 _,by simp[gF]⟩ ?_
 rintro⟨i,v0⟩ ⟨hi,hv⟩
 dsimp only at hi hv
 dsimp only
 by_cases hlt:i<k
 ·have hx:=gU (i:=(i:Int)) rfl (P5 k a i hlt)
  have hxl:=qH a i
  have hxd:a/2^(64*i)%18446744073709551616=dg a i:=rfl
  rw[hxd] at hx
  obtain⟨x,hxx⟩:∃x,x=dg a i:=⟨_,rfl⟩
  rw[<-hxx] at hx hxl
  repeat' ((conv=>whnf);first|refine sT ?_|refine sP ?_ ?_<;>intro _|refine A9 hx ?_|fail)
  all_goals((conv=>whnf);try exact xO)
  have hv0:v0<2^(64*(i+m)):=by
   rw[hv,R2,H2]
   have hpi:0<2^(64*i):=G7 (by decide)
   exact DW (J7 _ hpi) hb
  refine lO (X:=XJ) (λq=>[(30,.d (I q.j)),(8,.d (U q.h))]) (λq=>[(0,.row 0 1 false ((H0 (k+m) q.v).map U))]) (TI2 x b v0 i m) (λq=>m-q.j) ⟨0,0,v0⟩ sam rfl ⟨B9 _,by simp[gF],I9 hv0,by show 0<_;decide⟩ ?_
  rintro⟨j,h,v⟩ hI
  dsimp only
  have hjm:=hI.jm
  have hhl:=hI.hh
  dsimp only at hjm hhl
  by_cases hjl:j<m
  ·have hyg:=gU (i:=(j:Int)) rfl (P5 m b j hjl)
   have hyd:b/2^(64*j)%18446744073709551616=dg b j:=rfl
   rw[hyd] at hyg
   obtain⟨y,hy⟩:∃y,y=dg b j:=⟨_,rfl⟩
   have hyl:=qH b j
   rw[<-hy] at hyg hyl
   have hsg:=pY (i:=((i:Int)+(j:Int))) (j:=i+j) (by omega) (P5 (k+m) v (i+j) (by omega))
   have hsd:v/2^(64*(i+j))%18446744073709551616=dg v (i+j):=rfl
   rw[hsd] at hsg
   obtain⟨s,hs⟩:∃s,s=dg v (i+j):=⟨_,rfl⟩
   have hsl:=qH v (i+j)
   rw[<-hs] at hsg hsl
   have cs:=A0n hxl hyl hsl hhl
   dsimp only at cs
   obtain⟨c1,c2,c3⟩:=cs
   have hst:=YL hI hjl hy hs c2 c1 c3
   have hM:=bits_Mul64 x y hxl hyl
   have hA1:=bits_Add64 (x*y%18446744073709551616) s 0 (by decide)
   have hA2:=bits_Add64 ((x*y%18446744073709551616+s+0)%18446744073709551616) h 0 (by decide)
   have hput:=qG (L:=k+m) (n:=v) (i:=i+j) (by omega) c2
   rw[<-hs] at hput
   have q1:=sO (l:=H0 (k+m) v) (i:=((i:Int)+(j:Int))) (j:=i+j) (by omega) (by rw[G9];omega)
   have q2:=sG (i:=((i:Int)+(j:Int))) (j:=i+j) (by omega) rfl hput
   obtain⟨hh,hhe⟩:∃hh,hh=x*y/18446744073709551616:=⟨_,rfl⟩
   obtain⟨cc,hce⟩:∃cc,cc=(x*y%18446744073709551616+s+0)/18446744073709551616:=⟨_,rfl⟩
   obtain⟨dd,hde⟩:∃dd,dd=((x*y%18446744073709551616+s+0)%18446744073709551616+h+0)/18446744073709551616:=⟨_,rfl⟩
   rw[<-hhe] at hM hst c1
   rw[<-hce] at hA1 hst c1
   rw[<-hde] at hA2 hst c1
   repeat' ((conv=>whnf);first|refine Wr.u64 ((hh+cc:Nat):Int) (LA _ _).symm (by omega) ?_|refine Wr.u64 ((hh+cc+dd:Nat):Int) (LA _ _).symm (by omega) ?_|refine sT ?_|refine sP ?_ ?_<;>intro _|refine A9 hyg ?_|refine A9 hsg ?_|refine cA hM ?_|refine cA hA1 ?_|refine cA hA2 ?_|refine J6 q1 q2 ?_|fail)
   all_goals((conv=>whnf);try exact xO)
   exact⟨⟨j+1,hh+cc+dd,_⟩,wE,hst,by show m-(j+1)<m-j;omega⟩
  ·have hje:j=m:=by omega
   subst hje
   have hsg:=pY (i:=((i:Int)+((H0 j b).length:Int))) (j:=i+j) (by omega) (P5 (k+j) v (i+j) (by omega))
   have htop:=hI.top
   have hval:=hI.val
   dsimp only at htop hval
   have hd0:dg v (i+j)=0:=by unfold dg;rw[htop]
   have hput:=qG (L:=k+j) (n:=v) (i:=i+j) (by omega) hhl
   rw[hd0,gL,Nat.sub_zero,hval,M0 hb] at hput
   have hnx:v0+x*b*2^(64*i)=a%2^(64*(i+1))*b:=by
    rw[hv,hxx,p64,C6 18446744073709551616,eC,H5]
    congr 1
    show dg a i*b*2^(64*i)=2^(64*i)*dg a i*b
    rw[C6 (2^(64*i)) (dg a i),I2,I2,C6 b]
   rw[hnx] at hput
   have q1:=sO (l:=H0 (k+j) v) (i:=((i:Int)+((H0 j b).length:Int))) (j:=i+j) (by omega) (by rw[G9];omega)
   have q2:=sG (i:=((i:Int)+((H0 j b).length:Int))) (j:=i+j) (by omega) rfl hput
   repeat' ((conv=>whnf);first|refine sT ?_|refine sP ?_ ?_<;>intro _|refine A9 hsg ?_|refine J6 q1 q2 ?_|fail)
   all_goals((conv=>whnf);try exact xO)
   exact⟨⟨i+1,_⟩,wE,⟨hlt,rfl⟩,by show k-(i+1)<k-i;omega⟩
 ·have hie:i=k:=by omega
  subst hie
  rw[M0 ha] at hv
  subst hv
  repeat' ((conv=>whnf);first|refine sT ?_|refine sP ?_ ?_<;>intro _|fail)
  all_goals((conv=>whnf);try exact xO)
  exact Chk.mk ⟨rfl,by rw[A6,G9,B0];omega⟩ (Nam.mk (y:=(H0 (i+m) (a*b)).map U) (by rw[B0];exact whole (by rw[A6,G9])) rfl)
theorem iU (a b:Nat) (ha:lim a) (hb:lim b) (hab:lim (a*b)):C9 Tryz.prog 161 [.d (sD a),.d (sD b)] (E5 [sD (a*b),I 0]):=by
 have k1:=lP ha
 have k2:=lP hb
 have hS:=uB (nw a+nw b) (a*b) (by omega) (by
  rw[R2,H2]
  rcases H3 b with h0|h0
  ·subst h0;rw[oW];exact aV (G7 (by decide)) (G7 (by decide))
  ·exact DW (R9 a) (R9 b)) (rN hab)
 have hP:=nH (nw a) (nw b) a b (by omega) (by omega) (R9 a) (R9 b)
 have hc:=BU ha hb
 have w1:=lF ha
 have w2:=lF hb
 refine pU Tryz.func161 ?_
 repeat' ((conv=>whnf);first|refine sT ?_|refine sP ?_ ?_<;>intro _|refine cA hc ?_|refine E6.ofRow w1 ?_|refine E6.ofRow w2 ?_|refine E6.ofRow (hP _ _) ?_|refine cA (hS _) ?_|refine Nam.mk (whole rfl) ?_|refine E6.lift ?_|fail)
 all_goals exact fJ
theorem A3m {k n:Nat} (h:n<2^(64*(k+1))) (h0:dg n k=0):n<2^(64*k):=by
 have hp:0<2^(64*k):=G7 (by decide)
 rw[p64] at h
 unfold dg at h0
 have:n/2^(64*k)<18446744073709551616:=by rw[O1 hp];exact h
 have h2:n/2^(64*k)=0:=by
  generalize n/2^(64*k)=q at*
  omega
 rcases Nat.div_eq_zero_iff.1 h2 with h3|h3<;>omega
theorem A3l {k n:Nat} (h:n<2^(64*(k+1))) (h0:dg n k≠0):EX (k+1) n:=by
 have hp:0<2^(64*k):=G7 (by decide)
 refine⟨h,λ_=> ?_⟩
 unfold dg at h0
 rw[V5]
 have:0<n/2^(64*k):=by
  generalize n/2^(64*k)=q at*
  omega
 exact(Nat.div_pos_iff.1 this).2
theorem EX.uniq {k m n:Nat} (h1:EX k n) (h2:EX m n):k=m:=by
 rcases Nat.lt_trichotomy k m with h|h|h
 ·exact absurd (FK h1 h2 h) (cO _)
 ·exact h
 ·exact absurd (FK h2 h1 h) (cO _)
theorem EX.nw {k n:Nat} (h:EX k n):nw n=k:=(cX n).uniq h
theorem V3 {k n:Nat} (h:n<2^(64*k)):nw n<=k:=by
 rcases gN k (nw n) with h1|h1
 ·have h2:=(cX n).2 (by omega)
  have:2^(64*k)<=2^(64*(nw n-1)):=M3 (by decide) (by omega)
  omega
 ·exact h1
theorem xC (v K k n:Nat) (hK:K<2^30) (hk:k<=K) (h:n<2^(64*k)):
 M4 Tryz.prog 148 [.sref 0 v 0 k false] [.row v 1 false ((H0 K n).map U)] λr h'=>okV [Blk.row v 1 false ((H0 K n).map U)].length r=true/\h'.length=[Blk.row v 1 false ((H0 K n).map U)].length/\h'.all (okB [Blk.row v 1 false ((H0 K n).map U)].length)=true/\
  (r=.sref 0 v 0 (nw n) false/\h'=[.row v 1 false ((H0 K n).map U)]):=by
 have hl:=G9 K n
 refine mI (E:=P9 Tryz.prog tt Tryz.f148.ntmps) (I6 T5 mixed) Tryz.func148 (by rfl) rfl (B5 rfl) ?_
 repeat' ((conv=>whnf);first|refine sT ?_|refine sP ?_ ?_<;>intro _|fail)
 all_goals(conv=>whnf)
 refine lO (X:=Nat) (λj=>[(0,.sref 0 v 0 j false)]) (λ_=>[]) (λj=>j<=k/\n<2^(64*j)) (λj=>j) k sam rfl ⟨B1 _,h⟩ ?_
 rintro j ⟨hj,hn⟩
 by_cases hj0:0<j
 ·obtain⟨i,rfl⟩:∃i,j=i+1:=⟨j-1,by omega⟩
  have g1:=pY (i:=((i+1:Nat):Int)-1) (j:=i) (by omega) (P5 K n i (by omega))
  by_cases h0:dg n i=0
  ·have:=A3m hn h0
   rw[show n/2^(64*i)%18446744073709551616=0 from h0] at g1
   repeat' ((conv=>whnf);first|refine sT ?_|refine sP ?_ ?_<;>intro _|refine A9 g1 ?_|fail)
   all_goals((conv=>whnf);try exact xO)
   rw[show(((i+1:Nat):Int)-1).toNat=i by omega]
   exact⟨i,wE,⟨by omega,this⟩,by omega⟩
  ·have ht:=(A3l hn h0).nw
   have hl1:=qH n i
   unfold dg at hl1 h0
   generalize n/2^(64*i)%18446744073709551616=x at g1 hl1 h0
   repeat' ((conv=>whnf);first|refine sT ?_|refine sP ?_ ?_<;>intro _|refine A9 g1 ?_|fail)
   all_goals((conv=>whnf);try exact xO)
   exact⟨rfl,rfl,by rw[ht],rfl⟩
 ·have hj1:j=0:=by omega
  subst hj1
  have ht:nw n=0:=by have:=V3 hn;omega
  repeat' ((conv=>whnf);first|refine sT ?_|refine sP ?_ ?_<;>intro _|fail)
  all_goals((conv=>whnf);try exact xO)
  exact⟨rfl,rfl,by rw[ht],rfl⟩
theorem TG:∀{a b m n:Nat},2^a*(2*m+1)=2^b*(2*n+1)->a=b
 |0,0,_,_,_=>rfl
 |0,b+1,m,n,h=>by
  rw[aO,V4,U8,C6 (2^b) 2,I2] at h;omega
 |a+1,0,m,n,h=>by
  rw[aO,V4,U8,C6 (2^a) 2,I2] at h;omega
 |a+1,b+1,m,n,h=>by
  rw[U8,U8,C6 (2^a) 2,C6 (2^b) 2,I2,I2] at h
  rw[TG (Nat.mul_left_cancel (by decide:0<2) h)]
theorem ctz_is {x r m:Nat} (h:x=2^r*(2*m+1)) (hx:x<18446744073709551616):Go.Lib.ctz 64 x=r:=by
 have h0:0<x:=by rw[h];exact aV (G7 (by decide)) (by omega)
 obtain⟨m',h1,_⟩:=Go.Lib.ctzFrom_spec 64 x h0 hx
 unfold Go.Lib.ctz
 rw[if_neg (by omega)]
 exact TG (h1.symm.trans h)
theorem ON {x b:Nat} (h1:x<2^b) (h2:0<b->2^(b-1)<=x) (hx:x<18446744073709551616):Go.Lib.bitLen x=b:=by
 unfold Go.Lib.bitLen
 rcases H3 x with h0|h0
 ·subst h0
  rw[Go.Lib.bitLenAux_zero]
  rcases H3 b with hb|hb
  ·exact hb.symm
  ·have:=h2 hb
   have:0<2^(b-1):=G7 (by decide)
   omega
 ·obtain⟨a,c,d⟩:=Go.Lib.bitLenAux_bounds 64 x hx (by omega)
  generalize Go.Lib.bitLenAux 64 x=L at*
  have hb:0<b:=by
   rcases H3 b with hb|hb
   ·subst hb;simp at h1;omega
   ·exact hb
  have e1:2^(L-1)<2^b:=by omega
  have e2:2^(b-1)<2^L:=by have:=h2 hb;omega
  have:=(J9 (by decide:1<2)).1 e1
  have:=(J9 (by decide:1<2)).1 e2
  omega
theorem A3h {q r m j:Nat} (hr:r<64) (hj:j<q):dg (2^(64*q+r)*(2*m+1)) j=0:=by
 have e:2^(64*q+r)=2^(64*j)*(18446744073709551616*2^(64*(q-j-1)+r)):=by
  rw[show 18446744073709551616*2^(64*(q-j-1)+r)=2^(64*(q-j)+r) from by
   rw[show(18446744073709551616:Nat)=2^64 from rfl,<-H2];congr 1;omega,<-H2]
  congr 1;omega
 unfold dg
 rw[e,I2,V2 _ (G7 (by decide)),I2,Nat.mul_mod_right]
theorem A3g {q r m:Nat} (hr:r<64):∃m',dg (2^(64*q+r)*(2*m+1)) q=2^r*(2*m'+1):=by
 have e:2^(64*q+r)=2^(64*q)*2^r:=H2 _ _ _
 have e2:(18446744073709551616:Nat)=2^r*2^(64-r):=by rw[<-H2,show r+(64-r)=64 by omega]
 unfold dg
 rw[e,I2,V2 _ (G7 (by decide)),e2,Nat.mul_mod_mul_left]
 obtain⟨s,hs⟩:∃s,64-r=s+1:=⟨63-r,by omega⟩
 refine⟨(2*m+1)%2^(64-r)/2,?_⟩
 congr 1
 have h1:(2*m+1)%2^(64-r)%2=1:=by
  rw[hs,U8,C6 (2^s),qR];omega
 omega
theorem cK (k z m:Nat) (hk:k<2^30) (h:2^z*(2*m+1)<2^(64*k)) (f:Bool):C9 Tryz.prog 139 [.d (.sl 1 f ((H0 k (2^z*(2*m+1))).map U))] (E5 [I z]):=by
 obtain⟨q,r,hr,rfl⟩:∃q r,r<64/\z=64*q+r:=⟨z/64,z%64,by omega,by omega⟩
 have hl:=G9 k (2^(64*q+r)*(2*m+1))
 have hq:q<k:=by
  have h1:2^(64*q+r)<2^(64*k):=I4 (R4 _ (by omega)) h
  have:=(J9 (by decide:1<2)).1 h1
  omega
 refine pU Tryz.func139 ?_
 repeat' ((conv=>whnf);first|refine sT ?_|refine sP ?_ ?_<;>intro _|fail)
 all_goals(conv=>whnf)
 refine lO (X:=Nat) (λj=>[(3,.d (I j))]) (λ_=>[]) (λj=>j<=q) (λj=>q-j) 0 sam rfl (B9 _) ?_
 intro j hj
 by_cases hlt:j<q
 ·have g1:=gU (i:=(j:Int)) rfl (P5 k (2^(64*q+r)*(2*m+1)) j (by omega))
  have hz:2^(64*q+r)*(2*m+1)/2^(64*j)%18446744073709551616=0:=A3h hr hlt
  rw[hz] at g1
  repeat' ((conv=>whnf);first|refine sT ?_|refine sP ?_ ?_<;>intro _|refine A9 g1 ?_|fail)
  all_goals(conv=>whnf)
  all_goals first|(exfalso;omega)|exact⟨j+1,wE,hlt,by omega⟩
 ·have hje:j=q:=by omega
  subst hje
  obtain⟨m',hm'⟩:=A3g (q:=j) (r:=r) (m:=m) hr
  have g1:=gU (i:=(j:Int)) rfl (P5 k (2^(64*j+r)*(2*m+1)) j (by omega))
  have hlt:=qH (2^(64*j+r)*(2*m+1)) j
  obtain⟨x,hx⟩:∃x,x=dg (2^(64*j+r)*(2*m+1)) j:=⟨_,rfl⟩
  rw[show 2^(64*j+r)*(2*m+1)/2^(64*j)%18446744073709551616=x from hx.symm] at g1
  rw[<-hx] at hlt hm'
  have hx0:0<x:=by rw[hm'];exact aV (G7 (by decide)) (by omega)
  have hT:=bits_TrailingZeros64 x hlt
  rw[ctz_is hm' hlt] at hT
  repeat' ((conv=>whnf);first|refine sT ?_|refine sP ?_ ?_<;>intro _|refine A9 g1 ?_|refine cA hT ?_|fail)
  all_goals((conv=>whnf);try exact xO)
  rw[show 64*(j:Int)+(r:Int)=((64*j+r:Nat):Int) by omega]
  exact DLe.refl _
theorem xD (k n b:Nat) (hk:k<2^30) (h:EX k n) (h1:n<2^b) (h2:0<b->2^(b-1)<=n) (f:Bool):C9 Tryz.prog 146 [.d (.sl 1 f ((H0 k n).map U))] (E5 [I b]):=by
 have hl:=G9 k n
 refine pU Tryz.func146 ?_
 by_cases h0:k=0
 ·subst h0
  have hb:b=0:=by
   rcases H3 b with hb|hb
   ·exact hb
   ·have:=h2 hb
    have:=h.1
    have:0<2^(b-1):=G7 (by decide)
    simp at*;omega
  subst hb
  repeat' ((conv=>whnf);first|refine sT ?_|refine sP ?_ ?_<;>intro _|refine Nam.mk (A6 _) ?_|fail)
  all_goals exact fI
 ·obtain⟨i,rfl⟩:∃i,k=i+1:=⟨k-1,by omega⟩
  have hp:0<2^(64*i):=G7 (by decide)
  have ht:=h.2 (by omega)
  rw[V5] at ht
  have hu:=h.1
  rw[p64] at hu
  have hb:64*i<b:=by
   rcases gN (64*i) b with hb|hb
   ·exact hb
   ·have:=M3 (n:=2) (by decide) hb
    omega
  obtain⟨c,rfl⟩:∃c,b=64*i+1+c:=⟨b-(64*i+1),by omega⟩
  have hxl:n/2^(64*i)<18446744073709551616:=by rw[O1 hp];exact hu
  have hL:Go.Lib.bitLen (n/2^(64*i))=c+1:=by
   refine ON ?_ (λ_=> ?_) hxl
   ·rw[O1 hp,<-H2,show c+1+64*i=64*i+1+c by omega];exact h1
   ·rw[Nat.le_div_iff_mul_le hp,<-H2,show c+1-1+64*i=64*i+1+c-1 by omega];exact h2 (by omega)
  have hcb:c<=63:=by
   have e1:2^(64*i+1+c-1)<2^(64*(i+1)):=I4 (h2 (by omega)) h.1
   have:=(J9 (by decide:1<2)).1 e1
   omega
  have hT:=bits_Len64 _ hxl
  rw[hL] at hT
  have g1:=gU (i:=(((H0 (i+1) n).length:Int)-1)) (j:=i) (by omega) (P5 (i+1) n i (by omega))
  rw[M0 hxl] at g1
  repeat' ((conv=>whnf);first|refine sT ?_|refine sP ?_ ?_<;>intro _|refine A9 g1 ?_|refine Nam.mk (A6 _) ?_|refine cA hT ?_|fail)
  all_goals((conv=>whnf);try exact xO)
  rw[show 64*(((H0 (i+1) n).length:Int)-1)+((c+1:Nat):Int)=((64*i+1+c:Nat):Int) by omega]
  exact DLe.refl _
end Go.PM
namespace Go.PM
variable [CN]
variable {P:Program}
def D.light:D->Bool
 | .agg _=>false
 | .sl _ _ xs=>xs.isEmpty
 | .any _ _=>false
 | .pt _=>false
 | .cl _ _ _=>false
 |_=>true
def V.light:V->Bool
 | .d x=>x.light
 | .tup cs=>lights cs
 |_=>false
where lights:List V->Bool
 |[]=>true
 | .d x::r=>x.light&&lights r
 |_::_=>false
theorem DR.of_light {w w':World} {S S':Stb} {x:D} {v:Value} (h:DR w S x v) (hx:x.light=true):DR w' S' x v:=by
 cases h with
 |b x=>exact .b x
 |i k n=>exact .i k n
 |s x=>exact .s x
 |k v hv=>exact .k v hv
 |agg cs arr=>cases hx
 |any t x v _=>cases hx
 |pt=>cases hx
 |cl=>cases hx
 |sl sz full xs a cap b off uf h1 h2 h3 h4 h5 h6 h7=>
  have:xs=[]:=by simpa[D.light] using hx
  subst this
  exact .sl sz full [] a cap b off uf h1 h2 (λ_=>rfl) (λh=>absurd rfl h) (by simp) (by simp) (by simp)
theorem IR:∀{cs:List V},V.light.lights cs=true->∀(j:Nat) (c:V),cs[j]? =some c->∃x,c=.d x/\x.light=true
 |[],_,j,c,hj=>by simp at hj
 |v::r,h,j,c,hj=>by
  cases v with
  |d x=>
   simp only[V.light.lights,C8] at h
   cases j with
   |zero=>simp at hj;subst hj;exact⟨x,rfl,h.1⟩
   |succ j=>exact IR h.2 j c (by simpa using hj)
  |_=>cases h
theorem VR.of_light {w w':World} {S S':Stb} {h h':Hp} {β β':Bet} {v:V} {cv:Value} (hr:VR w S h β v cv) (hv:v.light=true):VR w' S' h' β' v cv:=by
 cases v with
 |d x=>cases hr with|d hd=>exact .d (hd.of_light hv)
 |tup cs=>
  cases hr with
  |tup _ arr h1 h2=>
   refine .tup cs arr h1 λj c u hj hu=> ?_
   obtain⟨x,rfl,hx⟩:=IR hv j c hj
   cases h2 j _ u hj hu with
   |d hd=>exact .d (hd.of_light hx)
 |_=>cases hv
theorem kept {w w':World} {S:Stb} {h:Hp} {β:Bet} (hr:HR w S h β) (fr:∀i,i<w.heap.size->w'.heap[i]? =w.heap[i]?) (ho:Out w w') (hs:w.heap.size<=w'.heap.size) (hf:∀a,a.block<w.heap.size->w'.frozen? a=w.frozen? a):
 HR w' S h β/\F7 w S h β w' S h β:=by
 have lt:∀{i:Nat} {o:Obj},w.heap[i]? =some o->i<w.heap.size:=λh=>(C4.1 h).1
 have E:F7 w S h β w' S h β:=
  ⟨ho,hs,λi hi _=>fr i hi,λi c e f hi=>⟨c,by rw[fr i (lt hi)];exact hi,rfl⟩,λi l hl=>⟨l,by rw[fr i (lt hl)];exact hl⟩,hf,λ_ _ h=>h,λ_ _ h=>.inl h,
    λb o hb=>by simp[World.cell?,fr b (hr.old b o hb)],λ_ h=>.inl h,B1 _,λ_ b hb=>⟨b,hb,BEv.refl _ _⟩⟩
 exact⟨⟨hr.len,λn b hn=>BR.keep E rfl (λ_ r b p h=>⟨h,fr b (hr.tlt r b p h),λ_ h=>h⟩) (λb p h=>⟨fr b (hr.lt h),λ_ h=>h⟩) (hr.blk n b hn),hr.inj,λb o hb=>D3 (hr.old b o hb) hs,hr.glob.evol E,
  λr b p h=>D3 (hr.tlt r b p h) hs,hr.one⟩,E⟩
def AH:List V->Bool
 |[]=>true
 | .d _::r=>AH r
 |_::_=>false
theorem DT:∀{cs:List V},AH cs=true->∀(j:Nat) (c:V),cs[j]? =some c->∃x,c=.d x
 |[],_,j,c,hj=>by simp at hj
 |v::r,h,j,c,hj=>by
  cases v with
  |d x=>
   cases j with
   |zero=>simp at hj;subst hj;exact⟨x,rfl⟩
   |succ j=>exact DT (cs:=r) h j c (by simpa using hj)
  |_=>cases h
theorem AD {f:FuncId} {args args':List V} {h:Hp} {k:V->Hp->Prop} {v:V} (hc:C9 P f args' v) (hv:v.light=true) (hk:k v h) (hl:O3 args h λds _=>AH ds=true/\LY ds args'):M4 P f args h k:=by
 intro w S β argv hr hva
 obtain⟨ds,h',⟨hd,hle⟩,hlen,hds⟩:=Y5 _ _ _ hl
 obtain⟨S1,r1,e1,d1⟩:=hds w S β hr argv.toList (by simpa using hva.1) λj c u hj hu=>hva.2 j c u hj (by simpa using hu)
 have r0:HR w S1 [] []:=⟨B1 _,λn b h=>by simp at h,λn m b p q h=>by simp at h,r1.old,r1.glob,λr b p h=>by simp[tl] at h,λn m b c h=>by simp at h⟩
 have v0:VRs w S1 [] [] ds argv:=⟨by rw[hlen];exact hva.1,λj c u hj hu=>by
  obtain⟨x,rfl⟩:=DT hd j c hj
  cases d1 j _ u hj (by simpa using hu) with
  |d hx=>exact .d hx⟩
 have key:∀{w':World} {S':Stb} {β':Bet},F7 w S1 [] [] w' S' [] β'->HR w' S h β/\F7 w S h β w' S h β:=λg=>kept hr (λi hi=>g.frame i hi (λ⟨n,p,hn⟩=>by simp at hn)) g.outer g.size g.froz
 rcases(hc.le hle) w S1 [] [] argv r0 v0 with⟨h1,h2⟩|⟨cv,w',h1,S',β',g1,g2,g3⟩
 ·refine .inl ⟨h1,λcs=> ?_⟩
  obtain⟨e,w',fr,⟨cv,he,S',β',g1,g2,g3⟩,r⟩:=h2 cs
  exact⟨e,w',fr,⟨cv,he,v,h,S,β,hk,(key g3).1,g2.of_light hv,(key g3).2⟩,r⟩
 ·exact .inr ⟨cv,w',h1,v,h,S,β,hk,(key g3).1,g2.of_light hv,(key g3).2⟩
theorem E6.borrow {f:FuncId} {args args':List V} {h:Hp} {k:V->Hp->Prop} {v:V} (hc:C9 P f args' v) (hv:v.light=true) (hl:O3 args h λds _=>AH ds=true/\LY ds args') (hk:k v h):E6 P f args h k:=
 .ofV (AD hc hv hk hl)
end Go.PM
namespace Go.PM
open Go.Proofs
theorem NH {n v K m N:Nat} {ro full:Bool} {h:Hp} {r:List V} {k:List V->Hp->Prop} (hn:h[n]? =some (.row v 1 ro ((H0 K N).map U))) (hm:m<=K)
 (hk:O3 r (h.set n (.row v 1 true ((H0 K N).map U))) λds h=>k (.d (.sl 1 full ((H0 m N).map U))::ds) h):O3 (.sref n v 0 m full::r) h k:=by
 show uI (.sref n v 0 m full) h λd h=>O3 r h λds h=>k (.d d::ds) h
 unfold uI
 refine A9 hn ?_
 have hl:=G9 K N
 exact Chk.mk ⟨rfl,by rw[A6,hl];omega⟩ (Nam.mk (y:=(H0 m N).map U) (by rw[O4,<-mB,vX _ _ _ hm]) (vK (A4.1 hn).1 hk))
theorem E6.bor1 {P:Program} {f:FuncId} {n v K m N:Nat} {ro full:Bool} {h:Hp} {k:V->Hp->Prop} {x:V} (hc:C9 P f [.d (.sl 1 full ((H0 m N).map U))] x) (hv:x.light=true) (hn:h[n]? =some (.row v 1 ro ((H0 K N).map U))) (hm:m<=K) (hk:k x h):E6 P f [.sref n v 0 m full] h k:=
 .borrow hc hv (NH hn hm ⟨rfl,VLe.refl _,rfl⟩) hk
theorem E6.bor1d {P:Program} {f:FuncId} {n v K m N:Nat} {ro full:Bool} {d:D} {h:Hp} {k:V->Hp->Prop} {x:V} (hc:C9 P f [.d (.sl 1 full ((H0 m N).map U)),.d d] x) (hv:x.light=true) (hn:h[n]? =some (.row v 1 ro ((H0 K N).map U))) (hm:m<=K) (hk:k x h):E6 P f [.sref n v 0 m full,.d d] h k:=
 .borrow hc hv (NH hn hm ⟨rfl,VLe.refl _,VLe.refl _,rfl⟩) hk
theorem E6.bor2 {P:Program} {f:FuncId} {n v K m N n' v' K' m' N':Nat} {ro full ro' full':Bool} {h:Hp} {k:V->Hp->Prop} {x:V} (hc:C9 P f [.d (.sl 1 full ((H0 m N).map U)),.d (.sl 1 full' ((H0 m' N').map U))] x) (hv:x.light=true) (hne:n≠n') (hn:h[n]? =some (.row v 1 ro ((H0 K N).map U))) (hm:m<=K) (hn':h[n']? =some (.row v' 1 ro' ((H0 K' N').map U))) (hm':m'<=K') (hk:k x h):E6 P f [.sref n v 0 m full,.sref n' v' 0 m' full'] h k:=
 .borrow hc hv (NH hn hm (NH (by rw[C3 hne];exact hn') hm' ⟨rfl,VLe.refl _,VLe.refl _,rfl⟩)) hk
theorem BX {P:Program} {f:FuncId} {args args':List V} {ns:List Nat} {bs:List Blk} {v:V} (hc:C9 P f args' v) (hv:v.light=true) (hl:∀h:Hp,(∀(i m:Nat),ns[i]? =some m->h[m]? =bs[i]?)->O3 args h λds _=>AH ds=true/\LY ds args'):mC P f args ns bs v:=λw S h β argv hp hr hva=>by
 rcases AD (k:=λv' h'=>v'=v/\h'=h) hc hv ⟨rfl,rfl⟩ (hl h hp) w S β argv hr hva with⟨h1,h2⟩|⟨cv,w',h1,v',h',S',β',⟨rfl,rfl⟩,g1,g2,g3⟩
 ·refine .inl ⟨h1,λcs=> ?_⟩
  obtain⟨e,w',fr,⟨cv,he,v',h',S',β',⟨rfl,rfl⟩,g1,g2,g3⟩,r⟩:=h2 cs
  exact⟨e,w',fr,⟨cv,he,S',β',g1,g2,g3⟩,r⟩
 ·exact .inr ⟨cv,w',h1,S',β',g1,g2,g3⟩
theorem H6.bor1d {P:Program} {f:FuncId} {n v K m N:Nat} {ro full:Bool} {d:D} {h:Hp} {k:Res->Prop} {x:V} (hc:C9 P f [.d (.sl 1 full ((H0 m N).map U)),.d d] x) (hv:x.light=true) (hn:h[n]? =some (.row v 1 ro ((H0 K N).map U))) (hm:m<=K) (hk:k (.keep [n] x)):H6 P f [.sref n v 0 m full,.d d] h k:=
 .ofK (BX hc hv (λh' hp=>NH (by have:=hp 0 n rfl;simpa using this) hm ⟨rfl,VLe.refl _,VLe.refl _,rfl⟩)) hn hk
def sW (a b i:Nat):Nat:=(a-b)%2^(64*i)+a/2^(64*i)*2^(64*i)
def QJ (a b i:Nat):Nat:=if a%2^(64*i)<b%2^(64*i) then 1 else 0
theorem MU (a b:Nat):sW a b 0=a:=by unfold sW;simp[gF]
theorem MV (a b:Nat):QJ a b 0=0:=by unfold QJ;simp[gF]
theorem UJ {a b k:Nat} (h:a<2^(64*k)):sW a b k=a-b:=by
 unfold sW
 rw[I9 h,gL,W2,M0 (by omega)]
theorem UI {a b i:Nat} (hba:b<=a):
 (if dg a i<dg b i+QJ a b i then 1 else 0)=QJ a b (i+1)/\QJ a b i<=1/\
 sW a b i-dg a i*2^(64*i)+(dg a i+18446744073709551616-dg b i-QJ a b i)%18446744073709551616*2^(64*i)=sW a b (i+1)/\dg (sW a b i) i=dg a i:=by
 have hp:0<2^(64*i):=G7 (by decide)
 unfold QJ sW dg
 rw[p64]
 generalize hP:2^(64*i)=P at*
 have e1:a%(18446744073709551616*P)=a%P+P*(a/P%18446744073709551616):=by rw[C6,eC]
 have e2:b%(18446744073709551616*P)=b%P+P*(b/P%18446744073709551616):=by rw[C6,eC]
 have e3:(a-b)%(18446744073709551616*P)=(a-b)%P+P*((a-b)/P%18446744073709551616):=by rw[C6,eC]
 have ha:=J7 a hp
 have hb:=J7 b hp
 have hd:=J7 (a-b) hp
 have d1:=O2 a P
 have d2:=O2 b P
 obtain⟨c,hc⟩:∃c,c=if a%P<b%P then 1 else 0:=⟨_,rfl⟩
 rw[<-hc]
 have hc1:c<=1:=by rw[hc];split<;>omega
 have hsub:(a-b)/P=a/P-b/P-c/\b/P+c<=a/P:=by
  have hle:b/P+c<=a/P:=by
   by_cases hlt:a%P<b%P
   ·rw[if_pos hlt] at hc
    subst hc
    by_cases hh:b/P<a/P
    ·exact hh
    ·have:P*(a/P)<=P*(b/P):=fF _ (by omega)
     omega
   ·rw[if_neg hlt] at hc
    subst hc
    exact Nat.div_le_div_right hba
  refine⟨?_,hle⟩
  have e:a-b=(a%P+P*c-b%P)+P*(a/P-b/P-c):=by
   have f1:P*(a/P)=P*(a/P-b/P-c)+P*(b/P)+P*c:=by rw[<-R2,<-R2];congr 1;omega
   by_cases hlt:a%P<b%P
   ·rw[if_pos hlt] at hc
    subst hc
    omega
   ·rw[if_neg hlt] at hc
    subst hc
    omega
  have hs:a%P+P*c-b%P<P:=by
   by_cases hlt:a%P<b%P
   ·rw[if_pos hlt] at hc
    subst hc
    omega
   ·rw[if_neg hlt] at hc
    subst hc
    omega
  rw[e,S7 _ _ hp,I9 hs,C1]
 obtain⟨hs1,hs2⟩:=hsub
 have hx:(a/P%18446744073709551616+18446744073709551616-b/P%18446744073709551616-c)%18446744073709551616=(a-b)/P%18446744073709551616:=by
  rw[hs1]
  generalize a/P=A at*
  generalize b/P=B at*
  omega
 have hdig:((a-b)%P+a/P*P)/P=a/P:=by
  rw[C6,S7 _ _ hp,I9 hd,C1]
 refine⟨?_,hc1,?_,by rw[hdig]⟩
 ·rw[e1,e2]
  generalize a/P%18446744073709551616=x at*
  generalize b/P%18446744073709551616=y at*
  rcases Nat.lt_trichotomy x y with h|h|h
  ·have:P*(x+1)<=P*y:=fF _ h
   rw[R2,L2] at this
   rw[if_pos (by omega),if_pos (by omega)]
  ·subst h
   by_cases hlt:a%P<b%P
   ·rw[if_pos hlt] at hc
    rw[if_pos (by omega),if_pos (by omega)]
   ·rw[if_neg hlt] at hc
    rw[if_neg (by omega),if_neg (by omega)]
  ·have:P*(y+1)<=P*x:=fF _ h
   rw[R2,L2] at this
   rw[if_neg (by omega),if_neg (by omega)]
 ·rw[hx,e3]
  have f2:a/P*P=a/P%18446744073709551616*P+a/(18446744073709551616*P)*(18446744073709551616*P):=by
   rw[show 18446744073709551616*P=P*18446744073709551616 from C6 _ _,<-F4,C6 P,<-I2,<-H5]
   congr 1
   generalize a/P=A
   omega
  rw[f2,C6 P]
  omega
theorem EM (v K k m a b:Nat) (hK:K<2^20) (hk:k<=K) (hm:m<2^20) (ha:a<2^(64*k)) (hb:b<2^(64*m)) (hba:b<=a) (f:Bool):
 M4 Tryz.prog 143 [.sref 0 v 0 k false,.d (.sl 1 f ((H0 m b).map U))] (Blk.row v 1 false ((H0 K a).map U)::[]) λr h'=>r=E5 []/\h'.length=(Blk.row v 1 false ((H0 K a).map U)::[]).length/\h'.all (okB (Blk.row v 1 false ((H0 K a).map U)::[]).length)=true/\
  (h'=Blk.row v 1 false ((H0 K (a-b)).map U)::[]):=by
 have hl:=G9 K a
 refine uP Tryz.func143 ?_
 repeat' ((conv=>whnf);first|refine sT ?_|refine sP ?_ ?_<;>intro _|fail)
 all_goals(conv=>whnf)
 refine lO (X:=XC) (λx=>[(8,.d (I x.i)),(4,.d (U x.c))]) (λx=>[(0,.row v 1 false ((H0 K (sW a b x.i)).map U))]) (λx=>x.i<=k/\x.c=QJ a b x.i) (λx=>k-x.i) ⟨0,0⟩ sam (by dsimp only;rw[MU];rfl) ⟨B9 _,(MV _ _).symm⟩ ?_
 rintro⟨i,c⟩ ⟨hi,hc⟩
 dsimp only at hi hc
 dsimp only
 by_cases hlt:i<k
 ·obtain⟨n1,n2,n3,n4⟩:=UI (i:=i) hba
  rw[<-hc] at n1 n2 n3
  have g1:=pY (i:=(i:Int)) rfl (P5 K (sW a b i) i (by omega))
  rw[show sW a b i/2^(64*i)%18446744073709551616=dg a i from n4] at g1
  have hw:=dJ m b i hb
  have hS:=bits_Sub64 (dg a i) (dg b i) c n2
  have hput:=qG (L:=K) (n:=sW a b i) (i:=i) (x:=(dg a i+18446744073709551616-dg b i-c)%18446744073709551616) (by omega) (J7 _ (by decide))
  rw[n4,n3] at hput
  have q1:=sO (l:=H0 K (sW a b i)) (i:=(i:Int)) rfl (by rw[G9];omega)
  have q2:=sG (i:=(i:Int)) rfl rfl hput
  repeat' ((conv=>whnf);first|refine sT ?_|refine sP ?_ ?_<;>intro _|refine A9 g1 ?_|refine cA (hw f) ?_|refine cA hS ?_|refine J6 q1 q2 ?_|fail)
  all_goals((conv=>whnf);try exact xO)
  exact⟨⟨i+1,_⟩,wE,⟨hlt,n1⟩,by show k-(i+1)<k-i;omega⟩
 ·have hie:i=k:=by omega
  subst hie
  rw[UJ ha]
  repeat' ((conv=>whnf);first|refine sT ?_|refine sP ?_ ?_<;>intro _|fail)
  all_goals((conv=>whnf);try exact xO)
  exact⟨rfl,rfl,rfl⟩
theorem cL (v K k m a b:Nat) (hK:K<2^20) (hk:k<=K) (hm:m<2^20) (ha:a<2^(64*k)) (hb:b<2^(64*m)) (hba:b<=a) (v2 M:Nat) (hM:M<2^20) (hmM:m<=M):
 M4 Tryz.prog 143 [.sref 0 v 0 k false,.sref 1 v2 0 m false] (Blk.row v 1 false ((H0 K a).map U)::[Blk.row v2 1 false ((H0 M b).map U)]) λr h'=>r=E5 []/\h'.length=(Blk.row v 1 false ((H0 K a).map U)::[Blk.row v2 1 false ((H0 M b).map U)]).length/\h'.all (okB (Blk.row v 1 false ((H0 K a).map U)::[Blk.row v2 1 false ((H0 M b).map U)]).length)=true/\
  (h'=Blk.row v 1 false ((H0 K (a-b)).map U)::[Blk.row v2 1 false ((H0 M b).map U)]):=by
 have hl:=G9 K a
 refine uP Tryz.func143 ?_
 repeat' ((conv=>whnf);first|refine sT ?_|refine sP ?_ ?_<;>intro _|fail)
 all_goals(conv=>whnf)
 refine lO (X:=XC) (λx=>[(8,.d (I x.i)),(4,.d (U x.c))]) (λx=>[(0,.row v 1 false ((H0 K (sW a b x.i)).map U))]) (λx=>x.i<=k/\x.c=QJ a b x.i) (λx=>k-x.i) ⟨0,0⟩ sam (by dsimp only;rw[MU];rfl) ⟨B9 _,(MV _ _).symm⟩ ?_
 rintro⟨i,c⟩ ⟨hi,hc⟩
 dsimp only at hi hc
 dsimp only
 by_cases hlt:i<k
 ·obtain⟨n1,n2,n3,n4⟩:=UI (i:=i) hba
  rw[<-hc] at n1 n2 n3
  have g1:=pY (i:=(i:Int)) rfl (P5 K (sW a b i) i (by omega))
  rw[show sW a b i/2^(64*i)%18446744073709551616=dg a i from n4] at g1
  have hw:=dJ m b i hb
  have hS:=bits_Sub64 (dg a i) (dg b i) c n2
  have hput:=qG (L:=K) (n:=sW a b i) (i:=i) (x:=(dg a i+18446744073709551616-dg b i-c)%18446744073709551616) (by omega) (J7 _ (by decide))
  rw[n4,n3] at hput
  have q1:=sO (l:=H0 K (sW a b i)) (i:=(i:Int)) rfl (by rw[G9];omega)
  have q2:=sG (i:=(i:Int)) rfl rfl hput
  repeat' ((conv=>whnf);first|refine sT ?_|refine sP ?_ ?_<;>intro _|refine A9 g1 ?_|refine E6.bor1d (hw _) rfl (K:=M) rfl (by omega) ?_|refine H6.bor1d (hw _) rfl (K:=M) rfl (by omega) ?_|refine cA hS ?_|refine J6 q1 q2 ?_|fail)
  all_goals((conv=>whnf);try exact xO)
  exact⟨⟨i+1,_⟩,wE,⟨hlt,n1⟩,by show k-(i+1)<k-i;omega⟩
 ·have hie:i=k:=by omega
  subst hie
  rw[UJ ha]
  repeat' ((conv=>whnf);first|refine sT ?_|refine sP ?_ ?_<;>intro _|fail)
  all_goals((conv=>whnf);try exact xO)
  exact⟨rfl,rfl,rfl⟩
def jS (d a i:Nat):Nat:=d%2^(64*i)+a/2^(64*i)*2^(64*i)
theorem ND (d a:Nat):jS d a 0=a:=by unfold jS;simp[gF]
theorem A9m {d a k:Nat} (h:a<2^(64*k)) (hd:d<=a):jS d a k=d:=by
 unfold jS
 rw[I9 h,gL,W2,M0 (by omega)]
theorem pP {d a i j:Nat} (h:i<=j):jS d a i/2^(64*j)=a/2^(64*j):=by
 have hp:0<2^(64*i):=G7 (by decide)
 obtain⟨e,rfl⟩:∃e,j=i+e:=⟨j-i,by omega⟩
 rw[R2,H2,<-F4,<-F4]
 congr 1
 unfold jS
 rw[C6 (a/_),S7 _ _ hp,I9 (J7 _ hp),C1]
theorem NE (d a i:Nat):jS d a i-dg a i*2^(64*i)+dg d i*2^(64*i)=jS d a (i+1):=by
 have hp:0<2^(64*i):=G7 (by decide)
 unfold jS dg
 rw[p64]
 generalize hP:2^(64*i)=P at*
 have e3:d%(18446744073709551616*P)=d%P+P*(d/P%18446744073709551616):=by rw[C6,eC]
 have f2:a/P*P=a/P%18446744073709551616*P+a/(18446744073709551616*P)*(18446744073709551616*P):=by
  rw[show 18446744073709551616*P=P*18446744073709551616 from C6 _ _,<-F4,C6 P,<-I2,<-H5]
  congr 1
  generalize a/P=A
  omega
 rw[f2,e3,C6 P]
 omega
theorem A7x {N m:Nat} (hm:m<64):N/2^m%18446744073709551616=N%18446744073709551616/2^m+N/18446744073709551616%18446744073709551616*2^(64-m)%18446744073709551616/\
 N%18446744073709551616/2^m<2^(64-m):=by
 have hp:0<2^m:=G7 (by decide)
 have e:(18446744073709551616:Nat)=2^m*2^(64-m):=by rw[<-H2,show m+(64-m)=64 by omega]
 generalize hQ:2^(64-m)=Q at*
 generalize 2^m=M at*
 have hq:0<Q:=by rw[<-hQ];exact G7 (by decide)
 rw[e]
 have hlt:N%(M*Q)/M<Q:=by
  rw[O1 hp,C6 Q]
  exact J7 _ (aV hp hq)
 refine⟨?_,hlt⟩
 have h1:N/(M*Q)%(M*Q)*Q%(M*Q)=N/(M*Q)%M*Q:=by
  rw[show M*Q=Q*M from C6 _ _,C6 _ Q,Nat.mul_mod_mul_left,C6 Q M,qR,C6]
 have h2:N%(M*Q)/M=N/M%Q:=xJ _ _ _
 rw[h1,h2,<-F4,show M*Q=Q*M from C6 _ _,eC,C6 Q]
theorem dg_shr (n q m i:Nat) (hm:m<64):dg (n/2^(64*q+m)) i=dg n (i+q)/2^m+dg n (i+q+1)*2^(64-m)%18446744073709551616/\dg n (i+q)/2^m<2^(64-m):=by
 unfold dg
 have:=A7x (N:=n/2^(64*(i+q))) hm
 rw[F4,F4] at this
 rw[F4,<-H2,show 64*q+m+64*i=64*(i+q)+m by omega,H2,p64 (i+q),C6 18446744073709551616]
 exact this
theorem aH (v K k n z:Nat) (hK:K<2^20) (hk:k<=K) (h:n<2^(64*k)) (hz:z<2^30):
 M4 Tryz.prog 141 [.sref 0 v 0 k false,.d (I z)] [.row v 1 false ((H0 K n).map U)] λr h'=>okV [Blk.row v 1 false ((H0 K n).map U)].length r=true/\h'.length=[Blk.row v 1 false ((H0 K n).map U)].length/\h'.all (okB [Blk.row v 1 false ((H0 K n).map U)].length)=true/\
  (r=.sref 0 v 0 (nw (n/2^z)) false/\h'=[.row v 1 false ((H0 K (n/2^z)).map U)]):=by
 obtain⟨q,m,hm,rfl⟩:∃q m,m<64/\z=64*q+m:=⟨z/64,z%64,by omega,by omega⟩
 have hl:=G9 K n
 have ej:(((64*q+m:Nat):Int)).tdiv 64=((q:Nat):Int):=by rw[show(64:Int)=((64:Nat):Int) from rfl,wX];congr 1;omega
 have em:(((64*q+m:Nat):Int)).tmod 64=((m:Nat):Int):=by rw[show(64:Int)=((64:Nat):Int) from rfl,CT];congr 1;omega
 obtain⟨d,hd⟩:∃d,d=n/2^(64*q+m):=⟨_,rfl⟩
 have hdn:d<=n:=by rw[hd];exact N5 _ _
 rw[<-hd]
 refine mI (E:=P9 Tryz.prog tt Tryz.f141.ntmps) (I6 T5 mixed) Tryz.func141 (by rfl) rfl (B5 rfl) ?_
 repeat' ((conv=>whnf);first|refine Wr.i64 ((q:Nat):Int) ej (by omega) ?_|refine Wr.i64 ((m:Nat):Int) em (by omega) ?_|refine sT ?_|refine sP ?_ ?_<;>intro _|fail)
 all_goals(conv=>whnf)
 rw[em]
 refine lO (X:=Nat) (λi=>[(14,.d (I i))]) (λi=>[(0,.row v 1 false ((H0 K (jS d n i)).map U))]) (λi=>i<=k) (λi=>k-i) 0 sam (by rw[ND];rfl) (B9 _) ?_
 intro i hi
 by_cases hlt:i<k
 ·have hmx:jS d n i<2^(64*k):=by
   have:=pP (d:=d) (a:=n) (i:=i) (j:=k) hi
   rw[I9 h] at this
   rcases Nat.div_eq_zero_iff.1 this with h3|h3
   ·have:0<2^(64*k):=G7 (by decide)
    omega
   ·exact h3
  have w1:=dJ k (jS d n i) (i+q) hmx
  have w2:=dJ k (jS d n i) (i+q+1) hmx
  rw[show dg (jS d n i) (i+q)=dg n (i+q) from by unfold dg;rw[pP (by omega)]] at w1
  rw[show dg (jS d n i) (i+q+1)=dg n (i+q+1) from by unfold dg;rw[pP (by omega)]] at w2
  obtain⟨s1,s2⟩:=dg_shr n q m i hm
  rw[<-hd] at s1
  have g1:=pY (i:=(i:Int)) rfl (P5 K (jS d n i) i (by omega))
  obtain⟨x,hx⟩:∃x,x=dg n (i+q):=⟨_,rfl⟩
  obtain⟨y,hy⟩:∃y,y=dg n (i+q+1):=⟨_,rfl⟩
  have hxl:=qH n (i+q)
  rw[<-hx] at w1 s1 s2 hxl
  rw[<-hy] at w2 s1
  have esh:((x:Nat):Int).fdiv (2^min ((m:Nat):Int).toNat (IntKind.bits .u64))=((x/2^m:Nat):Int):=by
   rw[show(min ((m:Nat):Int).toNat (IntKind.bits .u64))=m from by show min _ 64=_;omega,R7 _ (gR (PA (by decide)))]
   rw[fH,P1];rfl
  obtain⟨t,ht⟩:∃t,t=y*2^(64-m)%18446744073709551616:=⟨_,rfl⟩
  have esl:IntKind.u64.wrap (((y:Nat):Int)*2^min (64-((m:Nat):Int)).toNat (IntKind.bits .u64))=((t:Nat):Int):=by
   rw[show(min (64-((m:Nat):Int)).toNat (IntKind.bits .u64))=64-m from by show min _ 64=_;omega,ht]
   rw[show((y:Nat):Int)*2^(64-m)=((y*2^(64-m):Nat):Int) from by rw[Q5,P1];rfl]
   simp[IntKind.wrap,IntKind.bits,IntKind.signed]
  have htl:t<18446744073709551616:=by rw[ht];exact J7 _ (by decide)
  have htd:∃u,t=u*2^(64-m):=by
   refine⟨y%2^m,?_⟩
   have e:(18446744073709551616:Nat)=2^m*2^(64-m):=by rw[<-H2,show m+(64-m)=64 by omega]
   rw[ht,e,Nat.mul_mod_mul_right]
  have eor:eX .or .u64 (((x:Nat):Int).fdiv (2^min ((m:Nat):Int).toNat (IntKind.bits .u64))) ((t:Nat):Int)=((dg d i:Nat):Int):=by
   have hxm:x/2^m<18446744073709551616:=I4 (N5 _ _) hxl
   obtain⟨u,hu⟩:=htd
   rw[esh,A8w hxm htl,hu,HQ s2,<-hu,s1,ht]
  have hput:=qG (L:=K) (n:=jS d n i) (i:=i) (x:=dg d i) (by omega) (qH _ _)
  rw[show dg (jS d n i) i=dg n i from by unfold dg;rw[pP (B1 _)],NE] at hput
  have q1:=sO (l:=H0 K (jS d n i)) (i:=(i:Int)) rfl (by rw[G9];omega)
  have q2:=sG (i:=(i:Int)) rfl eor hput
  repeat' ((conv=>whnf);first|refine Wr.is esl ?_|refine sT ?_|refine sP ?_ ?_<;>intro _|refine A9 g1 ?_|refine E6.bor1d (w1 _) rfl (K:=K) rfl (by omega) ?_|refine H6.bor1d (w1 _) rfl (K:=K) rfl (by omega) ?_|refine E6.bor1d (w2 _) rfl (K:=K) rfl (by omega) ?_|refine H6.bor1d (w2 _) rfl (K:=K) rfl (by omega) ?_|refine J6 q1 q2 ?_|fail)
  all_goals((conv=>whnf);try exact xO)
  exact⟨i+1,wE,hlt,by omega⟩
 ·have hie:i=k:=by omega
  subst hie
  rw[A9m h hdn]
  have hdl:d<2^(64*i):=by omega
  have hT:=xC v K i d (by omega) hk hdl
  repeat' ((conv=>whnf);first|refine sT ?_|refine sP ?_ ?_<;>intro _|fail)
  all_goals((conv=>whnf);try exact xO)
  refine E6.updV rfl rfl hT [0] (by decide) rfl rfl (gY rfl) ?_
  ·rintro _ _ ⟨rfl,rfl⟩ _
   exact⟨rfl,rfl,rfl,rfl⟩
theorem FL {a b:Nat} (h:b<=a):fE a b=0∨fE a b=1:=by unfold fE;rw[if_neg (by omega)];split<;>simp
theorem zG (a b:Nat) (ha:lim a) (hb:lim b) (hab:b<=a):C9 Tryz.prog 163 [.d (sD a),.d (sD b)] (E5 [sD (a-b),I 0]):=by
 have k1:=lP ha
 have k2:=lP hb
 have hS:=Q7 (nw a) (a-b) (by omega) (by have:=R9 a;omega)
 have hC:=cM (nw a) (nw b) a b (by omega) (by omega) (cX a) (cX b)
 have hcg:=FL hab
 have hR:=cL 0 (nw a) (nw a) (nw b) a b (by omega) (B1 _) (by omega) (R9 a) (R9 b) hab 0 (nw b) (by omega) (B1 _)
 have hc:=BU ha hb
 have w1:=lF ha
 have w2:=lF hb
 have l1:=G9 (nw a) a
 have l2:=G9 (nw b) b
 refine pU Tryz.func163 ?_
 have m1:((H0 (nw a) a).map U).length=nw a:=by rw[A6,l1]
 have m3:nw a=((H0 (nw a) (a-b)).map U).length:=by rw[A6,G9]
 have m2:((H0 (nw b) b).map U).length=nw b:=by rw[A6,l2]
 repeat' ((conv=>whnf);first|refine sT ?_|refine sP ?_ ?_<;>intro _|refine cA hc ?_|refine E6.ofRow w1 ?_|refine E6.ofRow w2 ?_|fail)
 all_goals((conv=>whnf);try exact xO)
 rw[m1,m2]
 refine E6.bor2 (hC _ _) rfl (by decide) (K:=nw a) rfl (by omega) (K':=nw b) rfl (by omega) ?_
 repeat' ((conv=>whnf);first|refine sT ?_|refine sP ?_ ?_<;>intro _|fail)
 all_goals((conv=>whnf);try exact xO)
 refine E6.upd rfl rfl hR [0,1] (by decide) rfl rfl (gY rfl) ?_
 ·rintro _ rfl _
  refine⟨_,WkH.refl _,?_⟩
  repeat' ((conv=>whnf);first|refine sT ?_|refine sP ?_ ?_<;>intro _|refine cA (hS _) ?_|refine Nam.mk (whole m3) ?_|refine E6.lift ?_|fail)
  all_goals exact fJ
structure DQ (u d Y y1 y0 q r:Nat):Prop where
 eq:u=q*y1+r
 up:u*4294967296+d<q*Y+Y
structure DN (u d Y y1 y0:Nat):Prop where
 y:Y=y1*4294967296+y0
 lo:y0<4294967296
 hi:y1<4294967296
 top:2147483648<=y1
 u:u<Y
 d:d<4294967296
theorem A0g {u d Y y1 y0:Nat} (N:DN u d Y y1 y0) (q:Nat):q*Y=q*y1*4294967296+q*y0:=by
 rw[N.y,R2,I2]
theorem A2u {u d Y y1 y0:Nat} (N:DN u d Y y1 y0):DQ u d Y y1 y0 (u/y1) (u-u/y1*y1)/\u-u/y1*y1<4294967296/\u/y1*y1<=u:=by
 have h1:=O2 u y1
 have h2:=J7 u (show 0<y1 by have:=N.top;omega)
 rw[C6] at h1
 have:=A0g N (u/y1)
 have:=N.hi
 have:=N.y
 have:=N.d
 refine⟨⟨by omega,?_⟩,by omega,by omega⟩
 omega
theorem RR {u d Y y1 y0 q r:Nat} (N:DN u d Y y1 y0) (h:DQ u d Y y1 y0 q r) (hc:4294967296<=q∨4294967296*r+d<q*y0):0<q/\DQ u d Y y1 y0 (q-1) (r+y1):=by
 have e:=A0g N q
 have hq:0<q:=by
  rcases H3 q with h0|h0
  ·subst h0;simp at hc
  ·exact h0
 obtain⟨p,rfl⟩:∃p,q=p+1:=⟨q-1,by omega⟩
 have e1:(p+1)*Y=p*Y+Y:=by rw[H5,V4]
 have e2:(p+1)*y1=p*y1+y1:=by rw[H5,V4]
 have heq:=h.eq
 have hu:=N.u
 have hd:=N.d
 refine⟨hq,⟨by rw[V5];omega,?_⟩⟩
 rw[V5,<-e1]
 rcases hc with hc|hc
 ·have h3:4294967296*Y<=(p+1)*Y:=D6 _ hc
  omega
 ·omega
theorem vW {u d Y y1 y0 q r:Nat} (N:DN u d Y y1 y0) (h:DQ u d Y y1 y0 q r) (h2:q*y0<=4294967296*r+d):q=(u*4294967296+d)/Y/\u*4294967296+d=q*Y+(u*4294967296+d)%Y:=by
 have e:=A0g N q
 have heq:=h.eq
 have hup:=h.up
 have hle:q*Y<=u*4294967296+d:=by omega
 have hq:q=(u*4294967296+d)/Y:=by
  refine(Nat.div_eq_of_lt_le hle ?_).symm
  rw[H5,V4];exact hup
 refine⟨hq,?_⟩
 have:=O2 (u*4294967296+d) Y
 rw[<-hq,C6] at this
 omega
theorem JW {u d Y y1 y0 q r:Nat} (N:DN u d Y y1 y0) (h:DQ u d Y y1 y0 q r) (hr:4294967296<=r):q<4294967296/\q*y0<=4294967296*r+d:=by
 have heq:=h.eq
 have hu:=N.u
 have hy:=N.y
 have hlo:=N.lo
 have hq:q<4294967296:=by
  rcases gN q 4294967296 with h1|h1
  ·exact h1
  ·have h3:4294967296*y1<=q*y1:=D6 _ h1
   omega
 refine⟨hq,?_⟩
 have:q*y0<=4294967296*4294967296:=G6 (by omega) (by omega)
 omega
theorem B5e {u d Y y1 y0:Nat} (N:DN u d Y y1 y0):(u*4294967296+d)/Y<4294967296:=by
 have h1:=N.u
 have h2:=N.d
 have h3:=N.y
 have h4:=N.top
 rw[O1 (by omega)]
 omega
theorem B0w {N Q y S R0 Y:Nat} (hp:0<S) (hY:Y=y*S) (hy:0<Y) (e2:N*S=Q*Y+R0) (h3:R0<Y):N/y=Q/\N%y=R0/S:=by
 subst hY
 have hypos:0<y:=by
  rcases H3 y with h0|h0
  ·subst h0;rw[gL] at hy;omega
  ·exact h0
 have e3:Q*y<=N:=by
  refine Nat.le_of_mul_le_mul_right ?_ hp
  rw[I2]
  omega
 obtain⟨D,rfl⟩:∃D,N=Q*y+D:=⟨N-Q*y,by omega⟩
 have e4:R0=D*S:=by
  rw[H5,I2] at e2
  omega
 subst e4
 have hD:D<y:=Nat.lt_of_mul_lt_mul_right h3
 rw[Nat.mul_div_cancel _ hp]
 constructor
 ·rw[C6,tJ hypos,I9 hD,W2]
 ·rw[C6,mO,M0 hD]
theorem B4i {hi lo y s H u L Y l1 l0 Q1 R1 Q0 R0:Nat} (hs:s<64) (hH:H=hi*2^s) (hu:u=H+lo/2^(64-s)) (hL:L=lo*2^s%18446744073709551616) (hY:Y=y*2^s) (hl:L=l1*4294967296+l0) (hy:0<Y)
 (h1:Q1*Y+R1=u*4294967296+l1) (h2:Q0*Y+R0=R1*4294967296+l0) (h3:R0<Y):(hi*18446744073709551616+lo)/y=Q1*4294967296+Q0/\(hi*18446744073709551616+lo)%y=R0/2^s:=by
 have hp:0<2^s:=G7 (by decide)
 have hsp:(18446744073709551616:Nat)=2^s*2^(64-s):=by rw[<-H2,show s+(64-s)=64 by omega]
 have e1:lo*2^s=lo/2^(64-s)*18446744073709551616+L:=by
  have:=O2 (lo*2^s) 18446744073709551616
  rw[<-hL] at this
  rw[<-this]
  congr 1
  rw[C6]
  congr 1
  conv=>lhs;rw[hsp]
  rw[C6,Nat.mul_div_mul_left _ _ hp]
 generalize lo/2^(64-s)=g at*
 have e2:(hi*18446744073709551616+lo)*2^s=(Q1*4294967296+Q0)*Y+R0:=by
  rw[H5,H5,e1]
  have f1:hi*18446744073709551616*2^s=H*18446744073709551616:=by rw[hH,Nat.mul_right_comm]
  have f2:Q1*4294967296*Y=Q1*Y*4294967296:=Nat.mul_right_comm _ _ _
  rw[f1,f2]
  omega
 exact B0w hp hY hy e2 h3
structure WE (k:IntKind) (n m:Int):Prop where
 e:k.wrap n=m
theorem A0q (hi lo y:Nat) (hlo:lo<18446744073709551616) (hy:y<18446744073709551616) (hhi:hi<y):C9 Tryz.prog 145 [.d (U hi),.d (U lo),.d (U y)] (E5 [U ((hi*18446744073709551616+lo)/y),U ((hi*18446744073709551616+lo)%y)]):=by
 refine pU Tryz.func145 ?_
 by_cases h0:hi=0
 ·subst h0
  rw[gL,C1]
  have hq:=wX lo y
  have hr:=CT lo y
  have hl:lo/y<18446744073709551616:=I4 (N5 _ _) hlo
  generalize lo/y=q at*
  generalize lo%y=r at*
  repeat' ((conv=>whnf);first|refine Wr.u64 (q:Int) hq (by omega) ?_|refine sT ?_|refine sP ?_ ?_<;>intro _|fail)
  all_goals((conv=>whnf);try exact xO)
  rw[hr]
  exact⟨DLe.refl _,DLe.refl _,rfl⟩
 ·obtain⟨s,hs,hs1,hs2⟩:∃s,s<64/\y<2^(64-s)/\2^(63-s)<=y:=by
   refine⟨63-y.log2,by omega,?_,?_⟩
   ·rw[show 64-(63-y.log2)=y.log2+1 by have:=(Nat.log2_lt (by omega:y≠0)).2 (show y<2^64 from hy);omega]
    exact Nat.lt_log2_self
   ·rw[show 63-(63-y.log2)=y.log2 by have:=(Nat.log2_lt (by omega:y≠0)).2 (show y<2^64 from hy);omega]
    exact Nat.log2_self_le (by omega)
  have hB:Go.Lib.bitLen y=64-s:=ON hs1 (λ_=>by rw[show 64-s-1=63-s by omega];exact hs2) hy
  have hL:=bits_LeadingZeros64 y hy
  rw[hB,show(64:Int)-((64-s:Nat):Int)=((s:Nat):Int) by omega] at hL
  have hp:0<2^s:=G7 (by decide)
  have hsp:(18446744073709551616:Nat)=2^s*2^(64-s):=by rw[<-H2,show s+(64-s)=64 by omega]
  have hsp2:(9223372036854775808:Nat)=2^s*2^(63-s):=by rw[<-H2,show s+(63-s)=63 by omega]
  obtain⟨Y,hY⟩:∃Y,Y=y*2^s:=⟨_,rfl⟩
  have hYl:Y<18446744073709551616:=by rw[hY,hsp,C6];exact Nat.mul_lt_mul_of_pos_left hs1 hp
  have hYt:9223372036854775808<=Y:=by rw[hY,hsp2,C6];exact D6 _ hs2
  have eY:((y:Nat):Int)*2^min ((s:Nat):Int).toNat (IntKind.bits .u64)=((Y:Nat):Int):=by
   rw[show(min ((s:Nat):Int).toNat (IntKind.bits .u64))=s from by show min _ 64=_;omega,hY,Q5,P1];rfl
  obtain⟨H,hH⟩:∃H,H=hi*2^s:=⟨_,rfl⟩
  have hHl:H+2^s<=Y:=by rw[hH,hY,<-P3];exact D6 _ hhi
  have eH:((hi:Nat):Int)*2^min ((s:Nat):Int).toNat (IntKind.bits .u64)=((H:Nat):Int):=by
   rw[show(min ((s:Nat):Int).toNat (IntKind.bits .u64))=s from by show min _ 64=_;omega,hH,Q5,P1];rfl
  have eL:IntKind.u64.wrap (((lo:Nat):Int)*2^min ((s:Nat):Int).toNat (IntKind.bits .u64))=((lo*2^s%18446744073709551616:Nat):Int):=by
   rw[show(min ((s:Nat):Int).toNat (IntKind.bits .u64))=s from by show min _ 64=_;omega]
   rw[show((lo:Nat):Int)*2^s=((lo*2^s:Nat):Int) from by rw[Q5,P1];rfl]
   simp[IntKind.wrap,IntKind.bits,IntKind.signed]
  obtain⟨L,hL2⟩:∃L,L=lo*2^s%18446744073709551616:=⟨_,rfl⟩
  rw[<-hL2] at eL
  obtain⟨u,hu⟩:∃u,u=H+lo/2^(64-s):=⟨_,rfl⟩
  have hlos:lo/2^(64-s)<2^s:=by rw[O1 (G7 (by decide)),<-hsp];exact hlo
  have huY:u<Y:=by omega
  have e64:64-((s:Nat):Int)=((64-s:Nat):Int):=by omega
  have eU:eX .or .u64 ((H:Nat):Int) (((lo:Nat):Int).fdiv (2^min (((64-s:Nat):Int)).toNat (IntKind.bits .u64)))=((u:Nat):Int):=by
   rw[show(min (((64-s:Nat):Int)).toNat (IntKind.bits .u64))=64-s from by show min _ 64=_;omega,R7 _ (gR (PA (by decide)))]
   rw[show((lo:Nat):Int)/2^(64-s)=((lo/2^(64-s):Nat):Int) from by rw[fH,P1];rfl]
   rw[A8w (by omega) (by omega),Nat.or_comm,hH,HQ hlos,hu,hH]
   congr 1;omega
  obtain⟨y1,hy1⟩:∃y1,y1=Y/4294967296:=⟨_,rfl⟩
  obtain⟨y0,hy0⟩:∃y0,y0=Y%4294967296:=⟨_,rfl⟩
  have e1:((Y:Nat):Int).fdiv (2^min (Int.toNat 32) (IntKind.bits .u64))=((y1:Nat):Int):=by
   rw[show(2:Int)^min (Int.toNat 32) (IntKind.bits .u64)=4294967296 from rfl,R7 _ (by decide),hy1];rfl
  obtain⟨l1,hl1⟩:∃l1,l1=L/4294967296:=⟨_,rfl⟩
  obtain⟨l0,hl0⟩:∃l0,l0=L%4294967296:=⟨_,rfl⟩
  have eL1:((L:Nat):Int).fdiv (2^min (Int.toNat 32) (IntKind.bits .u64))=((l1:Nat):Int):=by
   rw[show(2:Int)^min (Int.toNat 32) (IntKind.bits .u64)=4294967296 from rfl,R7 _ (by decide),hl1];rfl
  have hLl:L<18446744073709551616:=by rw[hL2];exact J7 _ (by decide)
  have and32:∀x:Nat,x<18446744073709551616->eX .and .u64 (x:Int) 4294967295=((x%4294967296:Nat):Int):=λx hx=>by
   have:=B5h (x:=x) (y:=4294967295) hx (by decide)
   rw[show(4294967295:Nat)=2^32-1 from rfl,Nat.and_two_pow_sub_one_eq_mod] at this
   exact this
  have e0:=and32 Y hYl
  have eL0:=and32 L hLl
  rw[<-hy0] at e0
  rw[<-hl0] at eL0
  have N1:DN u l1 Y y1 y0:=⟨by omega,by omega,by omega,by omega,huY,by omega⟩
  obtain⟨i1,i2,i3⟩:=A2u N1
  obtain⟨q,hq⟩:∃q,q=u/y1:=⟨_,rfl⟩
  have hql:q<=u:=by rw[hq];exact N5 _ _
  rw[<-hq] at i1 i2 i3
  repeat' ((conv=>whnf);first|refine Wr.u64 (s:Int) rfl (by omega) ?_|refine Wr.u64 (Y:Int) eY (by omega) ?_|refine Wr.u64 (H:Int) eH (by omega) ?_|refine Wr.is eL ?_|refine Wr.u64 _ e64 (by omega) ?_|refine sT ?_|refine sP ?_ ?_<;>intro _|refine cA hL ?_|fail)
  all_goals((conv=>whnf);try exact xO)
  rw[eU,e1,e0,eL0,eL1]
  have eQ:=wX u y1
  rw[<-hq] at eQ
  have eR:(q:Int)*(y1:Int)=((q*y1:Nat):Int):=(Q5 _ _).symm
  obtain⟨qy,hqy⟩:∃qy,qy=q*y1:=⟨_,rfl⟩
  rw[<-hqy] at eR i1 i2 i3
  have eS:(u:Int)-(qy:Int)=((u-qy:Nat):Int):=by omega
  obtain⟨r,hr⟩:∃r,r=u-qy:=⟨_,rfl⟩
  rw[<-hr] at eS i1 i2
  repeat' ((conv=>whnf);first|refine Chk.mk (show ¬((y1:Nat):Int)=0 by omega) ?_|refine Wr.u64 (q:Int) eQ (by omega) ?_|refine Wr.u64 _ eR (by omega) ?_|refine Wr.u64 _ eS (by omega) ?_|refine sT ?_|refine sP ?_ ?_<;>intro _|fail)
  all_goals((conv=>whnf);try exact xO)
  have hQd:=O2 (u*4294967296+l1) Y
  obtain⟨Q1,hQ1⟩:∃Q1,Q1=(u*4294967296+l1)/Y:=⟨_,rfl⟩
  obtain⟨R1,hR1⟩:∃R1,R1=(u*4294967296+l1)%Y:=⟨_,rfl⟩
  have hR1l:R1<Y:=by rw[hR1];exact J7 _ (by omega)
  have hQ1l:Q1<4294967296:=by rw[hQ1];exact B5e N1
  rw[<-hQ1,<-hR1,C6] at hQd
  have a1:IntKind.u64.wrap ((u:Int)*4294967296)=((u*4294967296%18446744073709551616:Nat):Int):=by simp[IntKind.wrap,IntKind.bits,IntKind.signed]
  obtain⟨b1,hb1⟩:∃b1,b1=u*4294967296%18446744073709551616:=⟨_,rfl⟩
  rw[<-hb1] at a1
  have a2:IntKind.u64.wrap ((b1:Int)+(l1:Int))=(((b1+l1)%18446744073709551616:Nat):Int):=by simp[IntKind.wrap,IntKind.bits,IntKind.signed]
  obtain⟨b2,hb2⟩:∃b2,b2=(b1+l1)%18446744073709551616:=⟨_,rfl⟩
  rw[<-hb2] at a2
  have a3:IntKind.u64.wrap ((Q1:Int)*(Y:Int))=((Q1*Y%18446744073709551616:Nat):Int):=by rw[<-Q5];simp[IntKind.wrap,IntKind.bits,IntKind.signed]
  obtain⟨p1,hp1⟩:∃p1,p1=Q1*Y:=⟨_,rfl⟩
  obtain⟨b3,hb3⟩:∃b3,b3=Q1*Y%18446744073709551616:=⟨_,rfl⟩
  rw[<-hb3] at a3
  have a4:IntKind.u64.wrap ((b2:Int)-(b3:Int))=(R1:Int):=by
   simp only[IntKind.wrap,IntKind.bits,IntKind.signed]
   rw[<-hp1] at hQd hb3
   simp
   omega
  have N0:DN R1 l0 Y y1 y0:=⟨N1.y,N1.lo,N1.hi,N1.top,hR1l,by omega⟩
  obtain⟨j1,j2,j3⟩:=A2u N0
  obtain⟨t,ht⟩:∃t,t=R1/y1:=⟨_,rfl⟩
  have htl:t<=R1:=by rw[ht];exact N5 _ _
  have fQ:=wX R1 y1
  rw[<-ht] at j1 j2 j3 fQ
  have fR:(t:Int)*(y1:Int)=((t*y1:Nat):Int):=(Q5 _ _).symm
  obtain⟨ty,hty⟩:∃ty,ty=t*y1:=⟨_,rfl⟩
  rw[<-hty] at fR j1 j2 j3
  have fS:(R1:Int)-(ty:Int)=((R1-ty:Nat):Int):=by omega
  obtain⟨w,hw⟩:∃w,w=R1-ty:=⟨_,rfl⟩
  rw[<-hw] at fS j1 j2
  have hQe:=O2 (R1*4294967296+l0) Y
  obtain⟨Q0,hQ0⟩:∃Q0,Q0=(R1*4294967296+l0)/Y:=⟨_,rfl⟩
  obtain⟨R0,hR0⟩:∃R0,R0=(R1*4294967296+l0)%Y:=⟨_,rfl⟩
  have hR0l:R0<Y:=by rw[hR0];exact J7 _ (by omega)
  have hQ0l:Q0<4294967296:=by rw[hQ0];exact B5e N0
  rw[<-hQ0,<-hR0,C6] at hQe
  have c1:IntKind.u64.wrap ((R1:Int)*4294967296)=((R1*4294967296%18446744073709551616:Nat):Int):=by simp[IntKind.wrap,IntKind.bits,IntKind.signed]
  obtain⟨d1,hd1⟩:∃d1,d1=R1*4294967296%18446744073709551616:=⟨_,rfl⟩
  rw[<-hd1] at c1
  have c2:IntKind.u64.wrap ((d1:Int)+(l0:Int))=(((d1+l0)%18446744073709551616:Nat):Int):=by simp[IntKind.wrap,IntKind.bits,IntKind.signed]
  obtain⟨d2,hd2⟩:∃d2,d2=(d1+l0)%18446744073709551616:=⟨_,rfl⟩
  rw[<-hd2] at c2
  have c3:IntKind.u64.wrap ((Q0:Int)*(Y:Int))=((Q0*Y%18446744073709551616:Nat):Int):=by rw[<-Q5];simp[IntKind.wrap,IntKind.bits,IntKind.signed]
  obtain⟨p0,hp0⟩:∃p0,p0=Q0*Y:=⟨_,rfl⟩
  obtain⟨d3,hd3⟩:∃d3,d3=Q0*Y%18446744073709551616:=⟨_,rfl⟩
  rw[<-hd3] at c3
  have c4:IntKind.u64.wrap ((d2:Int)-(d3:Int))=(R0:Int):=by
   simp only[IntKind.wrap,IntKind.bits,IntKind.signed]
   rw[<-hp0] at hQe hd3
   simp
   omega
  obtain⟨qm,hqm⟩:∃qm,qm=Q1*4294967296:=⟨_,rfl⟩
  obtain⟨qs,hqs⟩:∃qs,qs=Q1*4294967296+Q0:=⟨_,rfl⟩
  have cm:(Q1:Int)*4294967296=(qm:Int):=by omega
  have cq:(qm:Int)+(Q0:Int)=(qs:Int):=by omega
  have eF:((R0:Nat):Int).fdiv (2^min ((s:Nat):Int).toNat (IntKind.bits .u64))=((R0/2^s:Nat):Int):=by
   rw[show(min ((s:Nat):Int).toNat (IntKind.bits .u64))=s from by show min _ 64=_;omega,R7 _ (gR (PA (by decide)))]
   rw[fH,P1];rfl
  have hfin:(hi*18446744073709551616+lo)/y=Q1*4294967296+Q0/\(hi*18446744073709551616+lo)%y=R0/2^s:=by
   exact B4i (s:=s) hs hH hu hL2 hY (by omega) (show 0<Y by omega) hQd hQe hR0l
  obtain⟨hf1,hf2⟩:=hfin
  rw[<-hqs] at hf1
  rw[hf1,hf2]
  have y1l:y1<4294967296:=N1.hi
  have y1t:2147483648<=y1:=N1.top
  have y0l:y0<4294967296:=N1.lo
  have l1l:l1<4294967296:=N1.d
  have l0l:l0<4294967296:=N0.d
  replace a1:WE _ _ _:=⟨a1⟩
  replace a2:WE _ _ _:=⟨a2⟩
  replace a3:WE _ _ _:=⟨a3⟩
  replace a4:WE _ _ _:=⟨a4⟩
  replace c1:WE _ _ _:=⟨c1⟩
  replace c2:WE _ _ _:=⟨c2⟩
  replace c3:WE _ _ _:=⟨c3⟩
  replace c4:WE _ _ _:=⟨c4⟩
  clear hf1 hf2 hb1 hb2 hb3 hd1 hd2 hd3 hQd hQe hp1 hp0 hR1 hR0 hy1 hy0 hl1 hl0 hu hlos hH hHl eU e1 e0 eL eL0 eL1 eH eY hY hs1 hs2 hsp hsp2 hp hB hL hL2 and32 e64 hLl hr hqy eR eS eQ
  refine lO (X:=XV) (λx=>[(16,.d (U x.v)),(15,.d (U x.i)),(2,.d (U Y))]) (λ_=>[]) (λx=>DQ u l1 Y y1 y0 x.i x.v/\x.v<4294967296/\x.i<=u) (λx=>x.i) ⟨q,r⟩ sam rfl ⟨i1,i2,by dsimp only;omega⟩ ?_
  rintro⟨q,r⟩ ⟨hI,hrA,hqu⟩
  dsimp only at hI hrA hqu
  dsimp only
  have eP:(q:Int)*(y0:Int)=((q*y0:Nat):Int):=(Q5 _ _).symm
  obtain⟨rx,hrx⟩:∃rx,rx=4294967296*r:=⟨_,rfl⟩
  have ex:(4294967296:Int)*(r:Int)=(rx:Int):=by omega
  obtain⟨ry,hry⟩:∃ry,ry=rx+l1:=⟨_,rfl⟩
  have ey:(rx:Int)+(l1:Int)=(ry:Int):=by omega
  have hst:=RR N1 hI
  have hex:=vW N1 hI
  have hqp:q<4294967296->q*y0<18446744073709551616:=λh=>by
   have:q*y0<=4294967295*4294967295:=G6 (by omega) (by omega)
   omega
  rw[<-hQ1] at hex
  obtain⟨m,hm⟩:∃m,m=q*y0:=⟨_,rfl⟩
  rw[<-hm] at eP hst hqp hex
  by_cases hC:4294967296<=q∨4294967296*r+l1<m
  ·obtain⟨hq0,hI2⟩:=hst hC
   obtain⟨p,rfl⟩:∃p,q=p+1:=⟨q-1,by omega⟩
   rw[V5] at hI2
   have hbr:=JW N1 hI2
   have hex2:=vW N1 hI2
   rw[<-hQ1] at hex2
   have ep:((p+1:Nat):Int)-1=(p:Int):=by omega
   obtain⟨rs,hrs⟩:∃rs,rs=r+y1:=⟨_,rfl⟩
   have es:(r:Int)+(y1:Int)=(rs:Int):=by omega
   rw[<-hrs] at hI2 hbr hex2
   by_cases hlt:rs<4294967296
   ·repeat' ((conv=>whnf);first|(with_reducible first|refine Wr.u64 _ eP (by omega) ?_|refine Wr.u64 _ ex (by omega) ?_|refine Wr.u64 _ ey (by omega) ?_|refine Wr.u64 _ ep (by omega) ?_|refine Wr.u64 _ es (by omega) ?_)|refine sT ?_|refine sP ?_ ?_<;>intro _|fail)
    all_goals((conv=>whnf);try exact xO)
    all_goals exact⟨⟨p,rs⟩,wE,⟨hI2,hlt,by dsimp only;omega⟩,by show p<p+1;omega⟩
   ·obtain⟨hp1,hp2⟩:=hbr (by omega)
    obtain⟨hp3,hp4⟩:=hex2 hp2
    obtain rfl:Q1=p:=hp3.symm
    repeat' ((conv=>whnf);first|(with_reducible first|refine Wr.u64 _ eP (by omega) ?_|refine Wr.u64 _ ex (by omega) ?_|refine Wr.u64 _ ey (by omega) ?_|refine Wr.u64 _ ep (by omega) ?_|refine Wr.u64 _ es (by omega) ?_|refine Chk.mk (show ¬((y1:Nat):Int)=0 by omega) ?_|refine Wr.is a1.e ?_|refine Wr.is a2.e ?_|refine Wr.is a3.e ?_|refine Wr.is a4.e ?_|refine Wr.u64 (t:Int) fQ (by omega) ?_|refine Wr.u64 _ fR (by omega) ?_|refine Wr.u64 _ fS (by omega) ?_)|refine sT ?_|refine sP ?_ ?_<;>intro _|fail)
    all_goals((conv=>whnf);try exact xO)
    all_goals(
     refine lO (X:=XV) (λx=>[(16,.d (U x.v)),(18,.d (U x.i)),(2,.d (U Y)),(15,.d (U Q1))]) (λ_=>[]) (λx=>DQ R1 l0 Y y1 y0 x.i x.v/\x.v<4294967296/\x.i<=R1) (λx=>x.i) ⟨t,w⟩ sam rfl ⟨j1,j2,by dsimp only;omega⟩ ?_
     rintro⟨q,r⟩ ⟨hI,hrA,hqu⟩
     dsimp only at hI hrA hqu
     dsimp only
     have eP:(q:Int)*(y0:Int)=((q*y0:Nat):Int):=(Q5 _ _).symm
     obtain⟨rx,hrx⟩:∃rx,rx=4294967296*r:=⟨_,rfl⟩
     have ex:(4294967296:Int)*(r:Int)=(rx:Int):=by omega
     obtain⟨ry,hry⟩:∃ry,ry=rx+l0:=⟨_,rfl⟩
     have ey:(rx:Int)+(l0:Int)=(ry:Int):=by omega
     have hst:=RR N0 hI
     have hex:=vW N0 hI
     have hqp:q<4294967296->q*y0<18446744073709551616:=λh=>by
      have:q*y0<=4294967295*4294967295:=G6 (by omega) (by omega)
      omega
     rw[<-hQ0] at hex
     obtain⟨m,hm⟩:∃m,m=q*y0:=⟨_,rfl⟩
     rw[<-hm] at eP hst hqp hex
     by_cases hC:4294967296<=q∨4294967296*r+l0<m
     ·obtain⟨hq0,hI2⟩:=hst hC
      obtain⟨p,rfl⟩:∃p,q=p+1:=⟨q-1,by omega⟩
      rw[V5] at hI2
      have hbr:=JW N0 hI2
      have hex2:=vW N0 hI2
      rw[<-hQ0] at hex2
      have ep:((p+1:Nat):Int)-1=(p:Int):=by omega
      obtain⟨rs,hrs⟩:∃rs,rs=r+y1:=⟨_,rfl⟩
      have es:(r:Int)+(y1:Int)=(rs:Int):=by omega
      rw[<-hrs] at hI2 hbr hex2
      by_cases hlt:rs<4294967296
      ·repeat' ((conv=>whnf);first|(with_reducible first|refine Wr.u64 _ eP (by omega) ?_|refine Wr.u64 _ ex (by omega) ?_|refine Wr.u64 _ ey (by omega) ?_|refine Wr.u64 _ ep (by omega) ?_|refine Wr.u64 _ es (by omega) ?_)|refine sT ?_|refine sP ?_ ?_<;>intro _|fail)
       all_goals((conv=>whnf);try exact xO)
       all_goals exact⟨⟨p,rs⟩,wE,⟨hI2,hlt,by dsimp only;omega⟩,by show p<p+1;omega⟩
      ·obtain⟨hp1,hp2⟩:=hbr (by omega)
       obtain⟨hp3,hp4⟩:=hex2 hp2
       obtain rfl:Q0=p:=hp3.symm
       repeat' ((conv=>whnf);first|(with_reducible first|refine Wr.u64 _ eP (by omega) ?_|refine Wr.u64 _ ex (by omega) ?_|refine Wr.u64 _ ey (by omega) ?_|refine Wr.u64 _ ep (by omega) ?_|refine Wr.u64 _ es (by omega) ?_|refine Wr.u64 _ cm (by omega) ?_|refine Wr.u64 _ cq (by omega) ?_|refine Wr.is c1.e ?_|refine Wr.is c2.e ?_|refine Wr.is c3.e ?_|refine Wr.is c4.e ?_)|refine sT ?_|refine sP ?_ ?_<;>intro _|fail)
       all_goals((conv=>whnf);try exact xO)
       all_goals(
        rw[eF]
        exact⟨DLe.refl _,DLe.refl _,rfl⟩)
     ·obtain⟨hp3,hp4⟩:=hex (by omega)
      obtain rfl:Q0=q:=hp3.symm
      repeat' ((conv=>whnf);first|(with_reducible first|refine Wr.u64 _ eP (by omega) ?_|refine Wr.u64 _ ex (by omega) ?_|refine Wr.u64 _ ey (by omega) ?_|refine Wr.u64 _ cm (by omega) ?_|refine Wr.u64 _ cq (by omega) ?_|refine Wr.is c1.e ?_|refine Wr.is c2.e ?_|refine Wr.is c3.e ?_|refine Wr.is c4.e ?_)|refine sT ?_|refine sP ?_ ?_<;>intro _|fail)
      all_goals((conv=>whnf);try exact xO)
      all_goals(
       rw[eF]
       exact⟨DLe.refl _,DLe.refl _,rfl⟩))
  ·obtain⟨hp3,hp4⟩:=hex (by omega)
   obtain rfl:Q1=q:=hp3.symm
   repeat' ((conv=>whnf);first|(with_reducible first|refine Wr.u64 _ eP (by omega) ?_|refine Wr.u64 _ ex (by omega) ?_|refine Wr.u64 _ ey (by omega) ?_|refine Chk.mk (show ¬((y1:Nat):Int)=0 by omega) ?_|refine Wr.is a1.e ?_|refine Wr.is a2.e ?_|refine Wr.is a3.e ?_|refine Wr.is a4.e ?_|refine Wr.u64 (t:Int) fQ (by omega) ?_|refine Wr.u64 _ fR (by omega) ?_|refine Wr.u64 _ fS (by omega) ?_)|refine sT ?_|refine sP ?_ ?_<;>intro _|fail)
   all_goals((conv=>whnf);try exact xO)
   all_goals(
    refine lO (X:=XV) (λx=>[(16,.d (U x.v)),(18,.d (U x.i)),(2,.d (U Y)),(15,.d (U Q1))]) (λ_=>[]) (λx=>DQ R1 l0 Y y1 y0 x.i x.v/\x.v<4294967296/\x.i<=R1) (λx=>x.i) ⟨t,w⟩ sam rfl ⟨j1,j2,by dsimp only;omega⟩ ?_
    rintro⟨q,r⟩ ⟨hI,hrA,hqu⟩
    dsimp only at hI hrA hqu
    dsimp only
    have eP:(q:Int)*(y0:Int)=((q*y0:Nat):Int):=(Q5 _ _).symm
    obtain⟨rx,hrx⟩:∃rx,rx=4294967296*r:=⟨_,rfl⟩
    have ex:(4294967296:Int)*(r:Int)=(rx:Int):=by omega
    obtain⟨ry,hry⟩:∃ry,ry=rx+l0:=⟨_,rfl⟩
    have ey:(rx:Int)+(l0:Int)=(ry:Int):=by omega
    have hst:=RR N0 hI
    have hex:=vW N0 hI
    have hqp:q<4294967296->q*y0<18446744073709551616:=λh=>by
     have:q*y0<=4294967295*4294967295:=G6 (by omega) (by omega)
     omega
    rw[<-hQ0] at hex
    obtain⟨m,hm⟩:∃m,m=q*y0:=⟨_,rfl⟩
    rw[<-hm] at eP hst hqp hex
    by_cases hC:4294967296<=q∨4294967296*r+l0<m
    ·obtain⟨hq0,hI2⟩:=hst hC
     obtain⟨p,rfl⟩:∃p,q=p+1:=⟨q-1,by omega⟩
     rw[V5] at hI2
     have hbr:=JW N0 hI2
     have hex2:=vW N0 hI2
     rw[<-hQ0] at hex2
     have ep:((p+1:Nat):Int)-1=(p:Int):=by omega
     obtain⟨rs,hrs⟩:∃rs,rs=r+y1:=⟨_,rfl⟩
     have es:(r:Int)+(y1:Int)=(rs:Int):=by omega
     rw[<-hrs] at hI2 hbr hex2
     by_cases hlt:rs<4294967296
     ·repeat' ((conv=>whnf);first|(with_reducible first|refine Wr.u64 _ eP (by omega) ?_|refine Wr.u64 _ ex (by omega) ?_|refine Wr.u64 _ ey (by omega) ?_|refine Wr.u64 _ ep (by omega) ?_|refine Wr.u64 _ es (by omega) ?_)|refine sT ?_|refine sP ?_ ?_<;>intro _|fail)
      all_goals((conv=>whnf);try exact xO)
      all_goals exact⟨⟨p,rs⟩,wE,⟨hI2,hlt,by dsimp only;omega⟩,by show p<p+1;omega⟩
     ·obtain⟨hp1,hp2⟩:=hbr (by omega)
      obtain⟨hp3,hp4⟩:=hex2 hp2
      obtain rfl:Q0=p:=hp3.symm
      repeat' ((conv=>whnf);first|(with_reducible first|refine Wr.u64 _ eP (by omega) ?_|refine Wr.u64 _ ex (by omega) ?_|refine Wr.u64 _ ey (by omega) ?_|refine Wr.u64 _ ep (by omega) ?_|refine Wr.u64 _ es (by omega) ?_|refine Wr.u64 _ cm (by omega) ?_|refine Wr.u64 _ cq (by omega) ?_|refine Wr.is c1.e ?_|refine Wr.is c2.e ?_|refine Wr.is c3.e ?_|refine Wr.is c4.e ?_)|refine sT ?_|refine sP ?_ ?_<;>intro _|fail)
      all_goals((conv=>whnf);try exact xO)
      all_goals(
       rw[eF]
       exact⟨DLe.refl _,DLe.refl _,rfl⟩)
    ·obtain⟨hp3,hp4⟩:=hex (by omega)
     obtain rfl:Q0=q:=hp3.symm
     repeat' ((conv=>whnf);first|(with_reducible first|refine Wr.u64 _ eP (by omega) ?_|refine Wr.u64 _ ex (by omega) ?_|refine Wr.u64 _ ey (by omega) ?_|refine Wr.u64 _ cm (by omega) ?_|refine Wr.u64 _ cq (by omega) ?_|refine Wr.is c1.e ?_|refine Wr.is c2.e ?_|refine Wr.is c3.e ?_|refine Wr.is c4.e ?_)|refine sT ?_|refine sP ?_ ?_<;>intro _|fail)
     all_goals((conv=>whnf);try exact xO)
     all_goals(
      rw[eF]
      exact⟨DLe.refl _,DLe.refl _,rfl⟩))
theorem UD (x:ByteArray):x.toList=x.data.toList:=by rw[ByteArray.toList_eq]
theorem B3c {x y:ByteArray} (h:x.toList=y.toList):x=y:=by
 rw[UD,UD] at h
 cases x;cases y
 simp only at h
 congr 1
 exact Array.toList_inj.1 h
theorem be_inj:∀{m n:Nat},be m=be n->m=n:=by
 intro m
 induction m using Nat.strongRecOn with
 |_ m ih=>
  intro n h
  rcases H3 m with h0|h0
  ·subst h0
   rcases H3 n with h1|h1
   ·exact h1.symm
   ·have:=eZ h1
    rw[<-h,dZ] at this;simp at this
  ·rcases H3 n with h1|h1
   ·subst h1
    have:=eZ h0
    rw[h,dZ] at this;simp at this
   ·rw[yG h0,yG h1] at h
    obtain⟨e1,e2⟩:=List.append_inj' h rfl
    have e3:=ih (m/256) (by omega) e1
    have e4:(UInt8.ofNat (m%256)).toNat=(UInt8.ofNat (n%256)).toNat:=by rw[(List.cons.inj e2).1]
    rw[mX,mX] at e4
    omega
theorem B2v {m n:Nat} (h:str m=str n):m=n:=be_inj (by unfold str at h;simpa using h)
theorem LH {m n:Nat}:(str m).toList=(str n).toList↔m=n:=⟨λh=>B2v (B3c h),λh=>by rw[h]⟩
theorem fP:str 0=⟨#[]⟩:=by unfold str;rw[dZ]
theorem A1x:str 1=⟨#[1]⟩:=by
 unfold str
 rw[yG (by decide),show(1:Nat)/256=0 from rfl,dZ];rfl
theorem A7i {b:Nat} (h:0<b):¬(str b).toList=(⟨#[]⟩:ByteArray).toList:=by
 rw[<-fP,LH];omega
theorem nA (l:List Nat) (hl:l.length<2^20) (f:Bool):T8 Tryz.prog 140 [.d (.sl 1 f (l.map U))] 1 (l.map U):=by
 refine rO Tryz.func140 ?_
 repeat' ((conv=>whnf);first|refine sT ?_|refine sP ?_ ?_<;>intro _|refine MA.both (λh=> ?_) ?_|fail)
 all_goals(conv=>whnf)
 ·have h:l=[]:=by simpa using h
  subst h;rfl
 ·exact Nam.mk (y:=l.map U) (by simp only[V7,C1,G5,O4,I5]) rfl
theorem H6.bor1 {P:Program} {f:FuncId} {n v K m N:Nat} {ro full:Bool} {h:Hp} {k:Res->Prop} {x:V} (hc:C9 P f [.d (.sl 1 full ((H0 m N).map U))] x) (hv:x.light=true) (hn:h[n]? =some (.row v 1 ro ((H0 K N).map U))) (hm:m<=K) (hk:k (.keep [n] x)):H6 P f [.sref n v 0 m full] h k:=
 .ofK (BX hc hv (λh' hp=>NH (by have:=hp 0 n rfl;simpa using this) hm ⟨rfl,VLe.refl _,rfl⟩)) hn hk
theorem A3a (n:Nat):∃s,n<2^s/\(0<s->2^(s-1)<=n):=by
 rcases H3 n with h|h
 ·exact⟨0,by subst h;decide,λh=>absurd h (by decide)⟩
 ·exact⟨n.log2+1,Nat.lt_log2_self,λ_=>Nat.log2_self_le (by omega)⟩
theorem B0u {a b r v i:Nat} (hb:0<b) (hr:r=a/2^(64*(i+1))%b) (hv:v=a/2^(64*(i+1))/b*2^(64*(i+1))):
 (r*18446744073709551616+dg a i)/b<18446744073709551616/\(r*18446744073709551616+dg a i)%b=a/2^(64*i)%b/\
 ∀k,i<k->(H0 k v).set i ((r*18446744073709551616+dg a i)/b)=H0 k (a/2^(64*i)/b*2^(64*i)):=by
 have hp:0<2^(64*i):=G7 (by decide)
 have hd:a/2^(64*(i+1))=a/2^(64*i)/18446744073709551616:=by rw[p64,F4,C6]
 rw[hd] at hr hv
 rw[p64] at hv
 unfold dg
 generalize hA:a/2^(64*i)=A at*
 have e1:=O2 A 18446744073709551616
 generalize hA1:A/18446744073709551616=A1 at*
 generalize hA0:A%18446744073709551616=A0 at*
 have hA0l:A0<18446744073709551616:=by rw[<-hA0];exact J7 _ (by decide)
 have e2:=O2 A1 b
 rw[<-hr] at e2
 have hrb:r<b:=by rw[hr];exact J7 _ hb
 generalize A1/b=c at*
 have e3:A=b*(c*18446744073709551616)+(r*18446744073709551616+A0):=by
  rw[<-I2]
  omega
 have hq:(r*18446744073709551616+A0)/b<18446744073709551616:=by
  rw[O1 hb]
  have:(r+1)*18446744073709551616<=b*18446744073709551616:=D6 _ hrb
  omega
 have e4:A/b=c*18446744073709551616+(r*18446744073709551616+A0)/b:=by
  conv=>lhs;rw[e3]
  rw[tJ hb]
 refine⟨hq,?_,λk hk=> ?_⟩
 ·conv=>rhs;rw[e3]
  rw[mO]
 ·have h0:v/2^(64*i)%18446744073709551616=0:=by
   rw[hv,<-I2,Nat.mul_div_cancel _ hp,Nat.mul_mod_left]
  have:=nV k v i ((r*18446744073709551616+A0)/b) hk (by rw[h0,C1];exact hq)
  rw[h0,C1] at this
  rw[this,e4,hv]
  congr 1
  rw[H5,I2]
theorem A4o {d a k:Nat} (h:a<2^(64*k)) (hd:d<2^(64*k)):jS d a k=d:=by
 unfold jS
 rw[I9 h,gL,W2,M0 hd]
def RV (R c j:Nat):Nat:=(2*(R%2^(64*j))+c)/2^(64*j)
theorem A5r (R c:Nat):RV R c 0=c:=by unfold RV;simp[gF]
theorem B1c {R c j:Nat} (hc:c<=1):RV R c j<=1/\dg (2*R+c) j=dg R j*2%18446744073709551616+RV R c j/\RV R c (j+1)=dg R j/9223372036854775808:=by
 have hp:0<2^(64*j):=G7 (by decide)
 unfold RV dg
 rw[p64]
 generalize 2^(64*j)=P at*
 have h1:=J7 R hp
 have d1:=O2 R P
 have e1:R%(18446744073709551616*P)=R%P+P*(R/P%18446744073709551616):=by rw[C6,eC]
 have e2:(2*R+c)/P=2*(R/P)+(2*(R%P)+c)/P:=by
  conv=>lhs;rw[show 2*R+c=(2*(R%P)+c)+P*(2*(R/P)) by rw[oX];omega]
  rw[S7 _ _ hp,kK]
 have hcl:(2*(R%P)+c)/P<=1:=by
  have:(2*(R%P)+c)/P<2:=by rw[O1 hp];omega
  omega
 generalize hcc:(2*(R%P)+c)/P=cc at*
 refine⟨hcl,?_,?_⟩
 ·rw[e2]
  generalize R/P=A
  omega
 ·rw[e1]
  generalize R/P%18446744073709551616=x
  rw[C6 18446744073709551616,<-F4,show 2*(R%P+P*x)+c=(2*(R%P)+c)+P*(2*x) by rw[R2,oX];omega,S7 _ _ hp,hcc]
  omega
theorem B1s {a b i:Nat} (hb:0<b):let R:=a/2^(i+1)%b;let c:=a/2^i%2;let Q:=a/2^(i+1)/b*2^(i+1)
 2*R+c<2*b/\(2*R+c<b->2*R+c=a/2^i%b/\Q=a/2^i/b*2^i)/\(b<=2*R+c->2*R+c-b=a/2^i%b/\Q+2^i=a/2^i/b*2^i):=by
 dsimp only
 rw[U8,<-F4]
 generalize a/2^i=A
 generalize 2^i=P
 have e1:=O2 A 2
 have e2:=O2 (A/2) b
 have h1:=J7 (A/2) hb
 generalize A/2/b=q at*
 generalize A/2%b=r at*
 generalize A%2=c at*
 have hc:c<2:=by omega
 have e3:A=b*(2*q)+(2*r+c):=by
  rw[oX]
  omega
 refine⟨by omega,λh=> ?_,λh=> ?_⟩
 ·have h2:A/b=2*q:=by rw[e3,tJ hb,I9 h,W2]
  have h3:A%b=2*r+c:=by rw[e3,mO,M0 h]
  rw[h2,h3]
  refine⟨rfl,?_⟩
  rw[C6 P 2,<-I2,C6 q 2]
 ·have hs:2*r+c-b<b:=by omega
  have e4:A=b*(2*q+1)+(2*r+c-b):=by rw[R2,L2];omega
  have h2:A/b=2*q+1:=by rw[e4,tJ hb,I9 hs,W2]
  have h3:A%b=2*r+c-b:=by rw[e4,mO,M0 hs]
  rw[h2,h3]
  refine⟨rfl,?_⟩
  rw[C6 P 2,<-I2,C6 q 2,H5,V4]
theorem B4p {X i k:Nat} (hi:i/64<k):dg (X*2^(i+1)) (i/64) ||| 2^(i%64)<18446744073709551616/\(H0 k (X*2^(i+1))).set (i/64) (dg (X*2^(i+1)) (i/64) ||| 2^(i%64))=H0 k (X*2^(i+1)+2^i):=by
 obtain⟨q,m,hm,rfl⟩:∃q m,m<64/\i=64*q+m:=⟨i/64,i%64,by omega,by omega⟩
 rw[show(64*q+m)/64=q by omega,show(64*q+m)%64=m by omega] at*
 have hp:0<2^(64*q):=G7 (by decide)
 have e:X*2^(64*q+m+1)/2^(64*q)=X*2^(m+1):=by
  rw[show 64*q+m+1=(m+1)+64*q by omega,H2,<-I2,Nat.mul_div_cancel _ hp]
 have e2:(18446744073709551616:Nat)=2^(63-m)*2^(m+1):=by rw[<-H2,show 63-m+(m+1)=64 by omega]
 have hdg:dg (X*2^(64*q+m+1)) q=X%2^(63-m)*2^(m+1):=by
  unfold dg
  rw[e,e2,Nat.mul_mod_mul_right]
 have hlt:X%2^(63-m)*2^(m+1)+2^m<18446744073709551616:=by
  have h1:=J7 X (G7 (by decide):0<2^(63-m))
  have h2:(X%2^(63-m)+1)*2^(m+1)<=2^(63-m)*2^(m+1):=D6 _ h1
  rw[<-e2,H5,V4] at h2
  have:2^m<2^(m+1):=Y3 (by decide) (by omega)
  omega
 have hor:X%2^(63-m)*2^(m+1) ||| 2^m=X%2^(63-m)*2^(m+1)+2^m:=by
  rw[Nat.or_comm,HQ (Y3 (by decide) (by omega)),kK]
 have hs:=nV k (X*2^(64*q+m+1)) q (2^m) hi (by
  have:X*2^(64*q+m+1)/2^(64*q)%18446744073709551616=dg (X*2^(64*q+m+1)) q:=rfl
  rw[this,hdg];exact hlt)
 rw[hdg,hor]
 refine⟨hlt,?_⟩
 have:X*2^(64*q+m+1)/2^(64*q)%18446744073709551616=X%2^(63-m)*2^(m+1):=hdg
 rw[this] at hs
 rw[hs,<-H2,kK m]
theorem bit_at {a i:Nat}:a/2^(64*(i/64))%18446744073709551616/2^(i%64)%2=a/2^i%2:=by
 have e:(18446744073709551616:Nat)=2^(i%64)*2^(64-i%64):=by rw[<-H2,show i%64+(64-i%64)=64 by omega]
 rw[e,xJ,F4,<-H2,show 64*(i/64)+i%64=i by omega,show 64-i%64=(63-i%64)+1 by omega,U8,C6 _ 2,qR]
structure XD3 where
 j:Nat
 r:Nat
 q:Nat
theorem zI (a b:Nat) (ha:lim a) (hb:lim b) (hb0:0<b):C9 Tryz.prog 60 [.d (sD a),.d (sD b)] (E5 [sD (a/b),sD (a%b),I 0]):=by
 have k1:=lP ha
 have k2:=lP hb
 have hc:=BU ha hb
 have w1:=lF ha
 have w2:=lF hb
 have hne:=A7i hb0
 have hC:=cM (nw a) (nw b) a b (by omega) (by omega) (cX a) (cX b)
 have l1:=G9 (nw a) a
 have l2:=G9 (nw b) b
 have m1:((H0 (nw a) a).map U).length=nw a:=by rw[A6,l1]
 have m2:((H0 (nw b) b).map U).length=nw b:=by rw[A6,l2]
 refine pU Tryz.func60 ?_
 repeat' ((conv=>whnf);first|refine Dec.f hne ?_|refine sT ?_|refine sP ?_ ?_<;>intro _|refine cA hc ?_|refine E6.ofRow w1 ?_|refine E6.ofRow w2 ?_|fail)
 all_goals((conv=>whnf);try exact xO)
 rw[m1,m2]
 refine E6.lift ?_
 repeat' ((conv=>whnf);first|refine sT ?_|refine sP ?_ ?_<;>intro _|refine Nam.mk (whole m1.symm) ?_|refine Nam.mk (whole m2.symm) ?_|refine bO Tryz.func100 ?_|fail)
 all_goals((conv=>whnf);try exact xO)
 by_cases hab:a<b
 ·rw[I9 hab,M0 hab]
  have hT0:=Q7 0 0 (by decide) (by decide) false
  have hTa:=Q7 (nw a) a (by omega) (R9 a)
  have hcv:fE a b= -1:=by unfold fE;rw[if_pos hab]
  rw[hcv] at hC
  refine E6.of (hC _ _) ?_
  repeat' ((conv=>whnf);first|refine sT ?_|refine sP ?_ ?_<;>intro _|fail)
  all_goals((conv=>whnf);try exact xO)
  refine E6.le ?_ hT0 ?_
  ·exact⟨VLe.d (DLe.nil _ _ _),rfl⟩
  repeat' ((conv=>whnf);first|refine sT ?_|refine sP ?_ ?_<;>intro _|refine cA (hTa _) ?_|refine Nam.mk (whole m1.symm) ?_|refine E6.lift ?_|fail)
  all_goals((conv=>whnf);try exact xO)
  exact⟨DLe.refl _,DLe.refl _,DLe.refl _,rfl⟩
 ·have hcv:fE a b=0∨fE a b=1:=FL (by omega)
  refine E6.of (hC _ _) ?_
  by_cases hb1:nw b=1
  ·repeat' ((conv=>whnf);first|refine sT ?_|refine sP ?_ ?_<;>intro _|fail)
   all_goals((conv=>whnf);try exact xO)
   have e0:List.replicate ((nw a:Nat):Int).toNat (Q9 ⟨.int .u64,1,8,[.i .u64 0]⟩)=(H0 (nw a) 0).map U:=by
    rw[B0,cN,M8];rfl
   rw[l1,l2,e0,B0]
   have hbl:b<18446744073709551616:=by have:=R9 b;rw[hb1] at this;exact this
   refine lO (X:=XV) (λx=>[(7,.d (I ((x.i:Int)-1))),(6,.d (U (a/2^(64*x.i)%b)))]) (λx=>[(5,.row 0 1 false ((H0 (nw a) x.v).map U))])
    (λx=>x.i<=nw a/\x.v=a/2^(64*x.i)/b*2^(64*x.i)) (λx=>x.i) ⟨nw a,0⟩ (by
      dsimp only
      rw[I9 (R9 a),Nat.zero_mod]
      exact sam) rfl ⟨B1 _,by dsimp only;rw[I9 (R9 a),Nat.zero_div,gL]⟩ ?_
   rintro⟨j,v⟩ ⟨hj,hv⟩
   dsimp only at hj hv
   dsimp only
   by_cases hj0:0<j
   ·obtain⟨i,rfl⟩:∃i,j=i+1:=⟨j-1,by omega⟩
    rw[show(((i+1:Nat):Int)-1)=(i:Int) by omega]
    obtain⟨r,hr⟩:∃r,r=a/2^(64*(i+1))%b:=⟨_,rfl⟩
    have hrb:r<b:=by rw[hr];exact J7 _ hb0
    rw[<-hr]
    have hD:=A0q r (dg a i) b (qH _ _) hbl hrb
    have g1:=gU (i:=(i:Int)) rfl (P5 (nw a) a i (by omega))
    have g2:=gU (i:=((0:Nat):Int)) rfl (P5 (nw b) b 0 (by omega))
    rw[show b/2^(64*0)%18446744073709551616=b by rw[oW,aO,sS,M0 hbl]] at g2
    obtain⟨d1,d2,d3⟩:=B0u (i:=i) hb0 hr hv
    obtain⟨w,hw⟩:∃w,w=(r*18446744073709551616+dg a i)/b:=⟨_,rfl⟩
    rw[<-hw,d2] at hD
    rw[<-hw] at d1 d3
    have q1:=sO (l:=H0 (nw a) v) (i:=(i:Int)) rfl (by rw[G9];omega)
    have q2:=sG (i:=(i:Int)) rfl rfl (d3 (nw a) (by omega))
    have g3:=pY (i:=(i:Int)) rfl (P5 (nw a) v i (by omega))
    repeat' ((conv=>whnf);first|refine sT ?_|refine sP ?_ ?_<;>intro _|refine A9 g1 ?_|refine A9 g2 ?_|refine A9 g3 ?_|refine cA hD ?_|refine J6 q1 q2 ?_|fail)
    all_goals((conv=>whnf);try exact xO)
    exact⟨⟨i,_⟩,wE,⟨by show i<=nw a;omega,rfl⟩,by show i<i+1;omega⟩
   ·have hje:j=0:=by omega
    subst hje
    simp only[oW,aO,sS,L2] at hv ⊢
    subst hv
    have hTq:=Q7 (nw a) (a/b) (by omega) (by have:=R9 a;have:=N5 a b;omega)
    have hTr:=Q7 1 (a%b) (by decide) (by have:=J7 a hb0;omega) true
    rw[show H0 1 (a%b)=[a%b] from by rw[H0,H0];congr 1;have:=J7 a hb0;omega] at hTr
    have m4:nw a=((H0 (nw a) (a/b)).map U).length:=by rw[A6,G9]
    repeat' ((conv=>whnf);first|refine sT ?_|refine sP ?_ ?_<;>intro _|refine cA (hTq _) ?_|refine cA hTr ?_|refine Nam.mk (whole m4) ?_|refine E6.lift ?_|fail)
    all_goals((conv=>whnf);try exact xO)
    exact⟨DLe.refl _,DLe.refl _,DLe.refl _,rfl⟩
  ·obtain⟨sa,sa1,sa2⟩:=A3a a
   obtain⟨sb,sb1,sb2⟩:=A3a b
   have hsb:0<sb:=by
    rcases H3 sb with h|h
    ·subst h;simp at sb1;omega
    ·exact h
   have hsab:sb<=sa:=by
    have e:2^(sb-1)<2^sa:=by have:=sb2 hsb;omega
    have:=(J9 (by decide:1<2)).1 e
    omega
   have hsal:sa<2^12:=by
    rcases H3 sa with h|h
    ·omega
    ·have h1:=sa2 h
     have e:2^(sa-1)<2^2048:=I4 h1 ha
     have:=(J9 (by decide:1<2)).1 e
     omega
   have hSa:=xD (nw a) a sa (by omega) (cX a) sa1 sa2
   have hSb:=xD (nw b) b sb (by omega) (cX b) sb1 sb2
   have hCl:=nA (H0 (nw a) a) (by omega)
   have e0:List.replicate ((nw a:Nat):Int).toNat (Q9 ⟨.int .u64,1,8,[.i .u64 0]⟩)=(H0 (nw a) 0).map U:=by
    rw[B0,cN,M8];rfl
   have e0b:List.replicate ((nw b:Int)+1).toNat (Q9 ⟨.int .u64,1,8,[.i .u64 0]⟩)=(H0 (nw b+1) 0).map U:=by
    rw[show((nw b:Int)+1).toNat=nw b+1 by omega,cN,M8];rfl
   repeat' ((conv=>whnf);first|refine sT ?_|refine sP ?_ ?_<;>intro _|refine cA (hSa _) ?_|refine cA (hSb _) ?_|fail)
   all_goals((conv=>whnf);try exact xO)
   rw[l1,l2,e0,e0b,show((nw b:Int)+1).toNat=nw b+1 by omega,B0]
   obtain⟨M,hM⟩:∃M,M=sa-sb+1:=⟨_,rfl⟩
   rw[show(sa:Int)-(sb:Int)+1=(M:Int) by omega]
   have hSh:=aH 0 (nw a) (nw a) a M (by omega) (B1 _) (R9 a) (by omega)
   have hXb:a/2^M<b:=by
    refine D3 ?_ (sb2 hsb)
    rw[O1 (G7 (by decide)),<-H2,show sb-1+M=sa by omega]
    exact sa1
   obtain⟨X,hX⟩:∃X,X=a/2^M:=⟨_,rfl⟩
   rw[<-hX] at hSh hXb
   have hXw:nw X<=nw b:=V3 (by have:=R9 b;omega)
   repeat' ((conv=>whnf);first|refine sT ?_|refine sP ?_ ?_<;>intro _|refine E6.ofRow (hCl _) ?_|refine H6.ofRow (hCl _) ?_|fail)
   all_goals(conv=>whnf)
   rw[m1]
   refine H6.updV rfl rfl hSh [9] (by decide) rfl rfl (gY rfl) ?_
   have hXa:nw X<=nw a:=V3 (by
    have h1:=R9 a
    have h2:X<=a:=by rw[hX];exact N5 _ _
    omega)
   have ecp:((List.map U (H0 (nw a) X)).drop 0).take (nw X)=(H0 (nw X) X).map U:=by
    rw[O4,<-mB,vX _ _ _ hXa]
   have ecq:List.take 0 ((H0 (nw b+1) 0).map U)++(H0 (nw X) X).map U++List.drop (0+((H0 (nw X) X).map U).length) ((H0 (nw b+1) 0).map U)=(H0 (nw b+1) X).map U:=by
    rw[List.take_zero,G5,A6,G9,C1,<-List.map_drop,<-D2]
    congr 1
    obtain⟨e,he⟩:∃e,nw b+1=nw X+e:=⟨nw b+1-nw X,by omega⟩
    rw[he,JX (nw X) e X,I9 (R9 X),cN,cN,List.drop_replicate]
    congr 2;omega
   repeat' ((conv=>whnf);first|refine sT ?_|refine sP ?_ ?_<;>intro _|refine Nam.mk ecp ?_|refine Chk.mk ⟨rfl,by rw[A6,G9];omega⟩ ?_|refine Chk.mk ⟨rfl,by rw[A6,G9];omega,by rw[A6,G9];omega⟩ ?_|refine Nam.mk ecq ?_|refine bO Tryz.func147 ?_|refine rA Tryz.func181 ?_|fail)
   all_goals(conv=>whnf)
   refine lY 13 Tryz.f100.ntmps (X:=XD3) (λx=>[(4,.d (I ((x.j:Int)-1)))]) (λx=>[(5,.row 0 1 false ((H0 (nw a) x.q).map U)),(8,.row 0 1 false ((H0 (nw b+1) x.r).map U))])
    (λx=>x.j<=M/\x.r=a/2^x.j%b/\x.q=a/2^x.j/b*2^x.j) (λx=>x.j) ⟨M,X,0⟩ sam rfl ⟨B1 _,by dsimp only;rw[<-hX,M0 hXb],by dsimp only;rw[<-hX,I9 hXb,gL]⟩ ?_
   rintro⟨j,R,Q⟩ ⟨hj,hR,hQ⟩
   dsimp only at hj hR hQ
   dsimp only
   by_cases hj0:0<j
   ·obtain⟨i,rfl⟩:∃i,j=i+1:=⟨j-1,by omega⟩
    rw[show(((i+1:Nat):Int)-1)=(i:Int) by omega]
    have ej:((i:Int)).tdiv 64=((i/64:Nat):Int):=wX i 64
    have em:((i:Int)).tmod 64=((i%64:Nat):Int):=CT i 64
    have hiw:i/64<nw a:=by
     have h1:2^(sa-1)<2^(64*nw a):=I4 (sa2 (by omega)) (R9 a)
     have:=(J9 (by decide:1<2)).1 h1
     omega
    have g1:=gU (i:=((i/64:Nat):Int)) rfl (P5 (nw a) a (i/64) hiw)
    repeat' ((conv=>whnf);first|refine Wr.i64 ((i/64:Nat):Int) ej (by omega) ?_|refine sT ?_|refine sP ?_ ?_<;>intro _|refine A9 g1 ?_|fail)
    all_goals((conv=>whnf);try exact xO)
    obtain⟨c,hc⟩:∃c,c=a/2^i%2:=⟨_,rfl⟩
    have hc1:c<=1:=by omega
    have ebit:eX .and .u64 (((a/2^(64*(i/64))%18446744073709551616:Nat):Int).fdiv (2^min (((i:Nat):Int).tmod 64).toNat (IntKind.bits .u64))) 1=((c:Nat):Int):=by
     rw[em,show(min (((i%64:Nat):Int)).toNat (IntKind.bits .u64))=i%64 from by show min _ 64=_;omega,R7 _ (gR (PA (by decide)))]
     rw[show((a/2^(64*(i/64))%18446744073709551616:Nat):Int)/2^(i%64)=((a/2^(64*(i/64))%18446744073709551616/2^(i%64):Nat):Int) from by rw[fH,P1];rfl]
     have:=B5h (x:=a/2^(64*(i/64))%18446744073709551616/2^(i%64)) (y:=1) (I4 (N5 _ _) (J7 _ (by decide))) (by decide)
     rw[Nat.and_one_is_mod,bit_at,<-hc] at this
     exact this
    rw[ebit]
    have hst:=B1s (a:=a) (b:=b) (i:=i) hb0
    dsimp only at hst
    rw[<-hR,<-hQ,<-hc] at hst
    obtain⟨st1,st2,st3⟩:=hst
    have hbw:=R9 b
    have hpw:=p64 (nw b)
    have hRb:R<b:=by rw[hR];exact J7 _ hb0
    have hRw:R<2^(64*(nw b+1)):=by rw[hpw];omega
    have hDw:2*R+c<2^(64*(nw b+1)):=by rw[hpw];omega
    refine lO (X:=Nat) (λj=>[(71,.d (I j)),(10,.d (U (RV R c j)))]) (λj=>[(8,.row 0 1 false ((H0 (nw b+1) (jS (2*R+c) R j)).map U))]) (λj=>j<=nw b+1) (λj=>nw b+1-j) 0 (by
     rw[A5r];exact sam) (by rw[ND];rfl) (B9 _) ?_
    intro j hjb
    by_cases hjl:j<nw b+1
    ·obtain⟨n1,n2,n3⟩:=B1c (R:=R) (j:=j) hc1
     have g2:=pY (i:=(j:Int)) rfl (P5 (nw b+1) (jS (2*R+c) R j) j hjl)
     rw[show jS (2*R+c) R j/2^(64*j)%18446744073709551616=dg R j from by rw[pP (B1 _)]] at g2
     obtain⟨x,hx⟩:∃x,x=dg R j:=⟨_,rfl⟩
     have hxl:x<18446744073709551616:=by rw[hx];exact qH _ _
     obtain⟨cc,hcc⟩:∃cc,cc=RV R c j:=⟨_,rfl⟩
     rw[<-hx] at g2 n2 n3
     rw[<-hcc] at n1 n2 ⊢
     clear hRw hDw hbw hpw st2 st3 hC w1 w2 hSa hSb hCl hSh e0 e0b ecp ecq ebit g1
     obtain⟨t,ht⟩:∃t,t=x*2%18446744073709551616:=⟨_,rfl⟩
     have htl:t<18446744073709551616:=by omega
     have esl:IntKind.u64.wrap ((x:Int)*2^min (Int.toNat 1) IntKind.u64.bits)=((t:Nat):Int):=by
      rw[show(min (Int.toNat 1) IntKind.u64.bits)=1 from rfl,ht]
      simp[IntKind.wrap,IntKind.bits,IntKind.signed]
     have eor:eX .or .u64 ((t:Nat):Int) ((cc:Nat):Int)=((t+cc:Nat):Int):=by
      rw[A8w htl (by omega)]
      have h1:t=x%9223372036854775808*2^1:=by omega
      rw[h1,Nat.or_comm,HQ (by omega),kK]
     have esh:((x:Nat):Int).fdiv (2^min (Int.toNat 63) IntKind.u64.bits)=((RV R c (j+1):Nat):Int):=by
      rw[n3,show(min (Int.toNat 63) IntKind.u64.bits)=63 from rfl,R7 _ (by decide)]
      rw[fH];rfl
     have hput:=qG (L:=nw b+1) (n:=jS (2*R+c) R j) (i:=j) (x:=t+cc) hjl (by omega)
     rw[show dg (jS (2*R+c) R j) j=dg R j from by unfold dg;rw[pP (B1 _)],show t+cc=dg (2*R+c) j by omega,NE] at hput
     rw[show dg (2*R+c) j=t+cc by omega] at hput
     have q1:=sO (l:=H0 (nw b+1) (jS (2*R+c) R j)) (i:=(j:Int)) rfl (by rw[G9];omega)
     have q2:=sG (i:=(j:Int)) rfl eor hput
     repeat' ((conv=>whnf);first|refine Wr.is esl ?_|refine sT ?_|refine sP ?_ ?_<;>intro _|refine A9 g2 ?_|refine J6 q1 q2 ?_|fail)
     all_goals((conv=>whnf);try exact xO)
     rw[esh]
     exact⟨j+1,wE,hjl,by show nw b+1-(j+1)<nw b+1-j;omega⟩
    ·have hje:j=nw b+1:=by omega
     subst hje
     obtain⟨Dv,hDv⟩:∃Dv,Dv=2*R+c:=⟨_,rfl⟩
     rw[<-hDv] at hDw st1 st2 st3 ⊢
     rw[A4o hRw hDw]
     have hTr:=xC 0 (nw b+1) (nw b+1) Dv (by omega) (B1 _) hDw
     have hXDb:nw Dv<=nw b+1:=V3 hDw
     have hCc:=cM (nw Dv) (nw b) Dv b (by omega) (by omega) (cX _) (cX _)
     have hDw':=hDw
     clear hRw hDw hbw hpw hC w1 w2 hSa hSb hCl hSh e0 e0b ecp ecq ebit g1
     repeat' ((conv=>whnf);first|refine sT ?_|refine sP ?_ ?_<;>intro _|fail)
     all_goals((conv=>whnf);try exact xO)
     refine H6.updV rfl rfl hTr [8] (by decide) rfl rfl (gY rfl) ?_
     by_cases hDb:Dv<b
     ·rw[show fE Dv b= -1 from if_pos hDb] at hCc
      repeat' ((conv=>whnf);first|refine sT ?_|refine sP ?_ ?_<;>intro _|refine H6.bor1d (hCc _ _) rfl (K:=nw b+1) rfl hXDb ?_|fail)
      all_goals((conv=>whnf);try exact xO)
      exact⟨⟨i,Dv,Q⟩,wE,⟨by show i<=M;omega,(st2 hDb).1,(st2 hDb).2⟩,by show i<i+1;omega⟩
     ·have hcv3:fE Dv b=0∨fE Dv b=1:=FL (by omega)
      have hRe:=EM 0 (nw b+1) (nw b+1) (nw b) Dv b (by omega) (B1 _) (by omega) hDw' (R9 b) (by omega)
      repeat' ((conv=>whnf);first|refine sT ?_|refine sP ?_ ?_<;>intro _|refine H6.bor1d (hCc _ _) rfl (K:=nw b+1) rfl hXDb ?_|fail)
      all_goals((conv=>whnf);try exact xO)
      refine E6.upd rfl rfl (hRe _) [8] (by decide) rfl rfl (gY rfl) ?_
      rintro _ rfl -
      refine⟨_,WkH.refl _,?_⟩
      obtain⟨X2,hX2⟩:∃X2,Q=X2*2^(i+1):=⟨_,hQ⟩
      obtain⟨bs1,bs2⟩:=B4p (X:=X2) (i:=i) (k:=nw a) hiw
      rw[<-hX2] at bs1 bs2
      obtain⟨y,hy⟩:∃y,y=dg Q (i/64):=⟨_,rfl⟩
      have hyl:y<18446744073709551616:=by rw[hy];exact qH _ _
      have gq:=pY (i:=((i/64:Nat):Int)) rfl (P5 (nw a) Q (i/64) hiw)
      rw[show Q/2^(64*(i/64))%18446744073709551616=y from hy.symm] at gq
      rw[<-hy] at bs1 bs2
      have hpl:2^(i%64)<18446744073709551616:=by
       have:2^(i%64)<2^64:=Y3 (by decide) (by omega)
       exact this
      have esl:IntKind.u64.wrap (1*2^min (((i:Nat):Int).tmod 64).toNat IntKind.u64.bits)=((2^(i%64):Nat):Int):=by
       rw[em,show(min ((((i%64:Nat):Int))).toNat IntKind.u64.bits)=i%64 from by show min _ 64=_;omega,Int.one_mul,wrap_u64]
       ·rw[P1];rfl
       ·have:((2:Int)^(i%64))=((2^(i%64):Nat):Int):=by rw[P1];rfl
        rw[this];exact⟨Int.natCast_nonneg _,Int.ofNat_lt.2 hpl⟩
      have eor:eX .or .u64 ((y:Nat):Int) ((2^(i%64):Nat):Int)=((y ||| 2^(i%64):Nat):Int):=A8w hyl hpl
      have q1:=sO (l:=H0 (nw a) Q) (i:=((i/64:Nat):Int)) rfl (by rw[G9];exact hiw)
      have q2:=sG (i:=((i/64:Nat):Int)) rfl eor bs2
      repeat' ((conv=>whnf);first|refine Wr.i64 ((i/64:Nat):Int) ej (by omega) ?_|refine Wr.is esl ?_|refine sT ?_|refine sP ?_ ?_<;>intro _|refine A9 gq ?_|refine J6 q1 q2 ?_|fail)
      all_goals((conv=>whnf);try exact xO)
      exact⟨⟨i,Dv-b,Q+2^i⟩,wE,⟨by show i<=M;omega,(st3 (by omega)).1,(st3 (by omega)).2⟩,by show i<i+1;omega⟩
   ·have hje:j=0:=by omega
    subst hje
    simp only[aO,sS,L2] at hR hQ
    subst hR hQ
    have hTq:=Q7 (nw a) (a/b) (by omega) (by have:=R9 a;have:=N5 a b;omega)
    have hTr:=Q7 (nw b+1) (a%b) (by omega) (by have:=R9 b;have:=J7 a hb0;rw[p64];omega)
    have m4:nw a=((H0 (nw a) (a/b)).map U).length:=by rw[A6,G9]
    have m5:nw b+1=((H0 (nw b+1) (a%b)).map U).length:=by rw[A6,G9]
    repeat' ((conv=>whnf);first|refine sT ?_|refine sP ?_ ?_<;>intro _|refine cA (hTq _) ?_|refine cA (hTr _) ?_|refine Nam.mk (whole m4) ?_|refine Nam.mk (whole m5) ?_|refine E6.lift ?_|fail)
    all_goals((conv=>whnf);try exact xO)
    exact⟨DLe.refl _,DLe.refl _,DLe.refl _,rfl⟩
end Go.PM
namespace Go.PM
variable [CN]
variable {P:Program}
theorem bQ {f:FuncId} {args:List V} {sz:Nat} {ys:List D} (hargs:args.all (nmV 0)=true) (hrow:T8 P f args sz ys):C9 P f args (E5 [.sl sz false ys]):=by
 intro w S h β argv hr hv
 obtain⟨β1,r1,e1⟩:=iT (rQ hr.old hr.glob) 1
 have hc:=hrow w S _ β1 argv 0 rfl r1 ⟨hv.1,λj c u hj hu=>by
  exact((hv.2 j c u hj hu).nil (C5.1 hargs _ (A7 hj))).evol e1⟩
 have key:∀(cv:Value) (w':World),(∃S' β',HR w' S' ([Blk.res].set 0 (.row 0 sz false ys)) β'/\VR w' S' ([Blk.res].set 0 (.row 0 sz false ys)) β' (.sref 0 0 0 ys.length false) cv/\F7 w S [Blk.res] β1 w' S' ([Blk.res].set 0 (.row 0 sz false ys)) β')->
  ∃S' β',HR w' S' h β'/\VR w' S' h β' (E5 [.sl sz false ys]) cv/\F7 w S h β w' S' h β':=λcv w' ⟨S',β',hr',hv',hE'⟩=>by
  have hk:eO (.sref 0 0 0 ys.length false) [.row 0 sz false ys] λds=>VLe (nG (.sref 0 0 0 ys.length false) ds) (E5 [.sl sz false ys]):=
   Chk.mk ⟨rfl,by omega⟩ (Nam.mk (y:=ys) (by simp) (vK (Nat.zero_lt_one) (VLe.refl _)))
  obtain⟨ds,hd,hh⟩:=kH hk
  obtain⟨S2,h2,r2,e2,d2⟩:=hh w' S' β' cv hr' hv'
  have eT:=(e1.trans hE').trans e2
  refine⟨S2,β,?_⟩
  have E2:F7 w S h β w' S2 h β:=by
   refine⟨eT.outer,eT.size,λi hi _=>eT.frame i hi ?_,eT.shape,eT.loops,eT.froz,eT.sub,λb o hs=> ?_,eT.cell,λb hb=>.inl hb,B1 _,λm b hm=>⟨b,hm,BEv.refl _ _⟩⟩
   ·rintro⟨m,p,hm⟩;simp at hm
   ·rcases eT.new b o hs with h|h|⟨m,p,hm⟩
    ·exact .inl h
    ·exact .inr (.inl h)
    ·simp at hm
  have stays:∀b',b'<w.heap.size->w'.heap[b']? =w.heap[b']? /\∀o,S2 b' o->S b' o:=λb' hlt=>by
   refine⟨eT.frame b' hlt (by rintro⟨m,p,hm⟩;simp at hm),λo ho=> ?_⟩
   rcases eT.new b' o ho with h|h|⟨m,p,hm⟩
   ·exact h
   ·omega
   ·simp at hm
  exact⟨⟨hr.len,λm b hm=>BR.keep E2 rfl (λ_ r b p ht=>⟨ht,stays b (hr.tlt r b p ht)⟩) (λb' p hb'=>stays b' (hr.lt hb')) (hr.blk m b hm),hr.inj,r2.old,r2.glob,λr b p ht=>D3 (hr.tlt r b p ht) eT.size,hr.one⟩,hd.vr (d2 h β),E2⟩
 exact bC.mono (hc) key
end Go.PM

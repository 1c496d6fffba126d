/- TopTrace: part 17 of the proof: for every input the law returns true, and its arguments read behind the call as they read before; where the library's table is as its own text lays it. -/
import Derived.Test.YtefjfjfcjihcpaaGreatDoorQ16
set_option maxRecDepth 10000
set_option maxHeartbeats 400000000
set_option linter.unusedSectionVars false
namespace Go.PM
open Go.Proofs
theorem div_ok {m:List Int} (hm8:m.length<=8):∀{d:Nat} {l:List Br},PC m d l->(∀x∈l,x.c.length<=8)->XU m d l:=by
 intro d l h
 induction h with
 |leaf d x hx=>
  intro h8
  have:=h8 x (.head _)
  exact B0v m d x hx (by omega)
 |split d l y hy h1 h17 hne hl hd hx _ ih0=>
  intro h8
  have ih:=λj hj=>ih0 j hj (λx hx=>h8 x ((bS.1 hx).1))
  exact divN m d l y ⟨h1,h17⟩ hy hne hl hd hx ih
theorem A2k {b:D7}:∀(k:Nat) (c:List Int),∀l∈lfs b k c,∃e,l.ch=c++e
 |0,c,l,h=>by
  unfold lfs at h
  split at h
  ·rw[H9] at h;subst h;exact⟨[],by rw[I3];rfl⟩
  ·unfold EN at h
   split at h<;>(rw[H9] at h;subst h;exact⟨[],by rw[I3];rfl⟩)
 |k+1,c,l,h=>by
  unfold lfs at h
  split at h
  ·rw[H9] at h;subst h;exact⟨[],by rw[I3];rfl⟩
  ·obtain⟨n,_,h⟩:=W3.1 h
   obtain⟨e,he⟩:=A2k k _ l h
   exact⟨((n:Nat):Int)::e,by rw[he,D5];rfl⟩
theorem A9t {b:D7} (hm:∀x∈G0 b,1<=x/\x<=17):∀(k:Nat) (c:List Int),c.length+k=(G0 b).length->lfs b k c≠[]
 |0,c,hl=>by
  unfold lfs
  split<;>simp
 |k+1,c,hl=>by
  unfold lfs
  split
  ·simp
  ·obtain⟨y,hy⟩:∃y,(G0 b)[c.length]? =some y:=⟨_,A3 (by omega)⟩
   have hyb:=hm y (A7 hy)
   intro h
   have h0:=List.flatMap_eq_nil_iff.1 h 0 (by rw[A5,hy,K2];show 0<y.toNat;omega)
   exact A9t hm k _ (by rw[B4,F1];omega) h0
theorem VY {α:Type} {p:α->Bool} {f:Nat->List α} {j n:Nat} (hj:j<n) (h:∀i,i<n->∀x∈f i,p x=decide (i=j)):((List.range n).flatMap f).filter p=f j:=by
 induction n with
 |zero=>omega
 |succ n ih=>
  rw[Q4,List.flatMap_append,L6,List.flatMap_singleton]
  by_cases e:j=n
  ·subst e
   have h1:((List.range j).flatMap f).filter p=[]:=by
    rw[List.filter_eq_nil_iff]
    intro x hx
    obtain⟨i,hi,hx⟩:=W3.1 hx
    have hi:=K2.1 hi
    rw[h i (by omega) x hx]
    simp;omega
   have h2:(f j).filter p=f j:=by
    rw[List.filter_eq_self]
    intro x hx
    rw[h j (by omega) x hx];simp
   rw[h1,h2,G5]
  ·have h1:=ih (by omega) λi hi=>h i (by omega)
   have h2:(f n).filter p=[]:=by
    rw[List.filter_eq_nil_iff]
    intro x hx
    rw[h n (by omega) x hx]
    simp;omega
   rw[h1,h2,I3]
theorem A2l {b:D7} (F:fO b) (s:Int) (sp:S8):∀(k:Nat) (c:List Int),c.length+k=(G0 b).length->W7 c (G0 b)->(lfs b k c).length<=4096->PC (G0 b) c.length ((lfs b k c).map (Lf.b b s sp))
 |0,c,hl,hc,_=>by
  unfold lfs
  split
  ·exact .leaf _ _ rfl
  ·refine .leaf _ _ ?_
   unfold EN
   split<;>rfl
 |k+1,c,hl,hc,hlen=>by
  obtain⟨hb,hM,hml,hd,hm⟩:=bZ F.e
  have hall:=iW hm (k+1) c hl hc
  have hne:=A9t hm (k+1) c hl
  unfold lfs at hall hlen hne ⊢
  split
  ·exact .leaf _ _ rfl
  ·rename_i hbk
   rw[hbk] at hall hlen hne
   dsimp only at hall hlen hne
   obtain⟨y,hy⟩:∃y,(G0 b)[c.length]? =some y:=⟨_,A3 (by omega)⟩
   have hyb:=hm y (A7 hy)
   have hyD:(G0 b).getD c.length 0=y:=by rw[A5,hy];rfl
   rw[hyD] at hall hlen hne ⊢
   have hsub:∀n l,l∈lfs b k (c++[((n:Nat):Int)])->l.ch[c.length]? =some ((n:Nat):Int)/\c.length<l.ch.length:=λn l h=>by
    obtain⟨e,he⟩:=A2k k _ l h
    rw[he,D5]
    exact⟨by simp,by simp⟩
   refine .split _ _ y hy hyb.1 hyb.2 (by simpa using hne) (by simpa using hlen) (by omega) (λx hx=> ?_) λj hj=> ?_
   ·obtain⟨l,hl',rfl⟩:=K4.1 hx
    have h1:=(hall l hl').1
    obtain⟨n,hn,hl2⟩:=W3.1 hl'
    have hn:=K2.1 hn
    obtain⟨g1,g2⟩:=hsub n l hl2
    exact⟨by show l.ch.length<=8;omega,g2,n,g1,by omega⟩
   ·have hf:(((List.range y.toNat).flatMap λn=>lfs b k (c++[((n:Nat):Int)])).map (Lf.b b s sp)).filter (λx=>decide (x.c[c.length]? =some (j:Int)))=(lfs b k (c++[((j:Nat):Int)])).map (Lf.b b s sp):=by
     rw[List.filter_map]
     congr 1
     refine VY (f:=λn=>lfs b k (c++[((n:Nat):Int)])) (by omega) λi _ x hx=> ?_
     show decide (x.ch[c.length]? =some (j:Int))=decide (i=j)
     rw[(hsub i x hx).1]
     refine W1.2 ?_
     simp
     omega
    have hcl:(lfs b k (c++[((j:Nat):Int)])).length<=4096:=by
     have h1:=N8 List.length hf
     have h2:=L0 (λx:Br=>decide (x.c[c.length]? =some (j:Int))) (((List.range y.toNat).flatMap λn=>lfs b k (c++[((n:Nat):Int)])).map (Lf.b b s sp))
     rw[h1,A6,A6] at h2
     omega
    rw[hf]
    have:=A2l F s sp k (c++[((j:Nat):Int)]) (by rw[B4,F1];omega) (nW hc hy (by omega)) hcl
    rw[B4,F1] at this
    exact this
theorem YG {m:List Int} (hm8:m.length<=8) {l:List Br} (h:PC m 0 l) (h8:∀x∈l,x.c.length<=8):C9 Tryz.prog 38 [.d (SL 4 (l.map Br.d)),.d (SL 1 (m.map I))] (E5 [.b true]):=by
 have hK:=eW (by rfl) (by rfl) (div_ok hm8 h h8) [0,1] (by decide) rfl
 refine pU Tryz.func38 ?_
 repeat' ((conv=>whnf);first|refine sT ?_|refine sP ?_ ?_<;>intro _|refine E6.keepN hK rfl (PS rfl rfl) ?_|fail)
 all_goals exact fJ
theorem MF {b:D7} (F:fO b) {s:Int} (hs:s∈Z8 b) {sp:S8} (hsp:sp.ok b) (hsome:aS b s sp 2 (L7 b)=true∨aS b s sp 3 (L7 b)=true):
 C9 Tryz.prog 17 [.d b.d,.d (I s),.d sp.d,.d (ED b s sp)] (E5 [.b true,I 0]):=by
 obtain⟨hb,hM,hml,hd,hm⟩:=bZ F.e
 have hLn:(L7 b).length<=4096:=by
  have h1:=pS hm s (G0 b).length [] (by simp)
  rw[iE,A6] at h1
  have h2:=nI F.e
  unfold oG at h1
  rw[V7,O4] at h1
  exact F5 h1 (by omega)
 have hbeg:∀l∈L7 b,W7 l.ch (G0 b):=iW hm (G0 b).length [] (by simp) (Y0 _)
 obtain⟨L,hL⟩:∃L,L=(L7 b).map (Lf.b b s sp):=⟨_,rfl⟩
 have hLl:L.length<=4096:=by rw[hL,A6];exact hLn
 have hLb:∀x∈L,W7 x.c (G0 b):=λx hx=>by
  rw[hL] at hx
  obtain⟨l,hl,rfl⟩:=K4.1 hx
  exact hbeg l hl
 have hL8:∀x∈L,x.c.length<=8:=λx hx=>by have:=(hLb x hx).1;omega
 have hvd:ED b s sp=.agg (YH (iM b s sp) (cC b s sp 2 (L7 b)) (cC b s sp 3 (L7 b)) L):=by
  unfold ED YH
  rw[hL,eG];rfl
 have hAsk:=B2p F hs hsp
 have hAre:=yP L (G0 b) hLl hLb (by omega) (λx hx=>by have:=hm x hx;omega)
 have hDiv:=YG (m:=G0 b) (by omega) (l:=L) (by rw[hL];exact A2l F s sp _ [] (by simp) (Y0 _) hLn) hL8
 have hAll:=PQ (b:=b) (s:=s) (sp:=sp) L hLl (λx hx=>by
  rw[hL] at hx
  obtain⟨l,hl,rfl⟩:=K4.1 hx
  exact A3j F hs hsp hl)
 have hany:∀k,AG L k=aS b s sp k (L7 b):=λk=>by unfold AG aS;rw[hL,List.any_map];rfl
 have hFit:=A6x (iM b s sp) (cC b s sp 2 (L7 b)) (cC b s sp 3 (L7 b)) L hLl (by rw[hany,hany];rfl) (by rw[hany,hany];exact hsome)
 have hWit:∀k,C9 Tryz.prog 44 [.d (SL 4 (L.map Br.d)),.d (I k),.d (cC b s sp k (L7 b))] (E5 [.b true]):=λk=>by
  unfold cC
  cases hf:(L7 b).find? λx=>decide (x.kind b s sp=k) with
  |none=>
   refine PN L k hLl λx hx=> ?_
   rw[hL] at hx
   obtain⟨l,hl,rfl⟩:=K4.1 hx
   have:=cV.1 hf l hl
   exact λe=>this (C2 e)
  |some y=>
   obtain⟨h1,as1,bs1,h2,h3⟩:=List.find?_eq_some_iff_append.1 hf
   have hy:L[as1.length]? =some (y.b b s sp):=by
    rw[hL,h2,D2,B3 (by rw[A6];exact B1 _),A6,G2];rfl
   refine PK L k hLl hy (G4 h1) (hL8 _ (A7 hy)) λx hx=> ?_
   have h4:L.take as1.length=as1.map (Lf.b b s sp):=by
    rw[hL,h2,D2,gG (by rw[A6];exact B1 _),C7 (by rw[A6];exact B1 _)]
   rw[h4] at hx
   obtain⟨l,hl,rfl⟩:=K4.1 hx
   have:=h3 l hl
   simp only[jD,K3] at this
   exact this
 have hW2:=hWit 2
 have hW3:=hWit 3
 rw[hvd]
 generalize cC b s sp 2 (L7 b)=f2 at*
 generalize cC b s sp 3 (L7 b)=f3 at*
 generalize iM b s sp=K at*
 unfold YH at hFit ⊢
 unfold qD qC at hAsk hAll
 clear hWit hany hLb hL8 hbeg hL hvd hsome
 refine pU Tryz.func17 ?_
 repeat' ((conv=>whnf);first|refine sT ?_|refine sP ?_ ?_<;>intro _|refine cA hAsk ?_|refine cA hAre ?_|refine cA hDiv ?_|refine cA hAll ?_|refine cA hFit ?_|refine cA hW2 ?_|refine cA hW3 ?_|fail)
 all_goals(conv=>whnf)
 refine L3.rounds 6 ?_
 repeat' ((conv=>whnf);first|refine Dec.t (G4 (Eq.refl true)) ?_|refine Dec.f (X5 (Eq.refl false)) ?_|refine Wr.lit 1 rfl rfl ?_|refine Wr.lit 2 rfl rfl ?_|refine Wr.lit 3 rfl rfl ?_|refine Wr.lit 4 rfl rfl ?_|refine Wr.lit 5 rfl rfl ?_|refine sT ?_|refine sP ?_ ?_<;>intro _|refine cA hAre ?_|refine cA hDiv ?_|refine cA hAll ?_|refine cA hFit ?_|refine cA hW2 ?_|refine cA hW3 ?_|refine nS ?_|refine bO Tryz.func36 ?_|refine bO Tryz.func39 ?_|refine bO Tryz.func41 ?_|refine bO Tryz.func43 ?_|refine bO Tryz.func45 ?_|fail)
 all_goals exact fJ
theorem NP {b:D7} (F:fO b) {s:Int} (hs:s∈Z8 b):SZ Tryz.prog 33 [.d b.d,.d (I s)] (A7b b s):=by
 have hCk:=tV b F.w
 rw[F.e] at hCk
 have ho4:=F.o4
 have hr8:=F.r8
 have hSo:=RE b s hs (by omega) (by omega)
 refine WJ (E:=(P9 Tryz.prog tt Tryz.f33.ntmps)) (I6 T5 mixed) Tryz.func33 (by rfl) rfl rfl (B5 rfl) ?_
 repeat' ((conv=>whnf);first|refine sT ?_|refine sP ?_ ?_<;>intro _|refine cA hCk ?_|refine cA hSo ?_|refine bO Tryz.func68 ?_|fail)
 all_goals(conv=>whnf)
 all_goals first|exact⟨_,rfl,rfl⟩
def A3k:List D:=[I 0,HV,HV,HV]
noncomputable def verC (b:D7) (s:Int) (sp:S8):List D:=(ED b s sp).cells
theorem VT {b:D7} (F:fO b) {s:Int} (hs:s∈Z8 b) {sp:S8} (hsp:sp.ok b) (hsome:aS b s sp 2 (L7 b)=true∨aS b s sp 3 (L7 b)=true):
 let H:Hp:=[.vard b.d.cells,.vard [I s],.vard sp.d.cells,.vard A3k]
 M4 Tryz.prog 31 [.fn 32 [.ptr 0 0 0 0,.ptr 1 0 0 0,.ptr 2 0 0 0,.ptr 3 0 0 0]] H λv h'=>v=E5 [I 0]/\h'.length=H.length/\h'.all (okB H.length)=true/\h'=[.vard b.d.cells,.vard [I s],.vard sp.d.cells,.vard (verC b s sp)]:=by
 intro H
 have hB:=NP F hs
 have hV:=PT F hs hsp hsome
 refine M4.trim (Z3 (T:=tt) T5 Tryz.func31 (by rfl) rfl (B5 rfl) ?_)
 (conv=>whnf)
 refine wQ ?_
 repeat' ((conv=>whnf);first|refine sT ?_|refine sP ?_ ?_<;>intro _|fail)
 (conv=>whnf)
 refine DWP.deferAt (E:=(P9 Tryz.prog tt Tryz.f31.ntmps)) (I6 T5 mixed) 1 rfl rfl rfl rfl rfl ?_
 repeat' ((conv=>whnf);first|refine sT ?_|refine sP ?_ ?_<;>intro _|fail)
 refine wO ?_
 repeat' ((conv=>whnf);first|refine sT ?_|refine sP ?_ ?_<;>intro _|refine bO Tryz.func32 ?_|fail)
 refine H6.ofBox hB 5 rfl ?_
 repeat' ((conv=>whnf);first|refine sT ?_|refine sP ?_ ?_<;>intro _|fail)
 refine H6.eat rfl rfl hV [5] (by decide) rfl rfl aN ?_
 repeat' ((conv=>whnf);first|refine sT ?_|refine sP ?_ ?_<;>intro _|fail)
 all_goals(conv=>whnf)
 refine A6l _ _ ?_
 repeat' ((conv=>whnf);first|refine sT ?_|refine sP ?_ ?_<;>intro _|fail)
 all_goals(conv=>whnf)
 exact⟨DLe.refl _,rfl,rfl⟩
theorem BK {b:D7} (F:fO b) {s:Int} (hs:s∈Z8 b) {sp:S8} (hsp:sp.ok b) (hsome:aS b s sp 2 (L7 b)=true∨aS b s sp 3 (L7 b)=true):
 C9 Tryz.prog 16 [.d b.d,.d (I s),.d sp.d] (E5 [ED b s sp,I 0]):=by
 have hA:=VT F hs hsp hsome
 have hA2:∀{hp:Hp} (h0:hp[0]? =some (.vard b.d.cells)) (h1:hp[1]? =some (.vard [I s])) (h2:hp[2]? =some (.vard sp.d.cells)) (h3:hp[3]? =some (.vard A3k)) {k:V->Hp->Prop}
  (hk:k (E5 [I 0]) ((((hp.set 0 (.vard b.d.cells)).set 1 (.vard [I s])).set 2 (.vard sp.d.cells)).set 3 (.vard (verC b s sp)))),E6 Tryz.prog 31 [.fn 32 [.ptr 0 0 0 0,.ptr 1 0 0 0,.ptr 2 0 0 0,.ptr 3 0 0 0]] hp k:=λh0 h1 h2 h3 k hk=>by
  refine E6.upd rfl rfl hA [0,1,2,3] (by decide) rfl rfl (λi m hi=> ?_) ?_
  ·match i,hi with
   |0,hi=>simp at hi;subst hi;rw[h0];rfl
   |1,hi=>simp at hi;subst hi;rw[h1];rfl
   |2,hi=>simp at hi;subst hi;rw[h2];rfl
   |3,hi=>simp at hi;subst hi;rw[h3];rfl
  ·rintro _ rfl _
   exact⟨_,WkH.refl _,hk⟩
 refine pU Tryz.func16 ?_
 repeat' ((conv=>whnf);first|refine sT ?_|refine sP ?_ ?_<;>intro _|refine hA2 rfl rfl rfl rfl ?_|fail)
 all_goals exact fJ
theorem A6j {m:Nat} {c:D} {n:Int} {h:Hp} (hm:h[m]? =some (.vard [c])) {w:World} {S:Stb} {β:Bet} (hr:HR w S h β) {a:Value} (ha:VR w S h β (.ptr m 0 0 0) a)
 {ops:Array Oper} {o:Oper} (ho1:ops[1]? =some o) (hst:o.op=Op.store 30 (Operand.tmp 0) (Operand.tmp 10)) (hg:o.guard=none) (hd:o.dst=none) {F:Fence} (hF:∀f,F.fn f) {ac:Act} (h0:ac.tmps.getD 0 undef=a) (h10:ac.tmps.getD 10 undef=.int .i64 n) {Q:Exit->Act->World->Prop}
 (hQ:∀w' S' β',HR w' S' (h.set m (.vard [I n])) β'->F7 w S h β w' S' (h.set m (.vard [I n])) β'->Q .normal ac w'):wpOpsIn F 0 Tryz.prog ops Q [1] ac w:=by
 obtain⟨b,g2,rfl⟩:∃b:Nat,β[m]? =some (some (b,0))/\a=.pointer (some ⟨b,0,none⟩):=by
  cases ha with
  |ptr g1 g2=>
   unfold PR at g2
   rw[hm] at g2
   obtain⟨b,e1,e2,_,e3⟩:=g2
   exact⟨b,e1,e3⟩
 obtain⟨nx,w',S',β',cv,hrun,hnx,r1,_,e1⟩:=qY (t:=30) (H7 (T:=tt) T5 (t:=30) rfl) (o:=o) hst
  (ρ:=ac.eval) hr hm (blk':=.vard [I n]) (BR.vard_var.1 (hr.blk m _ hm)) g2 (show ac.eval (Operand.tmp 0)=_ from h0) (l:=[.d (I n)]) (off:=0) (by
    rw[show ac.eval (Operand.tmp 10)=.int .i64 n from h10]
    exact⟨rfl,λj c y hj hy=>by
     match j,hj with
     |0,hj=>simp at hj;subst hj;simp[Value.cells] at hy;subst hy;exact⟨.d (.i _ _),rfl⟩⟩) rfl (by simp) (by simp[BEv]) (λw S h β hh=>BR.vard_var.2 hh)
 simp only[wpOpsIn,ho1,kM hg,if_true]
 refine⟨λf _=>hF f,?_⟩
 rw[Oper.semAt_eq _ _ _ (λc' h=>by rw[hst] at h;cases h),hrun]
 rcases hnx with rfl|⟨rfl,rfl⟩
 ·have h2:=hQ w' S' β' r1 e1
  simp[Oper.uponIn,wpOpsIn,hd]
  exact h2
 ·have h2:=hQ w' S' β' r1 e1
  simp[Oper.uponIn,wpOpsIn,hd]
  exact h2
theorem B1z (m:Nat) (c:D) (n:Int) (h:Hp) (hm:h[m]? =some (.vard [c])) {K:Hp->Prop} (hk:K (h.set m (.vard [I n]))):B5k Tryz.prog 67 [.ptr m 0 0 0] h (.any 30 (I n)) K:=by
 refine⟨λw S β arr v hr hv hd=>⟨Go.MuLone.run_callFunc_enter Tryz.func67 (by rfl) rfl arr w,?_⟩⟩
 refine callsDIn_of_wpSIn Tryz.func67 rfl (FF.all none _) λc₀ cs hu=> ?_
 obtain⟨hl,hv⟩:=hv
 match arr,hl with
 |⟨[a]⟩,_=>
  cases hd with
  |any _ _ v hd=>
   cases hd
   apply wpSIn_seq
   apply wpSIn_region
   simp[wpOpsSIn,go_sem,recoverD,hu,Exit.thenS]
   refine wpSIn_of_wpIn rfl ?_
   apply wpIn_block
   apply wpIn_seq
   apply wpIn_region
   simp[wpOpsIn,go_sem,Oper.wpIn,FF,Fence.wide,Oper.semAt_none]
   refine wpIn_cond (t:=false) (by simp[Act.eval]) ?_
   simp only[T0,if_false]
   apply wpIn_seq
   apply wpIn_region
   simp[wpOpsIn,go_sem,Oper.wpIn,FF,Fence.wide,Oper.semAt_none]
   refine wpIn_cond (t:=true) (by simp[Act.eval,Act.put]) ?_
   simp only[if_true]
   apply wpIn_seq
   apply wpIn_region
   simp[wpOpsIn,go_sem,Oper.wpIn,FF,Fence.wide,Oper.semAt_none]
   apply wpIn_region
   rw[show(#[_,_]:Array Oper).size=2 from rfl,show List.range 2=[0,1] from rfl]
   unfold wpOpsIn
   simp[go_sem,Oper.wpIn,FF,Fence.wide,Oper.semAt_none]
   refine A6j (n:=n) hm hr (hv 0 _ a rfl rfl) rfl rfl rfl rfl (λ_=>trivial) (by simp) (by simp) (λw' S' β' r1 e1=> ?_)
   refine⟨rfl,FrameMode.panicking [{v:=.iface 30 (.int .i64 n),recovered:=true}],?_,?_⟩
   ·cases c₀;rfl
   ·exact⟨.tuple #[],by simp[results],⟨_,rfl⟩,rfl,_,hk,_,_,r1,e1⟩
theorem DWP.seqP {P:Program} {N:Nat} {c d:Code} {dopt:Option (FuncId×List V)} {ts:Tm} {h:Hp} {k:XD->Option (FuncId×List V)->Tm->Hp->Prop}
 (hx:DWP P N c dopt ts h λx dopt ts h=>match x with
   | .pan e=>k (.pan e) dopt ts h
   |_=>False):DWP P N (.seq c d) dopt ts h k:=by
 refine⟨λn C a w S β hs hro hd=> ?_⟩
 refine wpIn_seq (wpIn_mono (hx.holds n C a w S β hs hro hd) λe a' w' hp=> ?_)
 obtain⟨x,dopt',ts',h',S',β',ds,p1,p2,p3,p4,p5⟩:=hp
 cases x with
 |ex e=>exact p1.elim
 |pan e=>
  obtain⟨v,rfl,p2⟩:=p2
  exact⟨.pan e,dopt',ts',h',S',β',ds,p1,⟨v,rfl,p2⟩,p3,p4,p5⟩
theorem RF {b:D7} (F:fO b) {s:Int} (hs:s∈Z8 b) {sp:S8} (hsp:sp.ok b) (h2:aS b s sp 2 (L7 b)=false) (h3:aS b s sp 3 (L7 b)=false):
 let H:Hp:=[.vard b.d.cells,.vard [I s],.vard sp.d.cells,.vard A3k]
 M4 Tryz.prog 31 [.fn 32 [.ptr 0 0 0 0,.ptr 1 0 0 0,.ptr 2 0 0 0,.ptr 3 0 0 0]] H λv h'=>v=E5 [I 371]/\h'.length=H.length/\h'.all (okB H.length)=true/\h'=H:=by
 intro H
 have hB:=NP F hs
 obtain⟨hb,hM,hml,hd,hm⟩:=bZ F.e
 have ho4:=F.o4
 have hSp:=JF b sp hsp (by omega)
 have hMa:=kE b F.w
 rw[hM,F.e] at hMa
 have hVi:=A6w F hs (G0 b).length [] (by simp) (Y0 _)
 have hLn:(L7 b).length<=4096:=by
  have h1:=pS hm s (G0 b).length [] (by simp)
  rw[iE,A6] at h1
  have h2:=nI F.e
  unfold oG at h1
  rw[V7,O4] at h1
  exact F5 h1 (by omega)
 have hbrk:∀l∈L7 b,∃c v p,l=.brk c v p:=λl hl=>by
  cases l with
  |brk c v p=>exact⟨c,v,p,rfl⟩
  |con c=>
   exfalso
   unfold aS at h2 h3
   have h4:=AK.1 h2 _ hl
   have h5:=AK.1 h3 _ hl
   unfold Lf.kind at h4 h5
   dsimp only at h4 h5
   cases nR b s sp c<;>simp_all
 refine M4.trim (Z3 (T:=tt) T5 Tryz.func31 (by rfl) rfl (B5 rfl) ?_)
 (conv=>whnf)
 refine wQ ?_
 repeat' ((conv=>whnf);first|refine sT ?_|refine sP ?_ ?_<;>intro _|fail)
 (conv=>whnf)
 refine DWP.deferAt (E:=(P9 Tryz.prog tt Tryz.f31.ntmps)) (I6 T5 mixed) 1 rfl rfl rfl rfl rfl ?_
 repeat' ((conv=>whnf);first|refine sT ?_|refine sP ?_ ?_<;>intro _|fail)
 refine DWP.seqP ?_
 refine DWP.pcallAt (E:=(P9 Tryz.prog tt Tryz.f31.ntmps)) (I6 T5 mixed) 1 rfl rfl rfl ?_
 (conv=>whnf)
 refine uN (T:=tt) T5 Tryz.func32 (by rfl) rfl (B5 rfl) ?_
 (conv=>whnf)
 refine DWP.pcallD (E:=(P9 Tryz.prog tt Tryz.f32.ntmps)) (I6 T5 mixed) 4 rfl rfl rfl rfl ?_
 (conv=>whnf)
 refine H6.ofBox hB 5 rfl ?_
 repeat' ((conv=>whnf);first|refine sT ?_|refine sP ?_ ?_<;>intro _|fail)
 (conv=>whnf)
 refine uN (T:=tt) T5 Tryz.func34 (by rfl) rfl (B5 rfl) ?_
 (conv=>whnf)
 refine wQ ?_
 repeat' ((conv=>whnf);first|refine sT ?_|refine sP ?_ ?_<;>intro _|fail)
 (conv=>whnf)
 refine DWP.seqP ?_
 refine DWP.pcallAt (E:=(P9 Tryz.prog tt Tryz.f34.ntmps)) (I6 T5 mixed) 2 rfl rfl rfl ?_
 repeat' ((conv=>whnf);first|refine sT ?_|refine sP ?_ ?_<;>intro _|fail)
 (conv=>whnf)
 refine uN (T:=tt) T5 Tryz.func70 (by rfl) rfl (B5 rfl) ?_
 (conv=>whnf)
 refine wQ ?_
 repeat' ((conv=>whnf);first|refine sT ?_|refine sP ?_ ?_<;>intro _|fail)
 (conv=>whnf)
 refine wQ ?_
 repeat' ((conv=>whnf);first|refine sT ?_|refine sP ?_ ?_<;>intro _|refine cA hSp ?_|fail)
 (conv=>whnf)
 refine wQ ?_
 repeat' ((conv=>whnf);first|refine sT ?_|refine sP ?_ ?_<;>intro _|fail)
 (conv=>whnf)
 refine wQ ?_
 repeat' ((conv=>whnf);first|refine sT ?_|refine sP ?_ ?_<;>intro _|refine cA hMa ?_|refine bO Tryz.func68 ?_|refine bO Tryz.func71 ?_|refine bO Tryz.func121 ?_|refine rA Tryz.func120 ?_|fail)
 (conv=>whnf)
 refine E6.pre ((WkH.of λN=>Wk.virtC (n:=5) (i:=5) (a:=0) (sz:=1) false (by decide) rfl rfl).trans (WkH.arNew rfl)) ?_
 refine E6.updA rfl ⟨5,[],rfl⟩ rfl (hVi 0 [] [] (by simp only[V7,O4];have:=nI F.e;unfold oG;omega)) [18,19,20,5,21,22] (by decide) rfl rfl aN ?_
 rintro _ _ ⟨rfl,ver,A,hA,rfl⟩ _
 rw[iE,A6] at hA
 rw[iE]
 have hAl:A.length=(L7 b).length:=hA
 have hV:=yK.start (b:=b) (s:=s) hAl
 obtain⟨vs,hvs0⟩:∃vs,vs=A.zip ((L7 b).map (Lf.cells b s false)):=⟨_,rfl⟩
 rw[<-hvs0] at hV
 unfold LE CS
 rw[show A.zip ((lfs b (G0 b).length []).map (Lf.cells b s false))=vs from hvs0.symm]
 repeat' ((conv=>whnf);first|refine sT ?_|refine sP ?_ ?_<;>intro _|fail)
 all_goals(conv=>whnf)
 (conv=>arg 5;simp (config := { maxSteps := 5000000 }) only[aY,J3,E9,H4,P4,bG,ren1,H8,E8,L4,G5,I1,D5,T9,U0])
 (conv=>arg 4;simp (config := { maxSteps := 5000000 }) only[aY,J3,E9,H4,P4,bG,ren1,H8,E8,L4,G5,I1,D5,T9,U0])
 refine lYE 17 Tryz.f70.ntmps (X:=Nat) (λx=>[(14,.d (I x))]) (λ_=>[])
  (λx=>x<=(L7 b).length) (λx=>(L7 b).length-x) 0 sam rfl (B9 _) (λy=>⟨rfl,rfl⟩) ?_
 intro i hi
 (conv=>arg 4;simp (config := { maxSteps := 5000000 }) only[aY,J3,E9,H4,P4,bG,ren1,H8,E8,L4,G5,I1,D5,T9,U0])
 (conv=>arg 3;dsimp only)
 by_cases hlt:i<(L7 b).length
 ·obtain⟨l,hl⟩:∃l,(L7 b)[i]? =some l:=⟨_,A3 hlt⟩
  have hgA:(A.map wP)[0+((i:Nat):Int).toNat]? =some (wP (A.getD i 0)):=by
   rw[C1,B0,A8,A5,A3 (by omega)];rfl
  have hgV:=hV.2.2 i l hl
  obtain⟨c,v,p,rfl⟩:=hbrk l (A7 hl)
  obtain⟨z,fl,hch⟩:=RZ c
  unfold Lf.cells EQ at hgV
  dsimp only at hgV
  rw[hch] at hgV
  repeat' ((conv=>whnf);first|refine sT ?_|refine sP ?_ ?_<;>intro _|refine A9 hgA ?_|refine AM.wrap ⟨22,i,_,vs,_,rfl,rfl,hgV,?_⟩|refine A9 hgV ?_|fail)
  all_goals((conv=>whnf);try exact xO)
  all_goals(refine⟨i+1,⟨sam,?_⟩,hlt,by omega⟩;rfl)
 ·obtain rfl:i=(L7 b).length:=by omega
  repeat' ((conv=>whnf);first|refine sT ?_|refine sP ?_ ?_<;>intro _|fail)
  all_goals((conv=>whnf);try exact xO)
  refine wQ ?_
  repeat' ((conv=>whnf);first|refine sT ?_|refine sP ?_ ?_<;>intro _|fail)
  (conv=>whnf)
  refine DWP.panicAt (E:=(P9 Tryz.prog tt Tryz.f70.ntmps)) (I6 T5 mixed) 1 rfl rfl rfl rfl ?_
  repeat' ((conv=>whnf);first|refine sT ?_|refine sP ?_ ?_<;>intro _|fail)
  (conv=>whnf)
  refine B1z 4 _ 371 _ rfl ?_
  (conv=>whnf)
  exact⟨DLe.refl _,rfl,rfl⟩
theorem ZW {b:D7} (F:fO b) {s:Int} (hs:s∈Z8 b) {sp:S8} (hsp:sp.ok b) (h2:aS b s sp 2 (L7 b)=false) (h3:aS b s sp 3 (L7 b)=false):
 C9 Tryz.prog 16 [.d b.d,.d (I s),.d sp.d] (E5 [.agg A3k,I 371]):=by
 have hA:=RF F hs hsp h2 h3
 have hA2:∀{hp:Hp} (h0:hp[0]? =some (.vard b.d.cells)) (h1:hp[1]? =some (.vard [I s])) (h2:hp[2]? =some (.vard sp.d.cells)) (h3:hp[3]? =some (.vard A3k)) {k:V->Hp->Prop}
  (hk:k (E5 [I 371]) ((((hp.set 0 (.vard b.d.cells)).set 1 (.vard [I s])).set 2 (.vard sp.d.cells)).set 3 (.vard A3k))),E6 Tryz.prog 31 [.fn 32 [.ptr 0 0 0 0,.ptr 1 0 0 0,.ptr 2 0 0 0,.ptr 3 0 0 0]] hp k:=λh0 h1 h2 h3 k hk=>by
  refine E6.upd rfl rfl hA [0,1,2,3] (by decide) rfl rfl (λi m hi=> ?_) ?_
  ·match i,hi with
   |0,hi=>simp at hi;subst hi;rw[h0];rfl
   |1,hi=>simp at hi;subst hi;rw[h1];rfl
   |2,hi=>simp at hi;subst hi;rw[h2];rfl
   |3,hi=>simp at hi;subst hi;rw[h3];rfl
  ·rintro _ rfl _
   exact⟨_,WkH.refl _,hk⟩
 refine pU Tryz.func16 ?_
 repeat' ((conv=>whnf);first|refine sT ?_|refine sP ?_ ?_<;>intro _|refine hA2 rfl rfl rfl rfl ?_|fail)
 all_goals exact fJ
def nzB (b:D7) (sp:S8) (s:Int) (c:List Int):Bool:=decide (shB b sp c s≠0)
def wU (b:D7) (c:List Int):Bool:=decide (Y2 b c)
def EP (p:List Int->Bool) (T:List (List Int)):Int:=((T.filter p).length:Int)
def pF (b:D7) (sp:S8) (T:List (List Int)) (s:Int):Int:=EP (λc=>wU b c&&nzB b sp s c) T
def kW (b:D7) (sp:S8) (T:List (List Int)) (s:Int):Int:=EP (λc=>wU b c&& !nzB b sp s c) T
def EO (b:D7) (T:List (List Int)):Int:=EP (wU b) T
def B3t (b:D7) (sp:S8) (c:List Int):Bool:=decide (mF (shB b sp c) (Z8 b)=1)
def NQ (b:D7) (sp:S8) (T:List (List Int)):Bool:=T.all λc=> !wU b c||B3t b sp c
theorem mW (p:List Int->Bool) (T:List (List Int)) (c:List Int):EP p (T++[c])=EP p T+if p c then 1 else 0:=by
 unfold EP
 rw[L6,B4]
 cases h:p c<;>simp[List.filter,h]
theorem vZ (p:List Int->Bool) (T:List (List Int)):0<=EP p T/\EP p T<=T.length:=by
 unfold EP
 have:=L0 p T
 omega
theorem mM {p:List Int->Bool} {T:List (List Int)}:EP p T≠0↔∃c∈T,p c=true:=by
 unfold EP
 rw[show((T.filter p).length:Int)≠0↔T.filter p≠[] by
  constructor
  ·intro h e;rw[e] at h;exact h rfl
  ·intro h e;exact h (DY.1 (by omega))]
 constructor
 ·intro h
  obtain⟨c,hc⟩:=List.exists_mem_of_ne_nil _ h
  exact⟨c,bS.1 hc⟩
 ·rintro⟨c,h1,h2⟩ e
  have:=bS.2 ⟨h1,h2⟩
  rw[e] at this;cases this
theorem JG (b:D7) (sp:S8) (T:List (List Int)) (c:List Int):NQ b sp (T++[c])=(NQ b sp T&&(!wU b c||B3t b sp c)):=by unfold NQ;simp
theorem FG (b:D7) (s:Int) (sp:S8) (c:List Int):nR b s sp c=nzB b sp s c:=B0d b s sp c
theorem B4w {b:D7} (F:fO b) (s:Int) (sp:S8):aS b s sp 2 (L7 b)=true↔pF b sp (bV (G0 b)) s≠0:=by
 have h:=wF F s sp true
 rw[if_pos rfl] at h
 rw[h]
 unfold pF
 rw[mM]
 constructor
 ·rintro⟨c,h1,h2,h3⟩
  rw[FG] at h3
  exact⟨c,h1,by rw[h3];simp[wU,h2]⟩
 ·rintro⟨c,h1,h2⟩
  rw[C8] at h2
  exact⟨c,h1,G4 h2.1,by rw[FG];exact h2.2⟩
theorem B4v {b:D7} (F:fO b) (s:Int) (sp:S8):aS b s sp 3 (L7 b)=true↔kW b sp (bV (G0 b)) s≠0:=by
 have h:=wF F s sp false
 rw[if_neg (λh=>Bool.noConfusion h)] at h
 rw[h]
 unfold kW
 rw[mM]
 constructor
 ·rintro⟨c,h1,h2,h3⟩
  rw[FG] at h3
  exact⟨c,h1,by rw[h3];simp[wU,h2]⟩
 ·rintro⟨c,h1,h2⟩
  rw[C8] at h2
  refine⟨c,h1,G4 h2.1,?_⟩
  rw[FG]
  have:=h2.2
  cases hh:nzB b sp s c with
  |false=>rfl
  |true=>rw[hh] at this;exact absurd this (by decide)
theorem A9j {b:D7} (F:fO b) (s:Int) (sp:S8) (h0:EO b (bV (G0 b))=0):aS b s sp 2 (L7 b)=false/\aS b s sp 3 (L7 b)=false:=by
 have key:∀p:List Int->Bool,¬EP (λc=>wU b c&&p c) (bV (G0 b))≠0:=λp h=>by
  obtain⟨c,h1,h2⟩:=mM.1 h
  rw[C8] at h2
  exact mM.2 ⟨c,h1,h2.1⟩ h0
 constructor
 ·cases h:aS b s sp 2 (L7 b) with
  |false=>rfl
  |true=>exact absurd ((B4w F s sp).1 h) (key _)
 ·cases h:aS b s sp 3 (L7 b) with
  |false=>rfl
  |true=>exact absurd ((B4v F s sp).1 h) (key _)
theorem TY {b:D7} (F:fO b) (s:Int) (sp:S8) (h0:EO b (bV (G0 b))≠0):aS b s sp 2 (L7 b)=true∨aS b s sp 3 (L7 b)=true:=by
 obtain⟨c,h1,h2⟩:=mM.1 h0
 cases h:nzB b sp s c with
 |true=>exact .inl ((B4w F s sp).2 (mM.2 ⟨c,h1,by rw[h,h2];rfl⟩))
 |false=>exact .inr ((B4v F s sp).2 (mM.2 ⟨c,h1,by rw[h,h2];rfl⟩))
def A6u (h l:Int):Int:=if l=0 then 1 else if h=0 then 3 else 2
theorem A4t {b:D7} (F:fO b) (s:Int) (sp:S8) (h0:EO b (bV (G0 b))≠0):iM b s sp=A6u (pF b sp (bV (G0 b)) s) (kW b sp (bV (G0 b)) s):=by
 have h2:=B4w F s sp
 have h3:=B4v F s sp
 have hs:=TY F s sp h0
 unfold iM A6u
 generalize aS b s sp 2 (L7 b)=x at*
 generalize aS b s sp 3 (L7 b)=y at*
 generalize pF b sp (bV (G0 b)) s=m at*
 generalize kW b sp (bV (G0 b)) s=n at*
 cases x<;>cases y<;>simp at h2 h3 hs ⊢ <;>simp[h2,h3]
theorem MJ {f:Int->Rat}:∀{l:List Int},(∀s∈l,f s=0)->mF f l=0
 |[],_=>rfl
 |s::l,h=>by
  have e:s::l=[s]++l:=rfl
  rw[e,yR,MJ λx hx=>h x (.tail _ hx)]
  have:mF f [s]=0+f s:=rfl
  rw[this,h s (.head _)]
  decide+kernel
theorem A5a {b:D7} {sp:S8} {T:List (List Int)} (h0:EO b T≠0) (hf:NQ b sp T=true):∃s∈Z8 b,pF b sp T s≠0:=by
 obtain⟨c,h1,h2⟩:=mM.1 h0
 have h3:=C5.1 hf c h1
 rw[h2] at h3
 have h4:mF (shB b sp c) (Z8 b)=1:=G4 (show B3t b sp c=true from h3)
 by_cases hq:∃s∈Z8 b,shB b sp c s≠0
 ·obtain⟨s,hs,hn⟩:=hq
  exact⟨s,hs,mM.2 ⟨c,h1,by rw[h2];exact C2 hn⟩⟩
 ·rw[MJ λs hs=>Classical.byContradiction λhn=>hq ⟨s,hs,hn⟩] at h4
  exact absurd h4 (by decide+kernel)
theorem shB_ib {b:D7} (F:fO b) {sp:S8} (hsp:sp.ok b) {c:List Int} (hc:Y2 b c):∃Q,0<Q/\Q<=2^399/\∀s,IB Q ((Q:Rat)*shB b sp c s):=by
 have hh:=oN F hc
 have hp:=hsp.p
 have hv:=hsp.v
 have hp1:sp.p.toNat+1<=(T1 b c).per.toNat:=by show sp.p.toNat+1<=b.per.toNat;omega
 refine⟨WO (T1 b c) (sp.p.toNat+1),(hh.x 0 _ hp1).2.1,RU hh hp1,λs=> ?_⟩
 unfold shB
 split
 ·exact(hh.x _ _ hp1).1.ib (by show sp.v.toNat<b.op.length;omega)
 ·rw[FN];exact IB.mono IB.zero (B9 _)
theorem A1v {f:Int->Rat} {Q:Nat} (h:∀s,IB Q ((Q:Rat)*f s)):∀l:List Int,IB (l.length*Q) ((Q:Rat)*mF f l)
 |[]=>by
  have e:mF f []=0:=rfl
  rw[e,FN];exact IB.mono IB.zero (B9 _)
 |s::l=>by
  have e:s::l=[s]++l:=rfl
  have e1:mF f [s]=0+f s:=rfl
  rw[e,yR,e1,Rat.zero_add,Rat.mul_add]
  refine IB.mono ((h s).add (A1v h l)) ?_
  rw[B4,F1,H5,V4]
  exact B1 _
theorem B4x {b:D7} (F:fO b) {sp:S8} (hsp:sp.ok b) {c:List Int} (hc:Y2 b c) (l:List Int) (hl:l.length<=64) (s:Int):
 lim (qn (mF (shB b sp c) l)*(shB b sp c s).den+qn (shB b sp c s)*(mF (shB b sp c) l).den)/\lim ((mF (shB b sp c) l).den*(shB b sp c s).den):=by
 obtain⟨Q,h0,hQ,hI⟩:=shB_ib F hsp hc
 have a:=MW h0 (A1v hI l)
 have r:=MW h0 (hI s)
 generalize mF (shB b sp c) l=x at*
 generalize shB b sp c s=y at*
 have k1:l.length*Q<=2^405:=A8o (a:=6) (b:=399) (c:=405) hl hQ (by decide)
 have m1:qn x*y.den<=2^804:=A8o (a:=405) (b:=399) (c:=804) (F5 a.1 k1) (F5 r.2 hQ) (by decide)
 have m2:qn y*x.den<=2^798:=A8o (a:=399) (b:=399) (c:=798) (F5 r.1 hQ) (F5 a.2 hQ) (by decide)
 have m3:x.den*y.den<=2^798:=A8o (a:=399) (b:=399) (c:=798) (F5 a.2 hQ) (F5 r.2 hQ) (by decide)
 exact⟨uH (padd (a:=804) (b:=798) (c:=1000) m1 m2 (by decide) (by decide)),uH (YV (a:=798) m3 (by decide))⟩
def bk0:D7:=⟨[3,3,0,0],1,[⟨⟨2,0,0,2,1,0⟩,0,0,0⟩,⟨⟨2,0,1,3,1,0⟩,5,0,0⟩]⟩
def sp0:S8:=⟨2,0⟩
theorem ok0:bk0.ok:=by
 refine⟨by decide,by decide,by decide,by decide,λi r hi=> ?_⟩
 match i,hi with
 |0,hi=>cases hi;decide
 |1,hi=>cases hi;decide
 |n+2,hi=>cases hi
theorem WB:fO bk0:=⟨⟨by decide,by decide⟩,by unfold jF;rw[if_pos ok0];decide,by decide,by decide,by decide,by decide⟩
theorem spk0:sp0.ok bk0:=⟨by decide,by decide⟩
theorem t0:bV (G0 bk0)=[[0],[1]]:=by decide
theorem con0:Y2 bk0 [0]:=by decide+kernel
theorem con1:Y2 bk0 [1]:=by decide+kernel
theorem h00:nR bk0 0 sp0 [0]=true:=by decide+kernel
theorem h01:nR bk0 0 sp0 [1]=false:=by decide+kernel
theorem h10:nR bk0 1 sp0 [0]=false:=by decide+kernel
theorem h11:nR bk0 1 sp0 [1]=true:=by decide+kernel
theorem B5g:aS bk0 0 sp0 2 (L7 bk0)=true:=(wF WB 0 sp0 true).2 ⟨[0],by rw[t0];simp,con0,h00⟩
theorem any03:aS bk0 0 sp0 3 (L7 bk0)=true:=(wF WB 0 sp0 false).2 ⟨[1],by rw[t0];simp,con1,h01⟩
theorem B2c:aS bk0 1 sp0 2 (L7 bk0)=true:=(wF WB 1 sp0 true).2 ⟨[1],by rw[t0];simp,con1,h11⟩
theorem B5f:aS bk0 1 sp0 3 (L7 bk0)=true:=(wF WB 1 sp0 false).2 ⟨[0],by rw[t0];simp,con0,h10⟩
theorem kd0:iM bk0 0 sp0=2:=by unfold iM;rw[B5g,any03];rfl
theorem kd1:iM bk0 1 sp0=2:=by unfold iM;rw[B2c,B5f];rfl
theorem first1:cC bk0 1 sp0 3 (L7 bk0)=SL 1 [I 0]:=by
 unfold cC
 have hm:=(bZ WB.e).2.2.2.2
 cases hf:(L7 bk0).find? λx=>decide (x.kind bk0 1 sp0=3) with
 |none=>
  have h:=B5f
  unfold aS at h
  obtain⟨x,hx,hk⟩:=aC.1 h
  exact absurd hk (cV.1 hf x hx)
 |some x=>
  have hk:Lf.kind bk0 1 sp0 x=3:=G4 (KZ (p:=λx=>decide (Lf.kind bk0 1 sp0 x=3)) hf)
  have hx:=lC hf
  cases x with
  |brk c v p=>exact absurd (show(1:Int)=3 from hk) (by decide)
  |con c=>
   have hc:=vE.2 (IT hm _ _ (by simp) (Y0 _) c hx)
   rw[t0] at hc
   rcases J0.1 hc with rfl|hc
   ·rfl
   ·rcases J0.1 hc with rfl|hc
    ·have:Lf.kind bk0 1 sp0 (.con [1])=if nR bk0 1 sp0 [1] then 2 else 3:=rfl
     rw[this,h11] at hk
     exact absurd hk (by decide)
    ·cases hc
theorem ver0:∃x y z,ED bk0 0 sp0=.agg [I 2,x,y,z]:=⟨_,_,_,by unfold ED;rw[kd0]⟩
theorem ver1:∃x z,ED bk0 1 sp0=.agg [I 2,x,SL 1 [I 0],z]:=⟨_,_,by unfold ED;rw[kd1,first1]⟩
theorem A7c:C9 Tryz.prog 4 [] (E5 [.b true]):=by
 have hA:=BK WB (s:=0) (by decide) spk0 (.inl B5g)
 have hB:=BK WB (s:=1) (by decide) spk0 (.inl B2c)
 have hV:=MF WB (s:=1) (by decide) spk0 (.inl B2c)
 obtain⟨x,y,z,e0⟩:=ver0
 obtain⟨u,w,e1⟩:=ver1
 rw[e0] at hA
 rw[e1] at hB hV
 obtain⟨X,hX⟩:∃X,X=D.agg [.sl 1 true (bk0.op.map I),I 1,.sl 9 true (bk0.recs.map Rec.d)]:=⟨_,rfl⟩
 have l:DLe X bk0.d:=by rw[hX];exact DLe.agg ⟨DLe.full _ _ _,.refl _,DLe.full _ _ _,rfl⟩
 have hA:C9 Tryz.prog 16 [.d X,.d (I 0),.d sp0.d] _:=C9.le (args':=[.d bk0.d,.d (I 0),.d sp0.d]) ⟨VLe.d l,VLe.refl _,VLe.refl _,rfl⟩ hA
 have hB:C9 Tryz.prog 16 [.d X,.d (I 1),.d sp0.d] _:=C9.le (args':=[.d bk0.d,.d (I 1),.d sp0.d]) ⟨VLe.d l,VLe.refl _,VLe.refl _,rfl⟩ hB
 have hV:C9 Tryz.prog 17 [.d X,.d (I 1),.d sp0.d,.d (.agg [I 2,u,SL 1 [I 0],w])] _:=C9.le (args':=[.d bk0.d,.d (I 1),.d sp0.d,.d (.agg [I 2,u,SL 1 [I 0],w])]) ⟨VLe.d l,VLe.refl _,VLe.refl _,VLe.refl _,rfl⟩ hV
 subst hX
 refine pU Tryz.func4 ?_
 repeat' ((conv=>whnf);first|refine Dec.t (G4 (Eq.refl true)) ?_|refine Dec.f (X5 (Eq.refl false)) ?_|refine Nam.mk (y:=1) rfl ?_|refine sT ?_|refine sP ?_ ?_<;>intro _|refine cA hA ?_|refine cA hB ?_|refine cA hV ?_|fail)
 all_goals exact fJ
theorem BE:∀a c:List Int,U6 (a++c)=U6 a*U6 c
 |[],c=>by simp[U6]
 |x::a,c=>by rw[I1,U6,U6,BE a c,Int.mul_assoc]
theorem AQ {m:List Int} (hm:∀x∈m,1<=x):∀i,i<=m.length->((Y6 m i).length:Int)=U6 (m.take i)
 |0,_=>by simp[Y6,U6]
 |i+1,hi=>by
  obtain⟨x,hx⟩:∃x,m[i]? =some x:=⟨_,A3 (by omega)⟩
  have hxD:m.getD i 0=x:=by rw[A5,hx];rfl
  have h1:=hm x (A7 hx)
  rw[Y6,VX,hxD,D1,hx,P2,BE,<-AQ hm i (by omega),Q5,vC (by omega)]
  simp[U6]
theorem YI {m:List Int} (hm:∀x∈m,1<=x) (hp:U6 m<=4096):∀(i:Nat) (x:Int),m[i]? =some x->((Y6 m i).length:Int)*x<=4096:=λi x hx=>by
 have hi:=(A4.1 hx).1
 have h1:=AQ hm i (by omega)
 have h2:m.take (i+1)=m.take i++[x]:=by rw[D1,hx];rfl
 have h3:U6 m=U6 (m.take (i+1))*U6 (m.drop (i+1)):=by rw[<-BE,Z4]
 have h4:U6 (m.take (i+1))=U6 (m.take i)*x:=by rw[h2,HH]
 have h5:=mQ (m.take (i+1)) λy hy=>hm y (List.mem_of_mem_take hy)
 have h6:=mQ (m.drop (i+1)) λy hy=>hm y (aX hy)
 have h7:=aZ (a:=U6 (m.take (i+1))) (c:=U6 (m.take (i+1))) (b:=1) (d:=U6 (m.drop (i+1))) (M7 _) h6 (by decide) (by omega)
 rw[h1,<-h4]
 omega
theorem A7p (b:D7):(Z8 b).length<=b.op.length+b.recs.length:=by
 unfold Z8 sM HA
 rw[B4,A6,A6]
 have h1:=L0 (λi=>decide (0<b.op.getD i 0)) (List.range b.op.length)
 have h2:=L0 (λi=>decide ((recAt b i).f.kind=1)) (List.range b.recs.length)
 rw[M6] at h1 h2
 omega
theorem few_of {b:D7} (hq:JP b=true):b.op.length<=4/\(b.per<=3∨b.per>16)/\b.recs.length<=8:=by
 unfold JP at hq
 simp only[C8,Q6,F3] at hq
 exact⟨hq.1.1.2,hq.1.2,hq.2⟩
def mxK (L:List Int) (f g:Int->Int) (k:Nat):List Int:=(L.take k).map f++(L.drop k).map g
theorem A2g (L:List Int) (f g:Int->Int) (k:Nat):(mxK L f g k).length=L.length:=by unfold mxK;simp;omega
theorem VB (L:List Int) (f g:Int->Int):mxK L f g 0=L.map g:=by unfold mxK;simp
theorem B3v (L:List Int) (f g:Int->Int):mxK L f g L.length=L.map f:=by unfold mxK;simp
theorem QR {L:List Int} {f g:Int->Int} {k:Nat} {s:Int} (h:L[k]? =some s):(mxK L f g k)[k]? =some (g s):=by
 have hk:=(A4.1 h).1
 unfold mxK
 have hl:((L.take k).map f).length=k:=by rw[A6,D0];omega
 rw[B3 (by omega),hl,G2,A8,J4,W2,h];rfl
theorem QQ {L:List Int} {f g:Int->Int} {k:Nat} {s:Int} (h:L[k]? =some s):(mxK L f g k).set k (f s)=mxK L f g (k+1):=by
 have hk:=(A4.1 h).1
 unfold mxK
 have hl:((L.take k).map f).length=k:=by rw[A6,D0];omega
 have hd:L.drop k=s::L.drop (k+1):=by rw[dM hk];congr 1;exact T7 ((A3 hk).symm.trans h)
 have ht:L.take (k+1)=L.take k++[s]:=by rw[D1,h];rfl
 rw[K8 _ _ (by omega),hl,G2,hd,E8,E9,ht,D2,D5];rfl
theorem VC {L:List Int} {f g:Int->Int} {k:Nat} {s:Int} (h:L[k]? =some s) (e:f s=g s):mxK L f g k=mxK L f g (k+1):=by
 rw[<-QQ h,e]
 have:=QR (f:=f) (g:=g) h
 obtain⟨h1,h2⟩:=A4.1 this
 rw[<-h2,Z5]
theorem B3j (S:List Int):List.replicate S.length (I 0)=(S.map λ_=>(0:Int)).map I:=by
 induction S with
 |nil=>rfl
 |cons x S ih=>rw[M2,M1,ih];rfl
theorem eqR00:eqD tt 4 47 (rD 0).cells (rD 0).cells=true:=by decide+kernel
theorem eqR01:eqD tt 4 47 (rD 0).cells (rD 1).cells=false:=by decide+kernel
theorem eqR10:eqD tt 4 47 (rD 1).cells (rD 0).cells=false:=by decide+kernel
theorem eqR11:eqD tt 4 47 (rD 1).cells (rD 1).cells=true:=by decide+kernel
structure XTa where
 i:Nat
 n:Int
 q:Bool
 H:List D
 L:List D
structure XTc where
 k:Nat
 o:Bool
structure XTb where
 k:Nat
 q:Rat
 H:List D
 L:List D
theorem PU (b:D7) (ho:b.op.length<2^63) (hr:b.recs.length<2^63) (sp:S8):C9 Tryz.prog 3 [.d b.d,.d sp.d] (E5 [.b true]):=by
 have hF:=A4f b ho hr
 have hS:=A7c
 have m1:(b.op.map I).length=b.op.length:=A6 _
 cases hq:JP b with
 |false=>
  rw[hq] at hF
  refine pU Tryz.func3 ?_
  repeat' ((conv=>whnf);first|refine sT ?_|refine sP ?_ ?_<;>intro _|refine cA hS ?_|refine cA hF ?_|fail)
  all_goals exact fI
 |true=>
  rw[hq] at hF
  obtain⟨q1,q2,q3⟩:=few_of hq
  have W:EW b:=⟨by omega,by omega⟩
  have hC:=tV b W
  by_cases hg:jF b=0/\sp.ok b
  ·obtain⟨he,hsp⟩:=hg
   obtain⟨hb,hMe,hml,hd8,hm⟩:=bZ he
   have hv:=hsp.v
   have hp:=hsp.p
   have hbp:=hb.p
   have F:fO b:=⟨W,he,q3,by omega,q1,by omega⟩
   have hMy:=kE b W
   rw[he] at hC hMy
   rw[hMe] at hMy
   have hpr:=nI he
   have hm1:∀x∈G0 b,1<=x:=λx hx=>(hm x hx).1
   have hTu:=A3n (G0 b) (by omega) (λx hx=>by have:=hm x hx;omega) (YI hm1 hpr) false
   have hTl:((bV (G0 b)).length:Int)<=4096:=by
    unfold bV
    rw[AQ hm1 _ (B1 _),I5];exact hpr
   have hSr:=LF b (by omega) (by omega)
   have m2:((bV (G0 b)).map jP).length=(bV (G0 b)).length:=A6 _
   have m3:((Z8 b).map I).length=(Z8 b).length:=A6 _
   have hsl:(Z8 b).length<=64:=by have:=A7p b;omega
   have ck1:(0:Int)<=((Z8 b).length:Nat)/\(((Z8 b).length:Nat):Int)<=((Z8 b).length:Nat)/\(((Z8 b).length:Nat):Int)<=room:=by simp[room];omega
   have hall:∀c∈bV (G0 b),Whole (G0 b) c:=λc hc=>vE.1 hc
   generalize hT:bV (G0 b)=T at*
   generalize hL:Z8 b=S at*
   refine pU Tryz.func3 ?_
   repeat' ((conv=>whnf);first|refine Nam.mk m1 ?_|refine Nam.mk m2 ?_|refine Nam.mk m3 ?_|refine Chk.mk ck1 ?_|refine sT ?_|refine sP ?_ ?_<;>intro _|refine cA hS ?_|refine cA hF ?_|refine cA hC ?_|refine cA hMy ?_|refine cA hTu ?_|refine cA hSr ?_|fail)
   all_goals((conv=>whnf);try exact xO)
   have hrep:List.replicate ((S.length:Nat):Int).toNat (I 0)=(S.map λ_=>(0:Int)).map I:=by
    rw[B0];exact B3j S
   refine lO (X:=XTa) (λx=>[(14,.d (I x.i)),(13,.d (I x.n)),(12,.d (.b x.q))]) (λx=>[(2,.row 0 1 false x.H),(3,.row 0 1 false x.L)])
    (λx=>x.i<=T.length/\(x.n=EO b (T.take x.i)/\x.q=NQ b sp (T.take x.i))/\x.H=(S.map (pF b sp (T.take x.i))).map I/\x.L=(S.map (kW b sp (T.take x.i))).map I)
    (λx=>T.length-x.i) ⟨0,0,true,List.replicate ((S.length:Nat):Int).toNat (I 0),List.replicate ((S.length:Nat):Int).toNat (I 0)⟩ sam rfl ⟨B9 _,⟨rfl,rfl⟩,hrep,hrep⟩ ?_
   rintro⟨i,n,q,H,L⟩ ⟨hi,⟨hn,hfq⟩,hH,hLk⟩
   dsimp only at hi hn hfq hH hLk
   dsimp only
   by_cases hlt:i<T.length
   ·obtain⟨c,hc⟩:∃c,T[i]? =some c:=⟨_,A3 hlt⟩
    have hst:T.take (i+1)=T.take i++[c]:=by rw[D1,hc];rfl
    have hw:=hall c (A7 hc)
    have hcb:=qL hw.2 λx hx=>(hm x hx).2
    have hcl:c.length=(N6 b).length:=by rw[hw.1,hml]
    have hwh:iL b c=0:=yN he hw.2 hw.1
    have gc:=D4 (f:=jP) hc
    have hCo:=fN b W F.o1 c false hwh (by omega) hd8 hb hcl hcb
    have hHi:=jQ b W F.o1 c false hwh (by omega) hd8 hb hcl hcb
    have hnb:=vZ (wU b) (T.take i)
    have hnl:(T.take i).length<=4096:=by rw[D0];omega
    by_cases hcs:Y2 b c
    ·rw[C2 hcs] at hCo
     have hok:=(oN F hcs).ok
     have hFc:=VW (T1 b c) ⟨by have:=hok.nv;omega,by have:=hok.nf;omega⟩
     rw[hcs.1] at hFc
     have hN0:=nC 0 (by decide)
     have hN1:=nC 1 (by decide)
     rw[DV] at hN0
     rw[Rat.intCast_one] at hN1
     have hnr:0<=n/\n<=4096:=by rw[hn];unfold EO;omega
     repeat' ((conv=>whnf);first|refine Nam.mk m2 ?_|refine sT ?_|refine sP ?_ ?_<;>intro _|refine A9 gc ?_|refine cA hCo ?_|refine cA hHi ?_|refine cA hFc ?_|refine cA hN0 ?_|fail)
     all_goals((conv=>whnf);try exact xO)
     have e1:wU b c=true:=C2 hcs
     obtain⟨f1,hf1⟩:∃f,f=pF b sp (T.take (i+1)):=⟨_,rfl⟩
     obtain⟨f0,hf0⟩:∃f,f=pF b sp (T.take i):=⟨_,rfl⟩
     obtain⟨g1,hg1⟩:∃f,f=kW b sp (T.take (i+1)):=⟨_,rfl⟩
     obtain⟨g0,hg0⟩:∃f,f=kW b sp (T.take i):=⟨_,rfl⟩
     have nf:∀s,f1 s=f0 s+if nzB b sp s c then 1 else 0:=λs=>by rw[hf1,hf0];unfold pF;rw[hst,mW,e1,cQ]
     have ng:∀s,g1 s=g0 s+if nzB b sp s c then 0 else 1:=λs=>by
      rw[hg1,hg0];unfold kW;rw[hst,mW,e1,cQ]
      cases nzB b sp s c<;>rfl
     have rf:∀s,0<=f0 s/\f0 s<=4096:=λs=>by
      rw[hf0];unfold pF
      have:=vZ (λc=>wU b c&&nzB b sp s c) (T.take i);omega
     have rg:∀s,0<=g0 s/\g0 s<=4096:=λs=>by
      rw[hg0];unfold kW
      have:=vZ (λc=>wU b c&& !nzB b sp s c) (T.take i);omega
     rw[<-hf0] at hH
     rw[<-hg0] at hLk
     refine lO (X:=XTb) (λx=>[(21,.d (I x.k)),(13,.d (I (n+1)))]) (λx=>[(2,.row 0 1 false x.H),(3,.row 0 1 false x.L),(7,.vard (rD x.q).cells)])
      (λx=>x.k<=S.length/\x.q=mF (shB b sp c) (S.take x.k)/\x.H=(mxK S f1 f0 x.k).map I/\x.L=(mxK S g1 g0 x.k).map I)
      (λx=>S.length-x.k) ⟨0,0,H,L⟩ sam rfl ⟨B9 _,rfl,by rw[VB];exact hH,by rw[VB];exact hLk⟩ ?_
     clear hH hLk
     rintro⟨k,r,H,L⟩ ⟨hk,hrs,hH,hLk⟩
     dsimp only at hk hrs hH hLk
     dsimp only
     by_cases hkl:k<S.length
     ·obtain⟨s,hs⟩:∃s,S[k]? =some s:=⟨_,A3 hkl⟩
      have hsm:s∈Z8 b:=by rw[hL];exact A7 hs
      have hSh:=TJ F hsm hsp hw hcs
      have hlm:=B4x F hsp hcs (S.take k) (by rw[D0];omega) s
      rw[<-hrs] at hlm
      have hAd:=HF r (shB b sp c s) hlm.1 hlm.2
      have hnx:r+shB b sp c s=mF (shB b sp c) (S.take (k+1)):=by rw[D1,hs,P2,A3q,hrs]
      have gs:=D4 (f:=I) hs
      have hzv:(str (qn (shB b sp c s))).toList=(⟨#[]⟩:ByteArray).toList↔qn (shB b sp c s)=0:=by rw[<-fP,LH]
      have hq0:qn (shB b sp c s)=0↔shB b sp c s=0:=by
       unfold qn
       rw[Int.natAbs_eq_zero]
       exact KW
      have nfs:=nf s
      have ngs:=ng s
      have rfs:=rf s
      have rgs:=rg s
      have mf:=QQ (f:=f1) (g:=f0) hs
      have mg:=QQ (f:=g1) (g:=g0) hs
      have gf:=QR (f:=f1) (g:=f0) hs
      have gg:=QR (f:=g1) (g:=g0) hs
      have lf:=A2g S f1 f0 k
      have lg:=A2g S g1 g0 k
      have nzs:nzB b sp s c=decide (shB b sp c s≠0):=rfl
      generalize shB b sp c s=z at*
      by_cases hz:z=0
      ·have hq1:=hzv.2 (hq0.2 hz)
       rw[nzs,B6 (λh=>h hz)] at nfs ngs
       repeat' ((conv=>whnf);first|refine Dec.t hq1 ?_|refine Nam.mk m2 ?_|refine Nam.mk m3 ?_|refine sT ?_|refine sP ?_ ?_<;>intro _|refine A9 gc ?_|refine A9 gs ?_|refine cA hSh ?_|refine cA hAd ?_|fail)
       all_goals((conv=>whnf);try exact xO)
       rw[ngs] at mg
       have pg:=tR (y:=(k:Int)) (B0 k) gg
       have lg:=QH (z:=mxK S g1 g0 k) (i:=k) (y:=(k:Int)) (B0 k) (by omega)
       have qg:=yX (y:=(k:Int)) (B0 k) mg
       rw[<-hLk] at pg lg qg
       repeat' ((conv=>whnf);first|refine Dec.t hq1 ?_|refine Nam.mk m2 ?_|refine Nam.mk m3 ?_|refine sT ?_|refine sP ?_ ?_<;>intro _|refine A9 pg ?_|refine J6 lg qg ?_|fail)
       all_goals(conv=>whnf)
       have hH2:H=(mxK S f1 f0 (k+1)).map I:=by rw[hH,VC hs (by rw[nfs];simp)]
       all_goals first|(exfalso;omega)|exact⟨⟨k+1,r+z,H,_⟩,wE,⟨hkl,hnx,hH2,rfl⟩,by simp only;omega⟩
      ·have hq1:=λh=>hz (hq0.1 (hzv.1 h))
       rw[nzs,C2 hz] at nfs ngs
       rw[nfs] at mf
       have pf:=tR (y:=(k:Int)) (B0 k) gf
       have lf:=QH (z:=mxK S f1 f0 k) (i:=k) (y:=(k:Int)) (B0 k) (by omega)
       have qf:=yX (y:=(k:Int)) (B0 k) mf
       rw[<-hH] at pf lf qf
       repeat' ((conv=>whnf);first|refine Dec.f hq1 ?_|refine Nam.mk m2 ?_|refine Nam.mk m3 ?_|refine sT ?_|refine sP ?_ ?_<;>intro _|refine A9 gc ?_|refine A9 gs ?_|refine A9 pf ?_|refine J6 lf qf ?_|refine cA hSh ?_|refine cA hAd ?_|fail)
       all_goals(conv=>whnf)
       have hL2:L=(mxK S g1 g0 (k+1)).map I:=by rw[hLk,VC hs (by rw[ngs];simp)]
       all_goals first|(exfalso;omega)|exact⟨⟨k+1,r+z,_,L⟩,wE,⟨hkl,hnx,rfl,hL2⟩,by simp only;omega⟩
     ·obtain rfl:k=S.length:=by omega
      rw[B3v] at hH hLk
      rw[I5] at hrs
      have h01:=sum01 F hsp hcs
      rw[hL,<-hrs] at h01
      have hfu:NQ b sp (T.take (i+1))=(q&&decide (r=1)):=by rw[hst,JG,e1,<-hfq];unfold B3t;rw[hL,<-hrs];rfl
      have hn1:n+1=EO b (T.take (i+1)):=by unfold EO;rw[hst,mW,e1,hn];rfl
      have hH1:H=(S.map (pF b sp (T.take (i+1)))).map I:=by rw[hH,hf1]
      have hL1:L=(S.map (kW b sp (T.take (i+1)))).map I:=by rw[hLk,hg1]
      rcases h01 with h01|h01
      ·subst h01
       rw[B6 (by decide+kernel),pC] at hfu
       cases q
       all_goals repeat' ((conv=>whnf);first|refine Nam.mk m2 ?_|refine Nam.mk m3 ?_|refine sT ?_|refine sP ?_ ?_<;>intro _|refine cA hN0 ?_|refine cA hN1 ?_|refine Nam.mk eqR01 ?_|refine Nam.mk eqR00 ?_|fail)
       all_goals(conv=>whnf)
       all_goals first|(exfalso;omega)|exact⟨⟨i+1,n+1,_,H,L⟩,wE,⟨hlt,⟨hn1,hfu.symm⟩,hH1,hL1⟩,by simp only;omega⟩
      ·subst h01
       rw[C2 (by decide+kernel),mD] at hfu
       cases q
       all_goals repeat' ((conv=>whnf);first|refine Nam.mk m2 ?_|refine Nam.mk m3 ?_|refine sT ?_|refine sP ?_ ?_<;>intro _|refine cA hN0 ?_|refine cA hN1 ?_|refine Nam.mk eqR11 ?_|refine Nam.mk eqR10 ?_|fail)
       all_goals(conv=>whnf)
       all_goals first|(exfalso;omega)|exact⟨⟨i+1,n+1,_,H,L⟩,wE,⟨hlt,⟨hn1,hfu.symm⟩,hH1,hL1⟩,by simp only;omega⟩
    ·rw[B6 hcs] at hCo
     have e0:wU b c=false:=B6 hcs
     repeat' ((conv=>whnf);first|refine Nam.mk m2 ?_|refine sT ?_|refine sP ?_ ?_<;>intro _|refine A9 gc ?_|refine cA hCo ?_|fail)
     all_goals((conv=>whnf);try exact xO)
     refine⟨⟨i+1,n,q,H,L⟩,wE,⟨hlt,⟨?_,?_⟩,?_,?_⟩,by simp only;omega⟩
     ·dsimp only;unfold EO;rw[hst,mW,e0,hn];unfold EO;simp
     ·dsimp only;rw[hst,JG,e0,hfq];simp
     ·dsimp only;rw[hH];congr 1;refine List.map_congr_left λs _=> ?_;unfold pF;rw[hst,mW,e0];simp
     ·dsimp only;rw[hLk];congr 1;refine List.map_congr_left λs _=> ?_;unfold kW;rw[hst,mW,e0];simp
   ·obtain rfl:i=T.length:=by omega
    rw[I5] at hn hfq hH hLk
    have hnr:0<=n/\n<=4096:=by
     have:=vZ (wU b) T
     rw[hn];unfold EO;omega
    repeat' ((conv=>whnf);first|refine Nam.mk m2 ?_|refine Nam.mk m3 ?_|refine sT ?_|refine sP ?_ ?_<;>intro _|fail)
    all_goals((conv=>whnf);try exact xO)
    by_cases hn0:n=0
    ·rw[hn0] at hn
     refine lO (X:=Nat) (λk=>[(31,.d (I k))]) (λ_=>[]) (λk=>k<=S.length) (λk=>S.length-k) 0 sam rfl (B9 _) ?_
     intro k hk
     by_cases hkl:k<S.length
     ·obtain⟨s,hs⟩:∃s,S[k]? =some s:=⟨_,A3 hkl⟩
      have hsm:s∈Z8 b:=by rw[hL];exact A7 hs
      have hno:=A9j F s sp (by rw[hT];exact hn.symm)
      have hTr:=ZW F hsm hsp hno.1 hno.2
      have gs:=D4 (f:=I) hs
      repeat' ((conv=>whnf);first|refine Nam.mk m3 ?_|refine sT ?_|refine sP ?_ ?_<;>intro _|refine A9 gs ?_|refine cA hTr ?_|fail)
      all_goals(conv=>whnf)
      all_goals first|(exfalso;omega)|exact⟨k+1,wE,hkl,by omega⟩
     ·repeat' ((conv=>whnf);first|refine Nam.mk m3 ?_|refine sT ?_|refine sP ?_ ?_<;>intro _|fail)
      all_goals exact fI
    ·have hnz:EO b (bV (G0 b))≠0:=by rw[hT,<-hn];exact hn0
     refine lO (X:=XTc) (λx=>[(31,.d (I x.k)),(30,.d (.b x.o))]) (λ_=>[]) (λx=>x.k<=S.length/\x.o=(S.take x.k).any λs=>decide (pF b sp T s≠0)) (λx=>S.length-x.k) ⟨0,false⟩ sam rfl ⟨B9 _,rfl⟩ ?_
     rintro⟨k,o⟩ ⟨hk,hoo⟩
     dsimp only at hk hoo
     dsimp only
     by_cases hkl:k<S.length
     ·obtain⟨s,hs⟩:∃s,S[k]? =some s:=⟨_,A3 hkl⟩
      have hsm:s∈Z8 b:=by rw[hL];exact A7 hs
      have hsome:=TY F s sp hnz
      have hTr:=BK F hsm hsp hsome
      have hCk:=MF F hsm hsp hsome
      have hkw:=A4t F s sp hnz
      have a2:=B4w F s sp
      have a3:=B4v F s sp
      rw[hT] at hkw a2 a3
      have hsm2:0<=pF b sp T s/\pF b sp T s<=4096:=by have:=vZ (λc=>wU b c&&nzB b sp s c) T;unfold pF;omega
      have hlm2:0<=kW b sp T s/\kW b sp T s<=4096:=by have:=vZ (λc=>wU b c&& !nzB b sp s c) T;unfold kW;omega
      have hnx:((S.take (k+1)).any λs=>decide (pF b sp T s≠0))=(o||decide (pF b sp T s≠0)):=by rw[D1,hs,P2,List.any_append,<-hoo];simp
      have hz2:¬(pF b sp T s=0/\kW b sp T s=0):=λh=>by
       rcases hsome with h'|h'
       ·exact a2.1 h' h.1
       ·exact a3.1 h' h.2
      have gs:=D4 (f:=I) hs
      have gh:H[0+((k:Nat):Int).toNat]? =some (I (pF b sp T s)):=by rw[hH];exact tR (B0 k) (by rw[A8,hs];rfl)
      have gl:L[0+((k:Nat):Int).toNat]? =some (I (kW b sp T s)):=by rw[hLk];exact tR (B0 k) (by rw[A8,hs];rfl)
      unfold ED at hTr hCk
      generalize cC b s sp 2 (L7 b)=w1 at hTr hCk
      generalize cC b s sp 3 (L7 b)=w2 at hTr hCk
      generalize SL 4 ((L7 b).map (Lf.br b s sp))=w3 at hTr hCk
      rw[hkw] at hTr hCk
      clear a2 a3 hsome hkw
      generalize pF b sp T s=h at*
      generalize kW b sp T s=l at*
      unfold A6u at hTr hCk
      by_cases l0:l=0
      ·rw[if_pos l0] at hTr hCk
       rw[C2 (show h≠0 from λe=>hz2 ⟨e,l0⟩)] at hnx
       cases o
       all_goals repeat' ((conv=>whnf);first|refine Nam.mk m3 ?_|refine sT ?_|refine sP ?_ ?_<;>intro _|refine A9 gs ?_|refine A9 gh ?_|refine A9 gl ?_|refine cA hTr ?_|refine cA hCk ?_|fail)
       all_goals(conv=>whnf)
       all_goals first|(exfalso;omega)|exact⟨⟨k+1,true⟩,wE,⟨hkl,hnx.symm⟩,by simp only;omega⟩
      ·rw[if_neg l0] at hTr hCk
       by_cases h0:h=0
       ·rw[if_pos h0] at hTr hCk
        rw[B6 (show ¬h≠0 from λe=>e h0),aQ] at hnx
        cases o
        all_goals repeat' ((conv=>whnf);first|refine Nam.mk m3 ?_|refine sT ?_|refine sP ?_ ?_<;>intro _|refine A9 gs ?_|refine A9 gh ?_|refine A9 gl ?_|refine cA hTr ?_|refine cA hCk ?_|fail)
        all_goals(conv=>whnf)
        all_goals first|(exfalso;omega)|exact⟨⟨k+1,_⟩,wE,⟨hkl,hnx.symm⟩,by simp only;omega⟩
       ·rw[if_neg h0] at hTr hCk
        rw[C2 (show h≠0 from h0)] at hnx
        cases o
        all_goals repeat' ((conv=>whnf);first|refine Nam.mk m3 ?_|refine sT ?_|refine sP ?_ ?_<;>intro _|refine A9 gs ?_|refine A9 gh ?_|refine A9 gl ?_|refine cA hTr ?_|refine cA hCk ?_|fail)
        all_goals(conv=>whnf)
        all_goals first|(exfalso;omega)|exact⟨⟨k+1,true⟩,wE,⟨hkl,hnx.symm⟩,by simp only;omega⟩
     ·obtain rfl:k=S.length:=by omega
      rw[I5] at hoo
      have hqo:q=true->o=true:=λe=>by
       rw[hfq,<-hT] at e
       obtain⟨s,h1,h2⟩:=A5a hnz e
       rw[hoo]
       exact aC.2 ⟨s,by rw[<-hL];exact h1,C2 (by rw[<-hT];exact h2)⟩
      cases q<;>cases o
      all_goals repeat' ((conv=>whnf);first|refine Nam.mk m3 ?_|refine sT ?_|refine sP ?_ ?_<;>intro _|fail)
      all_goals(conv=>whnf)
      all_goals first|(exfalso;omega)|exact DLe.refl _|exact absurd (hqo rfl) (by decide)
  ·by_cases he:jF b=0
   ·rw[he] at hC
    have hns:¬((0<=sp.v/\sp.v<b.op.length)/\0<=sp.p/\sp.p<b.per):=λh=>hg ⟨he,h.1,h.2⟩
    refine pU Tryz.func3 ?_
    repeat' ((conv=>whnf);first|refine Nam.mk m1 ?_|refine sT ?_|refine sP ?_ ?_<;>intro _|refine cA hS ?_|refine cA hF ?_|refine cA hC ?_|fail)
    all_goals exact fI
   ·generalize jF b=e at*
    refine pU Tryz.func3 ?_
    repeat' ((conv=>whnf);first|refine Nam.mk m1 ?_|refine sT ?_|refine sP ?_ ?_<;>intro _|refine cA hS ?_|refine cA hF ?_|refine cA hC ?_|fail)
    all_goals exact fI
end Go.PM

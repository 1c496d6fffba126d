/- TopTrace: part 15 of the proof: for every input the law returns true, and its arguments read behind the call as they read before; where the library's table is as its own text lays it. -/
import Derived.Test.YtefjfjfcjihcpaaGreatDoorQ14
set_option maxRecDepth 10000
set_option maxHeartbeats 400000000
set_option linter.unusedSectionVars false
namespace Go.PM
open Go.Proofs
theorem A6y (b:D7) (s:Int) (sp:S8) (x:Br) (q:Bool) (hv:x.v=0) (hp:x.p=0) (hC:C9 Tryz.prog 169 [.d (qD b s sp),.d x.d] (E5 [.b true])) (hH:C9 Tryz.prog 171 [.d (qD b s sp),.d (SL 1 (x.c.map I))] (E5 [.b q,I 0])):
 C9 Tryz.prog 170 [.d x.d,.rp (qC b s sp) 0,.rp [.b q] 0] (E5 [.b true,I 0]):=by
 obtain⟨xc,xk,xv,xp⟩:=x
 dsimp only at hv hp hH
 subst hv;subst hp
 unfold Br.d qD qC at hC
 unfold qD qC at hH
 unfold Br.d qC
 dsimp only at hC ⊢
 cases q with
 |true=>
  refine pU Tryz.func170 ?_
  repeat' ((conv=>whnf);first|refine sT ?_|refine sP ?_ ?_<;>intro _|refine cA hC ?_|refine cA hH ?_|fail)
  all_goals exact fI
 |false=>
  refine pU Tryz.func170 ?_
  repeat' ((conv=>whnf);first|refine sT ?_|refine sP ?_ ?_<;>intro _|refine cA hC ?_|refine cA hH ?_|fail)
  all_goals exact fI
def rT (b:D7) (s:Int) (sp:S8):Nat->D
 |1=>.cl 124 [qD b s sp] []
 |2=>.cl 170 [] [.pt (qC b s sp),.pt [.b true]]
 |_=>.cl 170 [] [.pt (qC b s sp),.pt [.b false]]
def esR (b:D7) (s:Int) (sp:S8):List Nat->List (D×D)
 |[]=>[]
 |j::r=>nJ tt 3 (I (j:Int)) (rT b s sp j) (esR b s sp r)
def ts0R (b:D7) (s:Int) (sp:S8) (x:Br):Tm:=[(5,.d (I 0)),(4,.d (.b false)),(3,.ptr 1 0 0 0),(2,.ptr 0 0 0 0),(1,.d x.d),(0,.d (qD b s sp))]
def tsR (b:D7) (s:Int) (sp:S8) (x:Br) (b0 b1 b2 b3 b4 b5 b6 b7 b8 b9 b10 b11:Bool):Tm:=[(9,bif b0 then .map 2 else .u),(10,bif b1 then .d (qD b s sp) else .u),(11,bif b2 then .d (rT b s sp 1) else .u),(12,bif b4 then .d (qD b s sp) else .u),(13,bif b5 then .d (rT b s sp 2) else .u),(14,bif b7 then .d (qD b s sp) else .u),(15,bif b8 then .d (rT b s sp 3) else .u),(16,bif b10 then .map 2 else .u),(6,bif b11 then .map 2 else .u)]++ts0R b s sp x
def hpR (b:D7) (s:Int) (sp:S8) (x:Br) (b0:Bool) (p:List Nat):Hp:=[.vard (qD b s sp).cells,.vard x.d.cells,bif b0 then .map tt 3 (esR b s sp p) else .res]
def okP (b0 b3 b6 b9:Bool) (p:List Nat):Prop:=p.Nodup/\(∀j∈p,(j=1/\b3=true)∨(j=2/\b6=true)∨(j=3/\b9=true))/\(b3=true->1∈p)/\(b6=true->2∈p)/\(b9=true->3∈p)/\(b0=false->p=[])
theorem okP_0 {b3 b6 b9:Bool} {p:List Nat} (h:okP false b3 b6 b9 p):p=[]/\okP true b3 b6 b9 p:=⟨h.2.2.2.2.2 rfl,h.1,h.2.1,h.2.2.1,h.2.2.2.1,h.2.2.2.2.1,λe=>Bool.noConfusion e⟩
theorem A9d {b6 b9:Bool} {p:List Nat} (h:okP true false b6 b9 p):okP true true b6 b9 (1::p):=by
 obtain⟨h1,h2,h3,h4,h5,h6⟩:=h
 refine⟨dW.2 ⟨λhm=> ?_,h1⟩,λj hj=> ?_,λ_=>.head _,λe=>.tail _ (h4 e),λe=>.tail _ (h5 e),λe=>Bool.noConfusion e⟩
 ·rcases h2 1 hm with⟨_,e⟩|⟨e,_⟩|⟨e,_⟩
  ·cases e
  ·omega
  ·omega
 ·rcases J0.1 hj with rfl|hj
  ·exact .inl ⟨rfl,rfl⟩
  ·rcases h2 j hj with⟨_,e⟩|e|e
   ·cases e
   ·exact .inr (.inl e)
   ·exact .inr (.inr e)
theorem A9c {b3 b9:Bool} {p:List Nat} (h:okP true b3 false b9 p):okP true b3 true b9 (2::p):=by
 obtain⟨h1,h2,h3,h4,h5,h6⟩:=h
 refine⟨dW.2 ⟨λhm=> ?_,h1⟩,λj hj=> ?_,λe=>.tail _ (h3 e),λ_=>.head _,λe=>.tail _ (h5 e),λe=>Bool.noConfusion e⟩
 ·rcases h2 2 hm with⟨e,_⟩|⟨_,e⟩|⟨e,_⟩
  ·omega
  ·cases e
  ·omega
 ·rcases J0.1 hj with rfl|hj
  ·exact .inr (.inl ⟨rfl,rfl⟩)
  ·rcases h2 j hj with e|⟨_,e⟩|e
   ·exact .inl e
   ·cases e
   ·exact .inr (.inr e)
theorem A9b {b3 b6:Bool} {p:List Nat} (h:okP true b3 b6 false p):okP true b3 b6 true (3::p):=by
 obtain⟨h1,h2,h3,h4,h5,h6⟩:=h
 refine⟨dW.2 ⟨λhm=> ?_,h1⟩,λj hj=> ?_,λe=>.tail _ (h3 e),λe=>.tail _ (h4 e),λ_=>.head _,λe=>Bool.noConfusion e⟩
 ·rcases h2 3 hm with⟨e,_⟩|⟨e,_⟩|⟨_,e⟩
  ·omega
  ·omega
  ·cases e
 ·rcases J0.1 hj with rfl|hj
  ·exact .inr (.inr ⟨rfl,rfl⟩)
  ·rcases h2 j hj with e|e|⟨_,e⟩
   ·exact .inl e
   ·exact .inr (.inl e)
   ·cases e
theorem B3u {p:List Nat} (h:okP true true true true p):p=[1,2,3]∨p=[1,3,2]∨p=[2,1,3]∨p=[2,3,1]∨p=[3,1,2]∨p=[3,2,1]:=by
 obtain⟨h1,h2,h3,h4,h5,_⟩:=h
 have hm:∀j∈p,j=1∨j=2∨j=3:=λj hj=>by rcases h2 j hj with e|e|e<;>omega
 have a1:=h3 rfl
 have a2:=h4 rfl
 have a3:=h5 rfl
 clear h2 h3 h4 h5
 match p,h1,hm,a1,a2,a3 with
 |[],_,_,a1,_,_=>cases a1
 |[x],_,_,a1,a2,_=>simp at a1 a2;omega
 |[x,y],_,_,a1,a2,a3=>simp at a1 a2 a3;omega
 |[x,y,z],h1,hm,_,_,_=>
  have b1:=hm x (by simp)
  have b2:=hm y (by simp)
  have b3:=hm z (by simp)
  rcases b1 with rfl|rfl|rfl<;>rcases b2 with rfl|rfl|rfl<;>rcases b3 with rfl|rfl|rfl<;>first|(exfalso;revert h1;decide)|simp
 |x::y::z::u::l,h1,hm,_,_,_=>
  exfalso
  have b1:=hm x (by simp)
  have b2:=hm y (by simp)
  have b3:=hm z (by simp)
  have b4:=hm u (by simp)
  have g1:=dW.1 h1
  have g2:=dW.1 g1.2
  have g3:=dW.1 g2.2
  have n1:x≠y/\x≠z/\x≠u:=⟨λe=>g1.1 (by simp[e]),λe=>g1.1 (by simp[e]),λe=>g1.1 (by simp[e])⟩
  have n2:y≠z/\y≠u:=⟨λe=>g2.1 (by simp[e]),λe=>g2.1 (by simp[e])⟩
  have n3:z≠u:=λe=>g3.1 (by simp[e])
  clear h1 hm g1 g2 g3
  rcases b1 with rfl|rfl|rfl<;>rcases b2 with rfl|rfl|rfl<;>first|exact n1.1 rfl|(rcases b3 with rfl|rfl|rfl<;>first|exact n1.2.1 rfl|exact n2.1 rfl|(rcases b4 with rfl|rfl|rfl<;>first|exact n1.2.2 rfl|exact n2.2 rfl|exact n3 rfl))
theorem sR {l:Array Bool} {after:Array _} (h:after.toList.all (λe:Edge=>l.getD e.on false)=true):∀e∈after,l.getD e.on false=true:=λe he=>C5.1 h e (Array.mem_toList_iff.2 he)
theorem A9r {B:Tm} (t:Nat):∀(A:Tm),(∀p∈A,p.2=V.u)->look (A++B) t=.u∨look (A++B) t=look B t
 |[],_=>.inr rfl
 |(e,x)::A,h=>by
  have h0:=h (e,x) (.head _)
  simp only[I1,look]
  cases Nat.beq e t with
  |true=>exact .inl h0
  |false=>exact A9r t A λp hp=>h p (.tail _ hp)
theorem i12 {i:Nat} (h:i<12):i=0∨i=1∨i=2∨i=3∨i=4∨i=5∨i=6∨i=7∨i=8∨i=9∨i=10∨i=11:=by omega
def JR (b:D7) (s:Int) (sp:S8) (x:Br) (C:Cx) (w:World) (S:Stb) (β:Bet) (listed:Array Bool) (a':Act) (w':World):Prop:=∃b0 b1 b2 b3 b4 b5 b6 b7 b8 b9 b10 b11 p S' β',listed= #[b0,b1,b2,b3,b4,b5,b6,b7,b8,b9,b10,b11]/\okP b0 b3 b6 b9 p/\St Tryz.f79.ntmps C a' w' S' (tsR b s sp x b0 b1 b2 b3 b4 b5 b6 b7 b8 b9 b10 b11) (hpR b s sp x b0 p) β'/\F7 w S [.vard (qD b s sp).cells,.vard x.d.cells] β w' S' (hpR b s sp x b0 p) β'
theorem sF {b:D7} {s:Int} {sp:S8} {x:Br} {C:Cx} {w w':World} {S S':Stb} {β β':Bet} {h:Hp} {b0 b1 b2 b3 b4 b5 b6 b7 b8 b9 b10 b11:Bool} {p:List Nat} {listed:Array Bool} {a2:Act} {w2:World} (hE:F7 w S [.vard (qD b s sp).cells,.vard x.d.cells] β w' S' h β') (hp:okP b0 b3 b6 b9 p)
 (hP:CM Tryz.f79.ntmps C w' S' h β' (λts' h'=>(∀t,look (tsR b s sp x b0 b1 b2 b3 b4 b5 b6 b7 b8 b9 b10 b11) t=look ts' t)/\h'=hpR b s sp x b0 p) a2 w2) (hl:listed= #[b0,b1,b2,b3,b4,b5,b6,b7,b8,b9,b10,b11]:=by rfl):JR b s sp x C w S β listed a2 w2:=by
 obtain⟨ts',h',S2,β2,⟨k1,rfl⟩,hs,hE2⟩:=hP
 exact⟨b0,b1,b2,b3,b4,b5,b6,b7,b8,b9,b10,b11,p,S2,β2,hl,hp,⟨hs.hr,λt=>by rw[k1 t];exact hs.tr t,hs.size,hs.marks,hs.round,hs.base⟩,hE.trans hE2⟩
theorem xP (b:D7) (s:Int) (sp:S8) (x:Br) (k3:x.k=1∨x.k=2∨x.k=3) (h1:x.k=1->C9 Tryz.prog 124 [.d (qD b s sp),.d x.d] (E5 [.b true,I 0])) (h2:x.k=2->C9 Tryz.prog 170 [.d x.d,.rp (qC b s sp) 0,.rp [.b true] 0] (E5 [.b true,I 0])) (h3:x.k=3->C9 Tryz.prog 170 [.d x.d,.rp (qC b s sp) 0,.rp [.b false] 0] (E5 [.b true,I 0])):C9 Tryz.prog 79 [.d (qD b s sp),.d x.d] (E5 [.b true,I 0]):=by
 have hD1:=CQ b s sp true
 have hD0:=CQ b s sp false
 refine bX (Z3 (T:=tt) T5 Tryz.func79 (by rfl) rfl (B5 rfl) ?_) rfl
 (conv=>whnf)
 refine wQ ?_
 repeat' ((conv=>whnf);first|refine sT ?_|refine sP ?_ ?_<;>intro _|fail)
 (conv=>whnf)
 refine DWP.seqA (λts h=>∃p,okP true true true true p/\ts=tsR b s sp x true true true true true true true true true true true true/\h=hpR b s sp x true p) ?_ ?_
 ·intro n C a w S β hs
  obtain⟨β1,r1,e1⟩:=iT hs.hr 1
  obtain⟨d1,d2⟩:=drawn r1
  have hs1:=(hs.evol e1 r1).evol d2 d1
  refine wpIn_region_any mixed ?_
  refine A3c (JR b s sp x C w S β) ?_ ?_ 12 _ _ _ rfl ⟨false,false,false,false,false,false,false,false,false,false,false,false,[],S,β1,rfl,⟨List.nodup_nil,λj hj=>(O9 hj).elim,λe=>Bool.noConfusion e,λe=>Bool.noConfusion e,λe=>Bool.noConfusion e,λ_=>rfl⟩,?_,e1.trans d2⟩ (B5 rfl)
  ·rintro listed a' w' i hsz ⟨b0,b1,b2,b3,b4,b5,b6,b7,b8,b9,b10,b11,p,S',β',rfl,hp,hs,hE2⟩ hi
   obtain⟨h1,o,h2,h3⟩:=mem_ready.1 hi
   have hil:i<12:=(C4.1 h2).1
   rcases i12 hil with rfl|rfl|rfl|rfl|rfl|rfl|rfl|rfl|rfl|rfl|rfl|rfl
   ·
    cases h2
    obtain rfl:b0=false:=h1
    obtain⟨rfl,hp⟩:=okP_0 hp
    refine lL (nf:=2) (I6 T5 mixed) rfl hs (k:=λts' h'=>(∀t,look (tsR b s sp x true b1 b2 b3 b4 b5 b6 b7 b8 b9 b10 b11) t=look ts' t)/\h'=hpR b s sp x true []) ?_ (λa2 w2 hP=> ?_)
    ·unfold tsR hpR
     (conv=>whnf)
     repeat' ((conv=>whnf);first|refine sT ?_|refine sP ?_ ?_<;>intro _|refine cA hD1 ?_|refine cA hD0 ?_|refine Chk.mk rfl ?_|fail)
     all_goals(conv=>whnf)
     all_goals first|exact⟨λt=>fY t [] (by simp),rfl⟩
    ·exact sF hE2 hp hP
   ·
    cases h2
    obtain rfl:b1=false:=h1
    refine lL (nf:=2) (I6 T5 mixed) rfl hs (k:=λts' h'=>(∀t,look (tsR b s sp x b0 true b2 b3 b4 b5 b6 b7 b8 b9 b10 b11) t=look ts' t)/\h'=hpR b s sp x b0 p) ?_ (λa2 w2 hP=> ?_)
    ·unfold tsR hpR
     (conv=>whnf)
     repeat' ((conv=>whnf);first|refine sT ?_|refine sP ?_ ?_<;>intro _|refine cA hD1 ?_|refine cA hD0 ?_|refine Chk.mk rfl ?_|fail)
     all_goals(conv=>whnf)
     all_goals first|exact⟨λt=>fY t [(9,bif b0 then .map 2 else .u)] (λp hp=>by simp only[J0,O9,oI] at hp;rcases hp with rfl<;>rfl),rfl⟩
    ·exact sF hE2 hp hP
   ·
    cases h2
    obtain rfl:b2=false:=h1
    obtain rfl:b1=true:=h3 ⟨1,.data⟩ (by simp) rfl
    refine lL (nf:=2) (I6 T5 mixed) rfl hs (k:=λts' h'=>(∀t,look (tsR b s sp x b0 true true b3 b4 b5 b6 b7 b8 b9 b10 b11) t=look ts' t)/\h'=hpR b s sp x b0 p) ?_ (λa2 w2 hP=> ?_)
    ·unfold tsR hpR
     (conv=>whnf)
     repeat' ((conv=>whnf);first|refine sT ?_|refine sP ?_ ?_<;>intro _|refine cA hD1 ?_|refine cA hD0 ?_|refine Chk.mk rfl ?_|fail)
     all_goals(conv=>whnf)
     all_goals first|exact⟨λt=>fY t [(9,bif b0 then .map 2 else .u),(10,bif true then .d (qD b s sp) else .u)] (λp hp=>by simp only[J0,O9,oI] at hp;rcases hp with rfl|rfl<;>rfl),rfl⟩
    ·exact sF hE2 hp hP
   ·
    cases h2
    obtain rfl:b3=false:=h1
    obtain rfl:b0=true:=h3 ⟨0,.data⟩ (by simp) rfl
    obtain rfl:b2=true:=h3 ⟨2,.data⟩ (by simp) rfl
    refine lL (nf:=2) (I6 T5 mixed) rfl hs (k:=λts' h'=>(∀t,look (tsR b s sp x true b1 true true b4 b5 b6 b7 b8 b9 b10 b11) t=look ts' t)/\h'=hpR b s sp x true (1::p)) ?_ (λa2 w2 hP=> ?_)
    ·unfold tsR hpR
     (conv=>whnf)
     repeat' ((conv=>whnf);first|refine sT ?_|refine sP ?_ ?_<;>intro _|refine cA hD1 ?_|refine cA hD0 ?_|refine Chk.mk rfl ?_|fail)
     all_goals(conv=>whnf)
     all_goals first|exact⟨λt=>rfl,rfl⟩
    ·exact sF hE2 (A9d hp) hP
   ·
    cases h2
    obtain rfl:b4=false:=h1
    refine lL (nf:=2) (I6 T5 mixed) rfl hs (k:=λts' h'=>(∀t,look (tsR b s sp x b0 b1 b2 b3 true b5 b6 b7 b8 b9 b10 b11) t=look ts' t)/\h'=hpR b s sp x b0 p) ?_ (λa2 w2 hP=> ?_)
    ·unfold tsR hpR
     (conv=>whnf)
     repeat' ((conv=>whnf);first|refine sT ?_|refine sP ?_ ?_<;>intro _|refine cA hD1 ?_|refine cA hD0 ?_|refine Chk.mk rfl ?_|fail)
     all_goals(conv=>whnf)
     all_goals first|exact⟨λt=>fY t [(9,bif b0 then .map 2 else .u),(10,bif b1 then .d (qD b s sp) else .u),(11,bif b2 then .d (rT b s sp 1) else .u)] (λp hp=>by simp only[J0,O9,oI] at hp;rcases hp with rfl|rfl|rfl<;>rfl),rfl⟩
    ·exact sF hE2 hp hP
   ·
    cases h2
    obtain rfl:b5=false:=h1
    obtain rfl:b4=true:=h3 ⟨4,.data⟩ (by simp) rfl
    refine lL (nf:=2) (I6 T5 mixed) rfl hs (k:=λts' h'=>(∀t,look (tsR b s sp x b0 b1 b2 b3 true true b6 b7 b8 b9 b10 b11) t=look ts' t)/\h'=hpR b s sp x b0 p) ?_ (λa2 w2 hP=> ?_)
    ·unfold tsR hpR
     (conv=>whnf)
     repeat' ((conv=>whnf);first|refine sT ?_|refine sP ?_ ?_<;>intro _|refine cA hD1 ?_|refine cA hD0 ?_|refine Chk.mk rfl ?_|fail)
     all_goals(conv=>whnf)
     all_goals first|exact⟨λt=>fY t [(9,bif b0 then .map 2 else .u),(10,bif b1 then .d (qD b s sp) else .u),(11,bif b2 then .d (rT b s sp 1) else .u),(12,bif true then .d (qD b s sp) else .u)] (λp hp=>by simp only[J0,O9,oI] at hp;rcases hp with rfl|rfl|rfl|rfl<;>rfl),rfl⟩
    ·exact sF hE2 hp hP
   ·
    cases h2
    obtain rfl:b6=false:=h1
    obtain rfl:b0=true:=h3 ⟨0,.data⟩ (by simp) rfl
    obtain rfl:b5=true:=h3 ⟨5,.data⟩ (by simp) rfl
    refine lL (nf:=2) (I6 T5 mixed) rfl hs (k:=λts' h'=>(∀t,look (tsR b s sp x true b1 b2 b3 b4 true true b7 b8 b9 b10 b11) t=look ts' t)/\h'=hpR b s sp x true (2::p)) ?_ (λa2 w2 hP=> ?_)
    ·unfold tsR hpR
     (conv=>whnf)
     repeat' ((conv=>whnf);first|refine sT ?_|refine sP ?_ ?_<;>intro _|refine cA hD1 ?_|refine cA hD0 ?_|refine Chk.mk rfl ?_|fail)
     all_goals(conv=>whnf)
     all_goals first|exact⟨λt=>rfl,rfl⟩
    ·exact sF hE2 (A9c hp) hP
   ·
    cases h2
    obtain rfl:b7=false:=h1
    refine lL (nf:=2) (I6 T5 mixed) rfl hs (k:=λts' h'=>(∀t,look (tsR b s sp x b0 b1 b2 b3 b4 b5 b6 true b8 b9 b10 b11) t=look ts' t)/\h'=hpR b s sp x b0 p) ?_ (λa2 w2 hP=> ?_)
    ·unfold tsR hpR
     (conv=>whnf)
     repeat' ((conv=>whnf);first|refine sT ?_|refine sP ?_ ?_<;>intro _|refine cA hD1 ?_|refine cA hD0 ?_|refine Chk.mk rfl ?_|fail)
     all_goals(conv=>whnf)
     all_goals first|exact⟨λt=>fY t [(9,bif b0 then .map 2 else .u),(10,bif b1 then .d (qD b s sp) else .u),(11,bif b2 then .d (rT b s sp 1) else .u),(12,bif b4 then .d (qD b s sp) else .u),(13,bif b5 then .d (rT b s sp 2) else .u)] (λp hp=>by simp only[J0,O9,oI] at hp;rcases hp with rfl|rfl|rfl|rfl|rfl<;>rfl),rfl⟩
    ·exact sF hE2 hp hP
   ·
    cases h2
    obtain rfl:b8=false:=h1
    obtain rfl:b7=true:=h3 ⟨7,.data⟩ (by simp) rfl
    refine lL (nf:=2) (I6 T5 mixed) rfl hs (k:=λts' h'=>(∀t,look (tsR b s sp x b0 b1 b2 b3 b4 b5 b6 true true b9 b10 b11) t=look ts' t)/\h'=hpR b s sp x b0 p) ?_ (λa2 w2 hP=> ?_)
    ·unfold tsR hpR
     (conv=>whnf)
     repeat' ((conv=>whnf);first|refine sT ?_|refine sP ?_ ?_<;>intro _|refine cA hD1 ?_|refine cA hD0 ?_|refine Chk.mk rfl ?_|fail)
     all_goals(conv=>whnf)
     all_goals first|exact⟨λt=>fY t [(9,bif b0 then .map 2 else .u),(10,bif b1 then .d (qD b s sp) else .u),(11,bif b2 then .d (rT b s sp 1) else .u),(12,bif b4 then .d (qD b s sp) else .u),(13,bif b5 then .d (rT b s sp 2) else .u),(14,bif true then .d (qD b s sp) else .u)] (λp hp=>by simp only[J0,O9,oI] at hp;rcases hp with rfl|rfl|rfl|rfl|rfl|rfl<;>rfl),rfl⟩
    ·exact sF hE2 hp hP
   ·
    cases h2
    obtain rfl:b9=false:=h1
    obtain rfl:b0=true:=h3 ⟨0,.data⟩ (by simp) rfl
    obtain rfl:b8=true:=h3 ⟨8,.data⟩ (by simp) rfl
    refine lL (nf:=2) (I6 T5 mixed) rfl hs (k:=λts' h'=>(∀t,look (tsR b s sp x true b1 b2 b3 b4 b5 b6 b7 true true b10 b11) t=look ts' t)/\h'=hpR b s sp x true (3::p)) ?_ (λa2 w2 hP=> ?_)
    ·unfold tsR hpR
     (conv=>whnf)
     repeat' ((conv=>whnf);first|refine sT ?_|refine sP ?_ ?_<;>intro _|refine cA hD1 ?_|refine cA hD0 ?_|refine Chk.mk rfl ?_|fail)
     all_goals(conv=>whnf)
     all_goals first|exact⟨λt=>rfl,rfl⟩
    ·exact sF hE2 (A9b hp) hP
   ·
    cases h2
    obtain rfl:b10=false:=h1
    obtain rfl:b0=true:=h3 ⟨0,.data⟩ (by simp) rfl
    refine lL (nf:=2) (I6 T5 mixed) rfl hs (k:=λts' h'=>(∀t,look (tsR b s sp x true b1 b2 b3 b4 b5 b6 b7 b8 b9 true b11) t=look ts' t)/\h'=hpR b s sp x true p) ?_ (λa2 w2 hP=> ?_)
    ·unfold tsR hpR
     (conv=>whnf)
     repeat' ((conv=>whnf);first|refine sT ?_|refine sP ?_ ?_<;>intro _|refine cA hD1 ?_|refine cA hD0 ?_|refine Chk.mk rfl ?_|fail)
     all_goals(conv=>whnf)
     all_goals first|exact⟨λt=>fY t [(9,bif true then .map 2 else .u),(10,bif b1 then .d (qD b s sp) else .u),(11,bif b2 then .d (rT b s sp 1) else .u),(12,bif b4 then .d (qD b s sp) else .u),(13,bif b5 then .d (rT b s sp 2) else .u),(14,bif b7 then .d (qD b s sp) else .u),(15,bif b8 then .d (rT b s sp 3) else .u)] (λp hp=>by simp only[J0,O9,oI] at hp;rcases hp with rfl|rfl|rfl|rfl|rfl|rfl|rfl<;>rfl),rfl⟩
    ·exact sF hE2 hp hP
   ·
    cases h2
    obtain rfl:b11=false:=h1
    obtain rfl:b10=true:=h3 ⟨10,.data⟩ (by simp) rfl
    refine lL (nf:=2) (I6 T5 mixed) rfl hs (k:=λts' h'=>(∀t,look (tsR b s sp x b0 b1 b2 b3 b4 b5 b6 b7 b8 b9 true true) t=look ts' t)/\h'=hpR b s sp x b0 p) ?_ (λa2 w2 hP=> ?_)
    ·unfold tsR hpR
     (conv=>whnf)
     repeat' ((conv=>whnf);first|refine sT ?_|refine sP ?_ ?_<;>intro _|refine cA hD1 ?_|refine cA hD0 ?_|refine Chk.mk rfl ?_|fail)
     all_goals(conv=>whnf)
     all_goals first|exact⟨λt=>fY t [(9,bif b0 then .map 2 else .u),(10,bif b1 then .d (qD b s sp) else .u),(11,bif b2 then .d (rT b s sp 1) else .u),(12,bif b4 then .d (qD b s sp) else .u),(13,bif b5 then .d (rT b s sp 2) else .u),(14,bif b7 then .d (qD b s sp) else .u),(15,bif b8 then .d (rT b s sp 3) else .u),(16,bif true then .map 2 else .u)] (λp hp=>by simp only[J0,O9,oI] at hp;rcases hp with rfl|rfl|rfl|rfl|rfl|rfl|rfl|rfl<;>rfl),rfl⟩
    ·exact sF hE2 hp hP
  ·rintro listed a' w' hsz ⟨b0,b1,b2,b3,b4,b5,b6,b7,b8,b9,b10,b11,p,S',β',rfl,hp,hs,hE2⟩ hr
   obtain rfl:b0=true:=by
    cases b0 with
    |true=>rfl
    |false=>
     exfalso
     have hm:0∈([]:List Nat):=by rw[<-hr];exact mem_ready.2 ⟨rfl,_,rfl,λe he _=>sR rfl e he⟩
     cases hm
   obtain rfl:b1=true:=by
    cases b1 with
    |true=>rfl
    |false=>
     exfalso
     have hm:1∈([]:List Nat):=by rw[<-hr];exact mem_ready.2 ⟨rfl,_,rfl,λe he _=>sR rfl e he⟩
     cases hm
   obtain rfl:b2=true:=by
    cases b2 with
    |true=>rfl
    |false=>
     exfalso
     have hm:2∈([]:List Nat):=by rw[<-hr];exact mem_ready.2 ⟨rfl,_,rfl,λe he _=>sR rfl e he⟩
     cases hm
   obtain rfl:b3=true:=by
    cases b3 with
    |true=>rfl
    |false=>
     exfalso
     have hm:3∈([]:List Nat):=by rw[<-hr];exact mem_ready.2 ⟨rfl,_,rfl,λe he _=>sR rfl e he⟩
     cases hm
   obtain rfl:b4=true:=by
    cases b4 with
    |true=>rfl
    |false=>
     exfalso
     have hm:4∈([]:List Nat):=by rw[<-hr];exact mem_ready.2 ⟨rfl,_,rfl,λe he _=>sR rfl e he⟩
     cases hm
   obtain rfl:b5=true:=by
    cases b5 with
    |true=>rfl
    |false=>
     exfalso
     have hm:5∈([]:List Nat):=by rw[<-hr];exact mem_ready.2 ⟨rfl,_,rfl,λe he _=>sR rfl e he⟩
     cases hm
   obtain rfl:b6=true:=by
    cases b6 with
    |true=>rfl
    |false=>
     exfalso
     have hm:6∈([]:List Nat):=by rw[<-hr];exact mem_ready.2 ⟨rfl,_,rfl,λe he _=>sR rfl e he⟩
     cases hm
   obtain rfl:b7=true:=by
    cases b7 with
    |true=>rfl
    |false=>
     exfalso
     have hm:7∈([]:List Nat):=by rw[<-hr];exact mem_ready.2 ⟨rfl,_,rfl,λe he _=>sR rfl e he⟩
     cases hm
   obtain rfl:b8=true:=by
    cases b8 with
    |true=>rfl
    |false=>
     exfalso
     have hm:8∈([]:List Nat):=by rw[<-hr];exact mem_ready.2 ⟨rfl,_,rfl,λe he _=>sR rfl e he⟩
     cases hm
   obtain rfl:b9=true:=by
    cases b9 with
    |true=>rfl
    |false=>
     exfalso
     have hm:9∈([]:List Nat):=by rw[<-hr];exact mem_ready.2 ⟨rfl,_,rfl,λe he _=>sR rfl e he⟩
     cases hm
   obtain rfl:b10=true:=by
    cases b10 with
    |true=>rfl
    |false=>
     exfalso
     have hm:10∈([]:List Nat):=by rw[<-hr];exact mem_ready.2 ⟨rfl,_,rfl,λe he _=>sR rfl e he⟩
     cases hm
   obtain rfl:b11=true:=by
    cases b11 with
    |true=>rfl
    |false=>
     exfalso
     have hm:11∈([]:List Nat):=by rw[<-hr];exact mem_ready.2 ⟨rfl,_,rfl,λe he _=>sR rfl e he⟩
     cases hm
   exact⟨.normal,rfl,_,_,S',β',⟨p,hp,rfl,rfl⟩,hs,hE2⟩
  ·refine⟨hs1.hr,λt=> ?_,hs1.size,hs1.marks,hs1.round,hs1.base⟩
   rcases A9r (B:=ts0R b s sp x) t [(9,.u),(10,.u),(11,.u),(12,.u),(13,.u),(14,.u),(15,.u),(16,.u),(6,.u)] (λp hp=>by simp only[J0,O9,oI] at hp;rcases hp with rfl|rfl|rfl|rfl|rfl|rfl|rfl|rfl|rfl<;>rfl) with e|e
   ·exact e.symm▸VR.u _
   ·exact e.symm▸hs1.tr t
 ·rintro _ _ ⟨p,hp,rfl,rfl⟩
  have hp:=B3u hp
  obtain⟨xc,xk,xv,xp⟩:=x
  dsimp only at k3 h1 h2 h3
  unfold tsR ts0R hpR Br.d
  dsimp only
  unfold Br.d at h1 h2 h3
  dsimp only at h1 h2 h3
  rcases k3 with rfl|rfl|rfl
  ·have h1:=h1 rfl
   rcases hp with rfl|rfl|rfl|rfl|rfl|rfl
   all_goals
    refine wO ?_
    repeat' ((conv=>whnf);first|refine sT ?_|refine sP ?_ ?_<;>intro _|refine cA h1 ?_|refine Nam.mk (y:=rT b s sp 1) rfl ?_|refine Nam.mk (y:=true) rfl ?_|fail)
    all_goals exact fI
  ·have h2:=h2 rfl
   rcases hp with rfl|rfl|rfl|rfl|rfl|rfl
   all_goals
    refine wO ?_
    repeat' ((conv=>whnf);first|refine sT ?_|refine sP ?_ ?_<;>intro _|refine cA h2 ?_|refine Nam.mk (y:=rT b s sp 2) rfl ?_|refine Nam.mk (y:=true) rfl ?_|fail)
    all_goals exact fI
  ·have h3:=h3 rfl
   rcases hp with rfl|rfl|rfl|rfl|rfl|rfl
   all_goals
    refine wO ?_
    repeat' ((conv=>whnf);first|refine sT ?_|refine sP ?_ ?_<;>intro _|refine cA h3 ?_|refine Nam.mk (y:=rT b s sp 3) rfl ?_|refine Nam.mk (y:=true) rfl ?_|fail)
    all_goals exact fI
theorem A3j {b:D7} (F:fO b) {s:Int} (hs:s∈Z8 b) {sp:S8} (hsp:sp.ok b) {l:Lf} (hl:l∈L7 b):C9 Tryz.prog 79 [.d (qD b s sp),.d (l.b b s sp).d] (E5 [.b true,I 0]):=by
 obtain⟨hb,hM,hml,hd,hm⟩:=bZ F.e
 have hbeg:=iW hm _ _ (by simp) (Y0 _) l hl
 cases l with
 |brk c v p=>
  refine xP b s sp _ (.inl rfl) (λ_=> ?_) (λe=>absurd (show(1:Int)=2 from e) (by decide)) (λe=>absurd (show(1:Int)=3 from e) (by decide))
  rcases A2m _ _ (by simp) c v p hl with⟨v',p',h1,h2,h3⟩|⟨h1,h2,h3,h4⟩
  ·exact TE F s sp hbeg h1 h2 h3
  ·exact TD F s sp hbeg h3 h4 h1 h2
 |con c=>
  have hcs:Y2 b c:=nM b _ _ _ hl
  have hwl:=NI _ _ (by simp) c hl
  have hC:=tL F s sp ((Lf.con c).b b s sp) hwl hbeg
  rw[C2 (show Y2 b ((Lf.con c).b b s sp).c from hcs)] at hC
  have hH:=B2o F hs hsp hwl hbeg hcs
  have hk:((Lf.con c).b b s sp).k=if nR b s sp c then 2 else 3:=rfl
  have hD:=A6y b s sp ((Lf.con c).b b s sp) (nR b s sp c) rfl rfl hC hH
  cases hh:nR b s sp c with
  |true=>
   rw[hh] at hD hk
   exact xP b s sp _ (.inr (.inl hk)) (λe=>absurd (hk.symm.trans e) (by decide)) (λ_=>hD) (λe=>absurd (hk.symm.trans e) (by decide))
  |false=>
   rw[hh] at hD hk
   exact xP b s sp _ (.inr (.inr hk)) (λe=>absurd (hk.symm.trans e) (by decide)) (λe=>absurd (hk.symm.trans e) (by decide)) (λ_=>hD)
theorem PQ {b:D7} {s:Int} {sp:S8} (l:List Br) (hl:l.length<=4096) (hr:∀x∈l,C9 Tryz.prog 79 [.d (qD b s sp),.d x.d] (E5 [.b true,I 0])):C9 Tryz.prog 40 [.d (qD b s sp),.d (SL 4 (l.map Br.d))] (E5 [.b true,I 0]):=by
 have m1:(l.map Br.d).length=l.length:=A6 _
 refine pU Tryz.func40 ?_
 repeat' ((conv=>whnf);first|refine Nam.mk m1 ?_|refine sT ?_|refine sP ?_ ?_<;>intro _|fail)
 all_goals(conv=>whnf)
 refine lO (X:=Nat) (λi=>[(12,.d (I i)),(4,.d (.b true))]) (λ_=>[]) (λi=>i<=l.length) (λi=>l.length-i) 0 sam rfl (B9 _) ?_
 intro i hi
 by_cases hlt:i<l.length
 ·obtain⟨x,hx⟩:∃x,l[i]? =some x:=⟨_,A3 hlt⟩
  have hR:=hr x (A7 hx)
  have hxd:(l.map Br.d)[((i:Nat):Int).toNat]? =some (.agg [SL 1 (x.c.map I),I x.k,I x.v,I x.p]):=D4 hx
  repeat' ((conv=>whnf);first|refine Nam.mk m1 ?_|refine sT ?_|refine sP ?_ ?_<;>intro _|refine A9 hxd ?_|refine cA hR ?_|fail)
  all_goals(conv=>whnf)
  all_goals first|(exfalso;omega)|exact⟨i+1,wE,hlt,by omega⟩
 ·repeat' ((conv=>whnf);first|refine Nam.mk m1 ?_|refine sT ?_|refine sP ?_ ?_<;>intro _|fail)
  all_goals exact fI
def AG (l:List Br) (k:Int):Bool:=l.any λx=>decide (x.k=k)
def YH (k:Int) (a c:D) (l:List Br):List D:=[I k,a,c,SL 4 (l.map Br.d)]
theorem ME (k:Int) (a c:D) (l:List Br) (hl:l.length<=4096) (n:Int):
 M4 Tryz.prog 80 [.d (I n),.ptr 0 0 0 0] [.vard (YH k a c l)] λv h'=>okV 1 v=true/\h'.length=1/\h'.all (okB 1)=true/\(v=E5 [.b (AG l n)]/\h'=[.vard (YH k a c l)]):=by
 have m1:(l.map Br.d).length=l.length:=A6 _
 unfold YH
 refine lI Tryz.func80 ?_ ?_
 ·rfl
 repeat' ((conv=>whnf);first|refine sT ?_|refine sP ?_ ?_<;>intro _|refine bO Tryz.func74 ?_|refine bO Tryz.func123 ?_|fail)
 all_goals(conv=>whnf)
 refine lO (X:=Nat) (λi=>[(8,.d (I i))]) (λ_=>[]) (λi=>i<=l.length/\∀y∈l.take i,y.k≠n) (λi=>l.length-i) 0 sam rfl ⟨B9 _,λy hy=>by simp at hy⟩ ?_
 rintro i ⟨hi,hn⟩
 by_cases hlt:i<l.length
 ·obtain⟨x,hx⟩:∃x,l[i]? =some x:=⟨_,A3 hlt⟩
  by_cases hxk:x.k=n
  ·have hA:AG l n=true:=by
    unfold AG
    rw[aC]
    exact⟨x,A7 hx,C2 hxk⟩
   rw[hA]
   unfold Br.d
   repeat' ((conv=>whnf);first|refine Nam.mk m1 ?_|refine sT ?_|refine sP ?_ ?_<;>intro _|refine A9 (D4 hx) ?_|refine bO Tryz.func81 ?_|fail)
   all_goals exact fI
  ·unfold Br.d
   repeat' ((conv=>whnf);first|refine Nam.mk m1 ?_|refine sT ?_|refine sP ?_ ?_<;>intro _|refine A9 (D4 hx) ?_|refine bO Tryz.func81 ?_|fail)
   all_goals(conv=>whnf)
   all_goals first|(exfalso;omega)|exact⟨i+1,wE,⟨hlt,V9 hx hxk hn⟩,by omega⟩
 ·rw[C7 (by omega)] at hn
  have hA:AG l n=false:=by
   unfold AG
   rw[AK]
   exact λx hx=>by simp[hn x hx]
  rw[hA]
  repeat' ((conv=>whnf);first|refine Nam.mk m1 ?_|refine sT ?_|refine sP ?_ ?_<;>intro _|fail)
  all_goals exact fI
theorem at1 {h:Hp} {a:Nat} {b:Blk} (hx:h[a]? =some b):∀(i m:Nat),[a][i]? =some m->h[m]? =[b][i]?
 |0,m,e=>by simp at e;subst e;exact hx
 |i+1,m,e=>by simp at e
theorem A6x (k:Int) (a c:D) (l:List Br) (hl:l.length<=4096) (hk:k=if(AG l 2&&AG l 3)=true then 2 else if AG l 2=true then 1 else 3) (hs:AG l 2=true∨AG l 3=true):C9 Tryz.prog 42 [.d (.agg (YH k a c l))] (E5 [.b true]):=by
 have h2:=eW (by rfl) (by rfl) (ME k a c l hl 2) [0] (by decide) rfl
 have h3:=eW (by rfl) (by rfl) (ME k a c l hl 3) [0] (by decide) rfl
 generalize AG l 2=q2 at h2 hk hs
 generalize AG l 3=q3 at h3 hk hs
 refine pU Tryz.func42 ?_
 cases q2<;>cases q3
 ·exact absurd hs (by decide)
 ·obtain rfl:k=3:=hk
  repeat' ((conv=>whnf);first|refine sT ?_|refine sP ?_ ?_<;>intro _|refine E6.keepN h2 rfl (at1 rfl) ?_|refine E6.keepN h3 rfl (at1 rfl) ?_|fail)
  all_goals exact fI
 ·obtain rfl:k=1:=hk
  repeat' ((conv=>whnf);first|refine sT ?_|refine sP ?_ ?_<;>intro _|refine E6.keepN h2 rfl (at1 rfl) ?_|refine E6.keepN h3 rfl (at1 rfl) ?_|fail)
  all_goals exact fI
 ·obtain rfl:k=2:=hk
  repeat' ((conv=>whnf);first|refine sT ?_|refine sP ?_ ?_<;>intro _|refine E6.keepN h2 rfl (at1 rfl) ?_|refine E6.keepN h3 rfl (at1 rfl) ?_|fail)
  all_goals exact fI
theorem AW (a b:List (Int)) (hl:a.length<2^40):C9 Tryz.prog 82 [.d (SL 1 (a.map I)),.d (SL 1 (b.map I))] (E5 [.b (decide (a=b))]):=by
 refine pU Tryz.func82 ?_
 by_cases he:a.length=b.length
 ·repeat' ((conv=>whnf);first|refine sT ?_|refine sP ?_ ?_<;>intro _)
  conv=>whnf
  refine lO (X:=Nat) (λi=>[(13,.d (I i))]) (λ_=>[]) (λi=>i<=a.length/\a.take i=b.take i) (λi=>a.length-i) 0 sam rfl ⟨B9 _,rfl⟩ ?_
  rintro i ⟨hi,hm⟩
  by_cases hlt:i<a.length
  ·obtain⟨x,hx,_⟩:=dI hlt
   obtain⟨y,hy,_⟩:=dI (l:=b) (i:=i) (by omega)
   repeat' ((conv=>whnf);first|refine sT ?_|refine sP ?_ ?_<;>intro _|refine A9 (D4 hx) ?_|refine A9 (D4 hy) ?_|fail)
   all_goals(conv=>whnf)
   all_goals try simp only[F3,K3] at*
   all_goals first
    |(have e:x=y:=by first|assumption|(simp_all;done)
      subst e
      refine⟨i+1,wE,⟨hlt,?_⟩,by omega⟩
      rw[D1,D1,hm,hx,hy])
    |(have e:¬x=y:=by first|assumption|(simp_all;done)
      rw[B6 (λh=>e (by subst h;rw[hx] at hy;exact T7 hy))];exact DLe.refl _)
  ·have:i=a.length:=by omega
   subst this
   rw[I5,he,I5] at hm
   repeat' ((conv=>whnf);first|refine sT ?_|refine sP ?_ ?_<;>intro _)
   all_goals(conv=>whnf)
   rw[C2 hm];exact DLe.refl _
 ·repeat' ((conv=>whnf);first|refine sT ?_|refine sP ?_ ?_<;>intro _)
  all_goals(conv=>whnf)
  rw[B6 (λh=>he (by rw[h]))];exact DLe.refl _
theorem PN (l:List Br) (k:Int) (hl:l.length<=4096) (hn:∀x∈l,x.k≠k):C9 Tryz.prog 44 [.d (SL 4 (l.map Br.d)),.d (I k),.d HV] (E5 [.b true]):=by
 have m1:(l.map Br.d).length=l.length:=A6 _
 refine pU Tryz.func44 ?_
 repeat' ((conv=>whnf);first|refine Nam.mk m1 ?_|refine sT ?_|refine sP ?_ ?_<;>intro _|fail)
 all_goals(conv=>whnf)
 refine lO (X:=Nat) (λi=>[(12,.d (I i))]) (λ_=>[]) (λi=>i<=l.length) (λi=>l.length-i) 0 sam rfl (B9 _) ?_
 intro i hi
 by_cases hlt:i<l.length
 ·obtain⟨x,hx⟩:∃x,l[i]? =some x:=⟨_,A3 hlt⟩
  have hxk:=hn x (A7 hx)
  unfold Br.d
  repeat' ((conv=>whnf);first|refine Nam.mk m1 ?_|refine sT ?_|refine sP ?_ ?_<;>intro _|refine A9 (D4 hx) ?_|fail)
  all_goals(conv=>whnf)
  all_goals first|(exfalso;omega)|exact⟨i+1,wE,hlt,by omega⟩
 ·repeat' ((conv=>whnf);first|refine Nam.mk m1 ?_|refine Nam.mk (y:=0) rfl ?_|refine sT ?_|refine sP ?_ ?_<;>intro _|fail)
  all_goals exact fI
theorem PK (l:List Br) (k:Int) (hl:l.length<=4096) {n:Nat} {y:Br} (hy:l[n]? =some y) (hyk:y.k=k) (hyc:y.c.length<=8) (hn:∀x∈l.take n,x.k≠k):C9 Tryz.prog 44 [.d (SL 4 (l.map Br.d)),.d (I k),.d (SL 1 (y.c.map I))] (E5 [.b true]):=by
 have m1:(l.map Br.d).length=l.length:=A6 _
 have hE:=AW y.c y.c (by omega)
 rw[C2 rfl] at hE
 have hnl:=(A4.1 hy).1
 refine pU Tryz.func44 ?_
 repeat' ((conv=>whnf);first|refine Nam.mk m1 ?_|refine sT ?_|refine sP ?_ ?_<;>intro _|fail)
 all_goals(conv=>whnf)
 refine lO (X:=Nat) (λi=>[(12,.d (I i))]) (λ_=>[]) (λi=>i<=n) (λi=>n-i) 0 sam rfl (B9 _) ?_
 intro i hi
 by_cases hlt:i<n
 ·obtain⟨x,hx⟩:∃x,l[i]? =some x:=⟨_,A3 (by omega)⟩
  have hxk:=hn x (A7 (i:=i) (by rw[I8 hlt];exact hx))
  unfold Br.d
  repeat' ((conv=>whnf);first|refine Nam.mk m1 ?_|refine sT ?_|refine sP ?_ ?_<;>intro _|refine A9 (D4 hx) ?_|fail)
  all_goals(conv=>whnf)
  all_goals first|(exfalso;omega)|exact⟨i+1,wE,hlt,by omega⟩
 ·obtain rfl:i=n:=by omega
  unfold Br.d
  repeat' ((conv=>whnf);first|refine Nam.mk m1 ?_|refine sT ?_|refine sP ?_ ?_<;>intro _|refine A9 (D4 hy) ?_|refine cA hE ?_|fail)
  all_goals exact fI
inductive PC (m:List Int):Nat->List Br->Prop where
 |leaf (d:Nat) (x:Br):x.c.length=d->PC m d [x]
 |split (d:Nat) (l:List Br) (y:Int):m[d]? =some y->1<=y->y<=17->l≠[]->l.length<=4096->d<100->(∀x∈l,x.c.length<=8/\d<x.c.length/\∃n:Nat,x.c[d]? =some (n:Int)/\(n:Int)<y)->(∀j:Nat,(j:Int)<y->PC m (d+1) (l.filter λx=>decide (x.c[d]? =some (j:Int))))->PC m d l
def B4j (m:List Int):Hp:=[.vard [SL 1 (m.map I)],.var [.fn 77 [.ptr 0 0 0 0,.ptr 1 0 0 0]]]
def XU (m:List Int) (d:Nat) (l:List Br):Prop:=M4 Tryz.prog 77 [.d (SL 4 (l.map Br.d)),.d (I d),.ptr 0 0 0 0,.ptr 1 0 0 0] (B4j m) λv h'=>okV 2 v=true/\h'.length=2/\h'.all (okB 2)=true/\(v=E5 [.b true]/\h'=B4j m)
theorem B0v (m:List Int) (d:Nat) (x:Br) (hx:x.c.length=d) (hd:d<1000):XU m d [x]:=by
 have m1:(x.c.map I).length=x.c.length:=A6 _
 unfold XU B4j
 refine lI Tryz.func77 ?_ ?_
 ·rfl
 unfold Br.d
 repeat' ((conv=>whnf);first|refine Dec.t (G4 (Eq.refl true)) ?_|refine Dec.f (X5 (Eq.refl false)) ?_|refine Nam.mk (y:=1) rfl ?_|refine sT ?_|refine sP ?_ ?_<;>intro _|refine bO Tryz.func74 ?_|refine bO Tryz.func123 ?_|fail)
 all_goals((conv=>whnf);try exact xO)
 refine lO (X:=Nat) (λ_=>[(8,.d (I 0))]) (λ_=>[]) (λ_=>True) (λ_=>0) 0 sam rfl trivial ?_
 rintro i -
 repeat' ((conv=>whnf);first|refine Dec.t (G4 (Eq.refl true)) ?_|refine Dec.f (X5 (Eq.refl false)) ?_|refine Nam.mk m1 ?_|refine Nam.mk (y:=1) rfl ?_|refine sT ?_|refine sP ?_ ?_<;>intro _|refine bO Tryz.func78 ?_|fail)
 all_goals exact fI
structure XDv where
 i:Nat
 v:Nat->Nat
 w:Nat->List D
theorem NY {l:List Br} {i:Nat} {x:Br} (hx:l[i]? =some x) (p:Br->Bool):(l.take (i+1)).filter p=(l.take i).filter p++(if p x then [x] else []):=by
 rw[D1,hx,P2,L6]
 cases h:p x<;>simp[List.filter,h]
def partOf (l:List Br) (d i j:Nat):List Br:=(l.take i).filter λx=>decide (x.c[d]? =some (j:Int))
theorem A8q (l:List Br) (d i j:Nat):(partOf l d i j).length<=i:=by
 unfold partOf
 exact F5 (L0 _ _) (by rw[D0];omega)
theorem A8r {l:List Br} {d i j:Nat} {x:Br} (hx:l[i]? =some x) (hj:x.c[d]? =some (j:Int)):partOf l d (i+1) j=partOf l d i j++[x]:=by
 unfold partOf
 rw[NY hx,if_pos (C2 hj)]
theorem A4l {l:List Br} {d i j n:Nat} {x:Br} (hx:l[i]? =some x) (hn:x.c[d]? =some (n:Int)) (hj:n≠j):partOf l d (i+1) j=partOf l d i j:=by
 unfold partOf
 rw[NY hx,if_neg (by rw[hn];simp;omega),I3]
theorem A8s (l:List Br) (d j:Nat):partOf l d l.length j=l.filter λx=>decide (x.c[d]? =some (j:Int)):=by
 unfold partOf;rw[I5]
def dvC (v:Nat->Nat):Nat->List V
 |0=>[]
 |k+1=>dvC v k++[.sref (4+k) (v k) 0 (v k) false]
def dvR (v:Nat->Nat) (w:Nat->List D):Nat->List (Nat×Blk)
 |0=>[]
 |k+1=>dvR v w k++[(4+k,.row (v k) 4 false (w k))]
def tE (y:Int) (Y:Nat):Prop:=∀(y0:Nat) (hq:y0=Y) (m:List Int) (d:Nat) (l:List Br) (hm:m[d]? =some y) (hne:l≠[]) (hl:l.length<=4096) (hd:d<100) (hx0:∀x∈l,x.c.length<=8/\d<x.c.length/\∃n:Nat,x.c[d]? =some (n:Int)/\(n:Int)<y) (ih:∀j:Nat,(j:Int)<y->XU m (d+1) (l.filter λx=>decide (x.c[d]? =some (j:Int)))),XU m d l
theorem dvS {p:Prop} (h:p:=by
 unfold tE
 intro y0 hq m d l hm hne hl hd hx0 ih
 have m1:(l.map Br.d).length=l.length:=A6 _
 have hpos:0<l.length:=lE.2 hne
 have hmg:=D4 (f:=I) hm
 unfold XU B4j
 refine lI Tryz.func77 ?_ ?_
 ·rfl
 repeat' ((conv=>whnf);first|refine Nam.mk m1 ?_|refine sT ?_|refine sP ?_ ?_<;>intro _|refine bO Tryz.func74 ?_|refine bO Tryz.func123 ?_|fail)
 all_goals((conv=>whnf);try exact xO)
 refine lO (X:=Nat) (λi=>[(8,.d (I i))]) (λ_=>[]) (λi=>i<=l.length) (λi=>l.length-i) 0 sam rfl (B9 _) ?_
 intro i hi
 by_cases hlt:i<l.length
 ·obtain⟨x,hx⟩:∃x,l[i]? =some x:=⟨_,A3 hlt⟩
  obtain⟨h8,hdx,_⟩:=hx0 x (A7 hx)
  have m2:(x.c.map I).length=x.c.length:=A6 _
  have hxd:(l.map Br.d)[((i:Nat):Int).toNat]? =some (.agg [SL 1 (x.c.map I),I x.k,I x.v,I x.p]):=D4 hx
  repeat' ((conv=>whnf);first|refine Nam.mk m1 ?_|refine Nam.mk m2 ?_|refine sT ?_|refine sP ?_ ?_<;>intro _|refine A9 hxd ?_|refine bO Tryz.func78 ?_|fail)
  all_goals(conv=>whnf)
  all_goals first|(exfalso;omega)|exact⟨i+1,wE,hlt,by omega⟩
 ·obtain rfl:i=l.length:=by omega
  repeat' ((conv=>whnf);first|refine Nam.mk m1 ?_|refine sT ?_|refine sP ?_ ?_<;>intro _|refine A9 hmg ?_|refine Alt.r ?_|fail)
  all_goals((conv=>whnf);try exact xO)
  refine L3.virtC 3 0 0 4 false (by decide) rfl rfl ?_
  conv=>whnf
  (try(refine L3.virtV 3 1 0 4 false (by decide) rfl rfl ?_;(conv=>whnf)))
  (try(refine L3.virtV 3 2 0 4 false (by decide) rfl rfl ?_;(conv=>whnf)))
  (try(refine L3.virtV 3 3 0 4 false (by decide) rfl rfl ?_;(conv=>whnf)))
  (try(refine L3.virtV 3 4 0 4 false (by decide) rfl rfl ?_;(conv=>whnf)))
  (try(refine L3.virtV 3 5 0 4 false (by decide) rfl rfl ?_;(conv=>whnf)))
  (try(refine L3.virtV 3 6 0 4 false (by decide) rfl rfl ?_;(conv=>whnf)))
  (try(refine L3.virtV 3 7 0 4 false (by decide) rfl rfl ?_;(conv=>whnf)))
  (try(refine L3.virtV 3 8 0 4 false (by decide) rfl rfl ?_;(conv=>whnf)))
  (try(refine L3.virtV 3 9 0 4 false (by decide) rfl rfl ?_;(conv=>whnf)))
  (try(refine L3.virtV 3 10 0 4 false (by decide) rfl rfl ?_;(conv=>whnf)))
  (try(refine L3.virtV 3 11 0 4 false (by decide) rfl rfl ?_;(conv=>whnf)))
  (try(refine L3.virtV 3 12 0 4 false (by decide) rfl rfl ?_;(conv=>whnf)))
  (try(refine L3.virtV 3 13 0 4 false (by decide) rfl rfl ?_;(conv=>whnf)))
  (try(refine L3.virtV 3 14 0 4 false (by decide) rfl rfl ?_;(conv=>whnf)))
  (try(refine L3.virtV 3 15 0 4 false (by decide) rfl rfl ?_;(conv=>whnf)))
  (try(refine L3.virtV 3 16 0 4 false (by decide) rfl rfl ?_;(conv=>whnf)))
  try simp only[J3,over,E9,H4,P4,H8,E8,L4,G5,I1,dvC,dvR,Nat.reduceAdd,lit]
  refine lO (X:=XDv) (λx=>[(33,.d (I x.i))]) (λx=>(3,.var (dvC x.v (lit hq)))::dvR x.v x.w (lit hq))
   (λx=>x.i<=l.length/\∀j:Nat,x.v j=(partOf l d x.i j).length/\x.w j=(partOf l d x.i j).map Br.d) (λx=>l.length-x.i) ⟨0,λ_=>0,λ_=>[]⟩ sam rfl ⟨B9 _,λj=>⟨rfl,rfl⟩⟩ ?_
  rintro⟨i,v,w⟩ ⟨hi,hG⟩
  dsimp only at hi hG
  try simp only[J3,over,E9,H4,P4,H8,E8,L4,G5,I1,dvC,dvR,Nat.reduceAdd,lit]
  by_cases hlt:i<l.length
  ·obtain⟨x,hx⟩:∃x,l[i]? =some x:=⟨_,A3 hlt⟩
   obtain⟨h8,hdx,n,hxn,hny⟩:=hx0 x (A7 hx)
   have m2:(x.c.map I).length=x.c.length:=A6 _
   have hxd:(l.map Br.d)[((i:Nat):Int).toNat]? =some (.agg [SL 1 (x.c.map I),I x.k,I x.v,I x.p]):=D4 hx
   have hcn:(x.c.map I)[((d:Nat):Int).toNat]? =some (I (n:Int)):=by rw[B0,A8,hxn];rfl
   have hcase:n=0∨n=1∨n=2∨n=3∨n=4∨n=5∨n=6∨n=7∨n=8∨n=9∨n=10∨n=11∨n=12∨n=13∨n=14∨n=15∨n=16:=by omega
   have hGl:∀k:Nat,0+v k=(w k).length/\v k+1<=room:=λk=>⟨by rw[(hG k).1,(hG k).2];simp,by have h1:=A8q l d i k;rw[<-(hG k).1] at h1;simp[room];omega⟩
   have hNew:∀j:Nat,(bif Nat.beq j n then v j+1 else v j)=(partOf l d (i+1) j).length/\(bif Nat.beq j n then w j++[x.d] else w j)=(partOf l d (i+1) j).map Br.d:=λj=>by
    by_cases hj:j=n
    ·subst hj
     rw[A8r hx hxn,kJ,(hG j).1,(hG j).2]
     simp
    ·rw[A4l hx hxn (λe=>hj e.symm),show Nat.beq j n=false from(by cases h:Nat.beq j n with|true=>exact absurd (B2 h) hj|false=>rfl),<-(hG j).1,<-(hG j).2]
     exact⟨rfl,rfl⟩
   rcases hcase with rfl|rfl|rfl|rfl|rfl|rfl|rfl|rfl|rfl|rfl|rfl|rfl|rfl|rfl|rfl|rfl|rfl
   all_goals first|(exfalso;omega)|skip
   all_goals repeat' ((conv=>whnf);first|refine Nam.mk m1 ?_|refine Nam.mk m2 ?_|refine sT ?_|refine sP ?_ ?_<;>intro _|refine A9 hxd ?_|refine A9 hcn ?_|refine Chk.mk ⟨rfl,(hGl _).1,(hGl _).2⟩ ?_|fail)
   all_goals((conv=>whnf);try exact xO)
   all_goals exact⟨⟨i+1,_,_⟩,wE,⟨hlt,hNew⟩,by dsimp only;omega⟩
  ·obtain rfl:i=l.length:=by omega
   have hP:∀j:Nat,v j=(l.filter λx=>decide (x.c[d]? =some (j:Int))).length/\w j=(l.filter λx=>decide (x.c[d]? =some (j:Int))).map Br.d:=λj=>by rw[<-A8s];exact hG j
   have hih:∀j:Nat,j<lit hq->_:=λj hj=>eW (by rfl) (by rfl) (ih j (by dsimp only[lit] at hj;omega)) [0,1] (by decide) rfl
   have hww:∀j:Nat,v j=(w j).length:=λj=>by rw[(hP j).1,(hP j).2,A6]
   repeat' ((conv=>whnf);first|refine sT ?_|refine sP ?_ ?_<;>intro _|fail)
   all_goals((conv=>whnf);try exact xO)
   have hTake:∀j:Nat,((w j).drop 0).take (v j)=(l.filter λx=>decide (x.c[d]? =some (j:Int))).map Br.d:=λj=>by rw[O4,hww j,I5,(hP j).2]
   have hLen:∀j:Nat,0+v j<=(w j).length:=λj=>by rw[C1];exact Nat.le_of_eq (hww j)
   refine L3.rounds (lit hq+1) ?_
   repeat' ((conv=>whnf);first|refine Dec.t (G4 (Eq.refl true)) ?_|refine Dec.f (X5 (Eq.refl false)) ?_|refine Wr.lit 1 rfl rfl ?_|refine Wr.lit 2 rfl rfl ?_|refine Wr.lit 3 rfl rfl ?_|refine Wr.lit 4 rfl rfl ?_|refine Wr.lit 5 rfl rfl ?_|refine Wr.lit 6 rfl rfl ?_|refine Wr.lit 7 rfl rfl ?_|refine Wr.lit 8 rfl rfl ?_|refine Wr.lit 9 rfl rfl ?_|refine Wr.lit 10 rfl rfl ?_|refine Wr.lit 11 rfl rfl ?_|refine Wr.lit 12 rfl rfl ?_|refine Wr.lit 13 rfl rfl ?_|refine Wr.lit 14 rfl rfl ?_|refine Wr.lit 15 rfl rfl ?_|refine Wr.lit 16 rfl rfl ?_|refine Wr.lit 17 rfl rfl ?_|refine Chk.mk ⟨rfl,hLen _⟩ ?_|refine Nam.mk (hTake _) ?_|refine sT ?_|refine sP ?_ ?_<;>intro _|refine E6.keepN (hih _ (B5 rfl)) rfl (PS rfl rfl) ?_|refine nS ?_|refine E6.lift ?_|fail)
   all_goals(conv=>whnf)
   all_goals first|exact⟨DLe.refl _,rfl⟩):p:=h
theorem div1:tE 1 1:=dvS
theorem div2:tE 2 2:=dvS
theorem div3:tE 3 3:=dvS
theorem div4:tE 4 4:=dvS
theorem div5:tE 5 5:=dvS
theorem div6:tE 6 6:=dvS
theorem div7:tE 7 7:=dvS
theorem div8:tE 8 8:=dvS
theorem div9:tE 9 9:=dvS
end Go.PM

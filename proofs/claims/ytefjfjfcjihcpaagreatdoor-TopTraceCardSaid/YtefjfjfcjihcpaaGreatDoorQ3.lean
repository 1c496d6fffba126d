/- TopTrace: part 3 of the proof: for every input the law returns true, and its arguments read behind the call as they read before; where the library's table is as its own text lays it. -/
import Derived.Test.YtefjfjfcjihcpaaGreatDoorQ2
import Derived.MapKept
import Derived.Laws.NewFold
import Derived.Laws.CopyRow
set_option maxRecDepth 10000
set_option maxHeartbeats 400000000
set_option linter.unusedSectionVars false
namespace Go.PM
variable [CN]
variable {P:Program} {T:TT}
def bnd (x:Option Value) (v:Option Int):Prop:=
 match x,v with
 |none,none=>True
 |some y,some n=>∃k,y=.int k n
 |_,_=>False
theorem run_sliceBound {k:IntKind} {n:Int} {y:Nat} {c:BoundsCode} {w:World} (h0:0<=n) (h1:n<=y):(Instr.sliceBound (.int k n) y c).run P w=.ok n.toNat w:=by
 simp[Instr.sliceBound,kT,h0,h1]
theorem dH {isSlice:Bool} {len cap:Nat} {low high max:Option Value} {lo hi mx:Option Int} (hlo:bnd low lo) (hhi:bnd high hi) (hmx:bnd max mx) {w:World}
 (h1:∀m,mx=some m->0<=m/\m<=cap) (h2:∀h,hi=some h->0<=h/\h<=mx.getD cap) (h3:∀l,lo=some l->0<=l/\l<=hi.getD len) (h4:mx.isSome=true->hi.isSome=true):
 (Instr.sliceBounds isSlice len cap low high max).run P w=.ok ((lo.getD 0).toNat,(hi.getD len).toNat,(mx.getD cap).toNat) w:=by
 cases mx with
 |some m=>
  cases hi with
  |none=>simp at h4
  |some h=>
   obtain⟨m0,m1⟩:=h1 m rfl
   obtain⟨a0,a1⟩:=h2 h rfl
   simp at a1
   cases max with
   |none=>exact hmx.elim
   |some mv=>cases high with
    |none=>exact hhi.elim
    |some hv=>
     obtain⟨k1,rfl⟩:=hmx
     obtain⟨k2,rfl⟩:=hhi
     have e1:∀c,(Instr.sliceBound (.int k1 m) cap c).run P w=.ok m.toNat w:=λc=>run_sliceBound m0 m1
     have e2:∀c,(Instr.sliceBound (.int k2 h) m.toNat c).run P w=.ok h.toNat w:=λc=>run_sliceBound a0 (by omega)
     cases lo with
     |none=>cases low with
      |none=>simp[Instr.sliceBounds,e1,e2]
      |some _=>exact hlo.elim
     |some l=>cases low with
      |none=>exact hlo.elim
      |some lv=>
       obtain⟨k3,rfl⟩:=hlo
       obtain⟨l0,l1⟩:=h3 l rfl
       simp at l1
       have e3:∀c,(Instr.sliceBound (.int k3 l) h.toNat c).run P w=.ok l.toNat w:=λc=>run_sliceBound l0 (by omega)
       simp[Instr.sliceBounds,e1,e2,e3]
 |none=>
  cases max with
  |some _=>exact hmx.elim
  |none=>
   cases hi with
   |none=>cases high with
    |some _=>exact hhi.elim
    |none=>
     cases lo with
     |none=>cases low with
      |none=>simp[Instr.sliceBounds]
      |some _=>exact hlo.elim
     |some l=>cases low with
      |none=>exact hlo.elim
      |some lv=>
       obtain⟨k3,rfl⟩:=hlo
       obtain⟨l0,l1⟩:=h3 l rfl
       have e3:∀c,(Instr.sliceBound (.int k3 l) len c).run P w=.ok l.toNat w:=λc=>run_sliceBound l0 l1
       simp[Instr.sliceBounds,e3]
   |some h=>cases high with
    |none=>exact hhi.elim
    |some hv=>
     obtain⟨k2,rfl⟩:=hhi
     obtain⟨a0,a1⟩:=h2 h rfl
     have e2:∀c,(Instr.sliceBound (.int k2 h) cap c).run P w=.ok h.toNat w:=λc=>run_sliceBound a0 a1
     cases lo with
     |none=>cases low with
      |none=>simp[Instr.sliceBounds,e2]
      |some _=>exact hlo.elim
     |some l=>cases low with
      |none=>exact hlo.elim
      |some lv=>
       obtain⟨k3,rfl⟩:=hlo
       obtain⟨l0,l1⟩:=h3 l rfl
       simp at l1
       have e3:∀c,(Instr.sliceBound (.int k3 l) h.toNat c).run P w=.ok l.toNat w:=λc=>run_sliceBound l0 (by omega)
       simp[Instr.sliceBounds,e2,e3]
theorem DR.sub {w:World} {S:Stb} {sz:Nat} {full full':Bool} {xs:List D} {a:Option Addr} {n cap:Nat} (h:DR w S (.sl sz full xs) (.slice a n cap)) {L H M:Nat} (hLH:L<=H) (hH:H<=xs.length) (hHM:H<=M)
 (hf:full'=true->M=H) {es:Nat} (hes:sz=es∨sz=0):DR w S (.sl sz full' ((xs.take H).drop L)) (.slice (if M=L then a else a.map (·.add (L*es))) (H-L) (M-L)):=by
 cases h with
 |sl _ _ _ _ _ b off uf g1 g2 g3 g4 g5 g6 g7=>
  have hlen:((xs.take H).drop L).length=H-L:=by simp;omega
  have hget:∀(i:Nat) (x:D),((xs.take H).drop L)[i]? =some x->xs[L+i]? =some x:=λi x hi=>by
   rw[J4,gQ] at hi
   split at hi
   ·exact hi
   ·cases hi
  have hsz0:sz=0->(xs.take H).drop L=[]:=λh0=>by rw[g3 h0];simp
  rw[<-hlen]
  refine .sl sz full' _ _ (M-L) b (off+L*sz) (λi j=>uf (L+i) j) (by omega) (λhf'=>by have:=hf hf';omega) hsz0 (λhne=> ?_) (λi x hi=>g5 _ x (hget i x hi)) (λi x j c hi hj=> ?_) (λi x j c hi hj=>g7 _ x j c (hget i x hi) hj)
  ·have h0:L<H:=by
    rcases gN L H with h|h
    ·exact h
    ·exact absurd (E7 (by omega)) hne
   have hxs:xs≠[]:=λe=>by rw[e] at hH;simp at hH;omega
   have hszn:sz=es:=by
    rcases hes with h|h
    ·exact h
    ·exact absurd (g3 h) hxs
   rw[if_neg (by omega),g4 hxs,<-hszn]
   simp[bR]
  ·obtain⟨f1,f2,f3⟩:=g6 _ x j c (hget i x hi) hj
   rw[H5] at f2 f3
   exact⟨f1,by rw[show off+L*sz+i*sz+j=off+(L*sz+i*sz)+j by omega];exact f2,by rw[show off+L*sz+i*sz+j=off+(L*sz+i*sz)+j by omega];exact f3⟩
theorem A8x {b:Bool} {vs:List V} {k:Option Int->List V->Prop} (h:EJ b vs k):(b=false/\k none vs)∨(b=true/\∃kd n r,vs=.d (.i kd n)::r/\k (some n) r):=by
 unfold EJ at h
 split at h
 ·exact .inl ⟨rfl,h⟩
 ·split at h
  ·exact .inr ⟨rfl,_,_,_,rfl,h⟩
  ·exact h.elim
theorem jB (hT:W9 P T=true) {t:TypeId} (h:0<W6 T t):∃e te,P.underlying t=some (.slice e)/\dO P e te=true/\te.size=W6 T t:=by
 unfold W6 at h ⊢
 cases hty:J8 T t with
 |none=>simp[hty] at h
 |some ti=>
  simp only[hty] at h ⊢
  cases hk:ti.kind with
  |slice e=>
   simp only[hk] at h ⊢
   cases hte:J8 T e with
   |none=>simp[hte] at h
   |some te=>exact⟨e,te,P8 (H7 hT hty) hk,H7 hT hte,rfl⟩
  |_=>simp[hk] at h
theorem lH {t e:TypeId} {te:TI} (ht:P.underlying t=some (.slice e)) (he:dO P e te=true) {w:World} {a:Option Addr} {len cap:Nat} {low high max:Option Value} {l h m:Nat}
 (hb:(Instr.sliceBounds true len cap low high max).run P w=.ok (l,h,m) w):
 (Instr.sliceAt t (.slice a len cap) low high max).run P w=.ok (.slice (if m=l then a else a.map (·.add (l*te.size))) (h-l) (m-l)) w:=by
 simp[Instr.sliceAt,Instr.slice,run_underlying ht,hb,P7 he]
theorem YP {x:Operand} {lo hi mx:Option Operand} {r1:List V} {xv:V} {l h m:Option Int} {r2 r3 r4:List V}
 (a1:(lo.isSome=false/\l=none/\r2=r1)∨(lo.isSome=true/\∃kd n,r1=.d (.i kd n)::r2/\l=some n))
 (a2:(hi.isSome=false/\h=none/\r3=r2)∨(hi.isSome=true/\∃kd n,r2=.d (.i kd n)::r3/\h=some n))
 (a3:(mx.isSome=false/\m=none/\r4=r3)∨(mx.isSome=true/\∃kd n,r3=.d (.i kd n)::r4/\m=some n))
 {w:World} {S:Stb} {hp:Hp} {β:Bet} {ρ:Operand->Value} (hor:OR w S hp β ρ (x::(lo.toList++(hi.toList++mx.toList))) (xv::r1)):
 VR w S hp β xv (ρ x)/\bnd (lo.map ρ) l/\bnd (hi.map ρ) h/\bnd (mx.map ρ) m:=by
 refine⟨hor.2 0 x xv rfl rfl,?_⟩
 have tl:∀{xs:List Operand} {vs:List V} {y:Operand} {v:V},OR w S hp β ρ (y::xs) (v::vs)->VR w S hp β v (ρ y)/\OR w S hp β ρ xs vs:=by
  intro xs vs y v ho
  exact⟨ho.2 0 y v rfl rfl,by simpa using ho.1,λi z y hz hu=>ho.2 (i+1) z y (by simpa using hz) (by simpa using hu)⟩
 have h0:=(tl hor).2
 rcases a1 with⟨b1,rfl,rfl⟩|⟨b1,kd,n,rfl,rfl⟩
 ·cases lo with
  |some _=>simp at b1
  |none=>
   refine⟨trivial,?_⟩
   simp only[Option.toList_none,G5] at h0
   rcases a2 with⟨b2,rfl,rfl⟩|⟨b2,kd2,n2,rfl,rfl⟩
   ·cases hi with
    |some _=>simp at b2
    |none=>
     refine⟨trivial,?_⟩
     simp only[Option.toList_none,G5] at h0
     rcases a3 with⟨b3,rfl,rfl⟩|⟨b3,kd3,n3,rfl,rfl⟩
     ·cases mx with
      |some _=>simp at b3
      |none=>trivial
     ·cases mx with
      |none=>simp at b3
      |some z=>exact⟨kd3,W5 (tl h0).1⟩
   ·cases hi with
    |none=>simp at b2
    |some y=>
     obtain⟨c1,c2⟩:=tl h0
     refine⟨⟨kd2,W5 c1⟩,?_⟩
     rcases a3 with⟨b3,rfl,rfl⟩|⟨b3,kd3,n3,rfl,rfl⟩
     ·cases mx with
      |some _=>simp at b3
      |none=>trivial
     ·cases mx with
      |none=>simp at b3
      |some z=>exact⟨kd3,W5 (tl c2).1⟩
 ·cases lo with
  |none=>simp at b1
  |some y0=>
   obtain⟨c0,h0⟩:=tl h0
   refine⟨⟨kd,W5 c0⟩,?_⟩
   rcases a2 with⟨b2,rfl,rfl⟩|⟨b2,kd2,n2,rfl,rfl⟩
   ·cases hi with
    |some _=>simp at b2
    |none=>
     refine⟨trivial,?_⟩
     simp only[Option.toList_none,G5] at h0
     rcases a3 with⟨b3,rfl,rfl⟩|⟨b3,kd3,n3,rfl,rfl⟩
     ·cases mx with
      |some _=>simp at b3
      |none=>trivial
     ·cases mx with
      |none=>simp at b3
      |some z=>exact⟨kd3,W5 (tl h0).1⟩
   ·cases hi with
    |none=>simp at b2
    |some y=>
     obtain⟨c1,c2⟩:=tl h0
     refine⟨⟨kd2,W5 c1⟩,?_⟩
     rcases a3 with⟨b3,rfl,rfl⟩|⟨b3,kd3,n3,rfl,rfl⟩
     ·cases mx with
      |some _=>simp at b3
      |none=>trivial
     ·cases mx with
      |none=>simp at b3
      |some z=>exact⟨kd3,W5 (tl c2).1⟩
theorem SR.sub {w:World} {h:Hp} {β:Bet} {n ver lo len:Nat} {full full':Bool} {v:Value} (hs:SR w h β n ver lo len full v) {ver' sz:Nat} {ro:Bool} {xs:List D} (hn:h[n]? =some (.row ver' sz ro xs)) {L H M:Nat}
 {a:Option Addr} {cap:Nat} (hv:v=.slice a len cap) (hLH:L<=H) (hHM:H<=M) (hM:M<=cap) (hf:full'=true->M=H):
 SR w h β n ver (lo+L) (H-L) full' (.slice (if M=L then a else a.map (·.add (L*sz))) (H-L) (M-L)):=by
 obtain⟨a',cap',hv',hc,hfull,hs⟩:=hs
 rw[hv] at hv';simp at hv';obtain⟨rfl,rfl⟩:=hv'
 refine⟨_,_,rfl,by omega,λh=>by have:=hf h;omega,?_⟩
 rw[hn] at hs ⊢
 obtain⟨h1,h2⟩:=hs
 refine⟨h1,λe=> ?_⟩
 rcases h2 e with⟨g1,g2⟩|⟨b,base,cells,el,fz,g1,g2,g3,g4⟩
 ·exact .inl ⟨g1,by omega⟩
 ·refine .inr ⟨b,base,cells,el,fz,g1,λhpos=> ?_,g3,?_⟩
  ·rw[if_neg (by omega),g2 (by omega)]
   simp[bR,H5,aP]
  ·have:=D6 sz (show lo+L+(M-L)<=lo+cap by omega)
   omega
theorem optI3 {lo hi mx:Bool} {r:List V} {F:Option Int->Option Int->Option Int->Prop} (h:EJ lo r λl r=>EJ hi r λh r=>EJ mx r λm _=>F l h m):
 ∃l r2 hh r3 m r4,((lo=false/\l=none/\r2=r)∨(lo=true/\∃kd n,r=.d (.i kd n)::r2/\l=some n))/\
  ((hi=false/\hh=none/\r3=r2)∨(hi=true/\∃kd n,r2=.d (.i kd n)::r3/\hh=some n))/\
  ((mx=false/\m=none/\r4=r3)∨(mx=true/\∃kd n,r3=.d (.i kd n)::r4/\m=some n))/\F l hh m:=by
 have one:∀{b:Bool} {vs:List V} {k:Option Int->List V->Prop},EJ b vs k->∃l r2,((b=false/\l=none/\r2=vs)∨(b=true/\∃kd n,vs=.d (.i kd n)::r2/\l=some n))/\k l r2:=by
  intro b vs k h
  rcases A8x h with⟨b,h⟩|⟨b,kd,n,r',e,h⟩
  ·exact⟨none,vs,.inl ⟨b,rfl,rfl⟩,h⟩
  ·exact⟨some n,r',.inr ⟨b,kd,n,e,rfl⟩,h⟩
 obtain⟨l,r2,a1,h1⟩:=one h
 obtain⟨hh,r3,a2,h2⟩:=one h1
 obtain⟨m,r4,a3,h3⟩:=one h2
 exact⟨l,r2,hh,r3,m,r4,a1,a2,a3,h3⟩
theorem XH (hT:W9 P T=true) {t:TypeId} {N:Nat} (h:A0u T t=some N):∃e te,P.underlying t=some (.array N e)/\dO P e te=true/\te.size=1:=by
 unfold A0u at h
 cases hh:J8 T t with
 |none=>simp[hh] at h
 |some ti=>
  simp only[hh] at h
  cases hk:ti.kind<;>simp only[hk] at h<;>try(cases h;done)
  rename_i n e
  cases hte:J8 T e with
  |none=>simp[hte] at h
  |some te=>
   simp only[hte] at h
   split at h
   ·rename_i h1
    cases h
    exact⟨e,te,iY (H7 hT hh) hk,H7 hT hte,B2 h1⟩
   ·cases h
theorem SH (hT:W9 P T=true) {o:Oper} {t:TypeId} {x:Operand} {lo hi mx:Option Operand} (ho:o.op=.slice t x lo hi mx) {xv:V} {r:List V} {bs:List Blk} {K:Kt}
 (h:EJ lo.isSome r λl r=>EJ hi.isSome r λh r=>EJ mx.isSome r λm _=>SI T t xv l h m bs K):∃v,K v bs/\OpS P o (xv::r) (slN xv) bs bs v:=by
 have hargs:F9 o.op=x::(lo.toList++(hi.toList++mx.toList)):=by simp[ho,F9]
 replace h:=optI3 h
 obtain⟨l,r2,hh,r3,m,r4,a1,a2,a3,h⟩:=h
 have args:∀{w:World} {S:Stb} {hp:Hp} {β:Bet} {ρ:Operand->Value},OR w S hp β ρ (F9 o.op) (xv::r)->VR w S hp β xv (ρ x)/\bnd (lo.map ρ) l/\bnd (hi.map ρ) hh/\bnd (mx.map ρ) m:=λhor=>YP a1 a2 a3 (by rw[<-hargs];exact hor)
 have hexec:∀(ρ:Operand->Value) (w:World) cv,(Instr.sliceAt t (ρ x) (lo.map ρ) (hi.map ρ) (mx.map ρ)).run P w=.ok cv w->(execOp ρ o).run P w=.ok (.value cv) w:=by
  intro ρ w cv hr
  simp[execOp,ho,hr]
 unfold SI at h
 split at h
 ·
  rename_i sz full xs
  replace h:=(J1 _ _).1 h
  obtain⟨hchk,h⟩:=h
  simp only[C8,Q6] at hchk
  have hpos:0<W6 T t:=B5 hchk.1
  have hes:sz=W6 T t∨sz=0:=hchk.2.imp B2 B2
  obtain⟨e,te,hu,hte,hsz⟩:=jB hT hpos
  have key:∀(L H:Nat) (full':Bool),l.getD 0=L->hh.getD xs.length=H->L<=H->H<=xs.length->(full'=true->m=some (H:Int)∨(full=true/\m=none/\H=xs.length))->(∀q,m=some q->q=H)->(m.isSome=true->hh.isSome=true)->
   OpS P o (.d (.sl sz full xs)::r) (slN (.d (.sl sz full xs))) [] [] (.d (.sl sz full' ((xs.take H).drop L))):=by
   intro L H full' hL hH hLH hHx hf hm hmh
   refine OpS.pure λρ w S hp β _ hor _=> ?_
   obtain⟨hv,b1,b2,b3⟩:=args hor
   generalize hρ:ρ x=cw at hv
   cases hv with
   |d hd=>
    have hd0:=hd
    cases hd with
    |sl _ _ _ a cap b off uf g1 g2 g3 g4 g5 g6 g7=>
     have hM:∃M:Nat,m.getD (cap:Int)=M/\H<=M/\M<=cap/\(full'=true->M=H):=by
      cases hmm:m with
      |none=>
       refine⟨cap,rfl,by omega,B1 _,λh'=> ?_⟩
       rcases hf h' with h''|⟨h1,_,h3⟩
       ·rw[hmm] at h'';cases h''
       ·rw[g2 h1,h3]
      |some q=>
       have:=hm q hmm
       exact⟨H,by simp[this],B1 _,by omega,λ_=>rfl⟩
     obtain⟨M,hM1,hM2,hM3,hM4⟩:=hM
     have hrun:=dH (P:=P) (isSlice:=true) (len:=xs.length) (cap:=cap) b1 b2 b3 (w:=w) (λq hq=>by rw[hm q hq];omega) (λq hq=>by rw[hq] at hH;simp at hH;rw[hM1];omega)
      (λq hq=>by rw[hq] at hL;simp at hL;rw[hH];omega) hmh
     rw[hL,hH,hM1] at hrun
     simp only[B0] at hrun
     refine⟨_,_,hexec ρ w _ (by rw[hρ];exact lH hu hte hrun),.inl rfl,.d ?_⟩
     exact hd0.sub hLH hHx hM2 hM4 (by rw[hsz];exact hes)
  split at h
  ·refine⟨_,h,?_⟩
   have:=key 0 xs.length full rfl rfl (B9 _) (B1 _) (λh=>.inr ⟨h,rfl,rfl⟩) (λq hq=>by cases hq) (λh=>by cases h)
   simpa using this
  ·rename_i h0
   have gen:Chk (0<=h0/\h0<=xs.length) (K (.d (.sl sz false (xs.take h0.toNat))) [])->∃v,K v []/\OpS P o (.d (.sl sz full xs)::r) (slN (.d (.sl sz full xs))) [] [] v:=λh=>by
    replace h:=h.elim
    obtain⟨⟨c1,c2⟩,h⟩:=h
    refine⟨_,h,?_⟩
    have:=key 0 h0.toNat false rfl (by simp;omega) (B9 _) (by omega) (λh=>by cases h) (λq hq=>by cases hq) (λh=>by cases h)
    simpa using this
   cases full with
   |false=>exact gen h
   |true=>
    cases xs with
    |nil=>
     replace h:=h.elim
     obtain⟨rfl,h⟩:=h
     refine⟨_,h,?_⟩
     have:=key 0 0 true rfl rfl (B9 _) (B9 _) (λ_=>.inr ⟨rfl,rfl,rfl⟩) (λq hq=>by cases hq) (λh=>by cases h)
     simpa using this
    |cons y ys=>exact gen h
  ·rename_i l0
   replace h:=h.elim
   obtain⟨⟨c1,c2⟩,h⟩:=h
   refine⟨_,h,?_⟩
   have:=key l0.toNat xs.length full (by simp;omega) rfl (by omega) (B1 _) (λh=>.inr ⟨h,rfl,rfl⟩) (λq hq=>by cases hq) (λh=>by cases h)
   simpa using this
  ·rename_i l0 h0
   replace h:=h.elim
   obtain⟨⟨c1,c2,c3⟩,h⟩:=h
   exact⟨_,h,key l0.toNat h0.toNat false (by simp;omega) (by simp;omega) (by omega) (by omega) (λh=>by cases h) (λq hq=>by cases hq) (λh=>by cases h)⟩
  ·rename_i h0 m0
   replace h:=h.elim
   obtain⟨⟨c1,c2,c3⟩,h⟩:=h
   refine⟨_,h,?_⟩
   have:=key 0 h0.toNat true rfl (by simp;omega) (B9 _) (by omega) (λ_=>.inl (by congr 1;omega)) (λq hq=>by cases hq;omega) (λ_=>rfl)
   simpa using this
  ·rename_i l0 h0 m0
   replace h:=h.elim
   obtain⟨⟨c1,c2,c3,c4⟩,h⟩:=h
   exact⟨_,h,key l0.toNat h0.toNat true (by simp;omega) (by simp;omega) (by omega) (by omega) (λ_=>.inl (by congr 1;omega)) (λq hq=>by cases hq;omega) (λ_=>rfl)⟩
  ·exact h.elim
 ·
  rename_i b
  replace h:=(J1 _ _).1 h
  obtain⟨hchk,h⟩:=h
  have hu:P.underlying t=some .string:=by
   unfold SI.stringTy' at hchk
   cases hty:J8 T t with
   |none=>simp[hty] at hchk
   |some ti=>
    simp only[hty] at hchk
    cases hk:ti.kind<;>simp[hk] at hchk
    exact X0 (H7 hT hty) hk
  have key:∀(L H:Nat),m=none->l.getD 0=L->hh.getD b.size=H->L<=H->H<=b.size->OpS P o (.d (.s b)::r) (slN (.d (.s b))) [] [] (.d (.s (b.extract L H))):=by
   intro L H hm hL hH hLH hHb
   refine OpS.pure λρ w S hp β _ hor _=> ?_
   obtain⟨hv,b1,b2,b3⟩:=args hor
   subst hm
   have hmn:mx.map ρ=none:=by
    cases hmm:mx.map ρ with
    |none=>rfl
    |some y=>rw[hmm] at b3;exact b3.elim
   have hrun:=dH (P:=P) (isSlice:=false) (len:=b.size) (cap:=b.size) (max:=none) (mx:=none) b1 b2 trivial (w:=w) (λq hq=>by cases hq) (λq hq=>by rw[hq] at hH;simp at hH ⊢;omega)
    (λq hq=>by rw[hq] at hL;simp at hL;rw[hH];omega) (λh=>by cases h)
   rw[hL,hH] at hrun
   simp only[B0] at hrun
   refine⟨_,.string (b.extract L H),hexec ρ w _ ?_,.inl rfl,.d (.s _)⟩
   rw[vF hv,hmn]
   simp[Instr.sliceAt,Instr.slice,run_underlying hu,hrun]
  have hfull:b.extract 0 b.size=b:=by
   cases b with
   |mk d=>simp[ByteArray.extract,ByteArray.size,ByteArray.copySlice]
  split at h
  ·refine⟨_,h,?_⟩
   have:=key 0 b.size rfl rfl rfl (B9 _) (B1 _)
   rwa[hfull] at this
  ·rename_i h0
   replace h:=h.elim
   obtain⟨⟨c1,c2⟩,h⟩:=h
   exact⟨_,h,key 0 h0.toNat rfl rfl (by simp;omega) (B9 _) (by omega)⟩
  ·rename_i l0
   replace h:=h.elim
   obtain⟨⟨c1,c2⟩,h⟩:=h
   exact⟨_,h,key l0.toNat b.size rfl (by simp;omega) rfl (by omega) (B1 _)⟩
  ·rename_i l0 h0
   replace h:=h.elim
   obtain⟨⟨c1,c2,c3⟩,h⟩:=h
   exact⟨_,h,key l0.toNat h0.toNat rfl (by simp;omega) (by simp;omega) (by omega) (by omega)⟩
  ·exact h.elim
 ·
  rename_i n ver l0 len full ver' sz ro xs
  replace h:=(J1 _ _).1 h
  obtain⟨hchk,h⟩:=h
  simp only[C8] at hchk
  have hpos:0<W6 T t:=B5 hchk.1
  have hes:sz=W6 T t:=B2 hchk.2
  obtain⟨e,te,hu,hte,hsz⟩:=jB hT hpos
  have key:∀(L H:Nat) (full':Bool),l.getD 0=L->hh.getD len=H->L<=H->H<=len->(full'=true->m=some (H:Int)∨(full=true/\m=none/\H=len))->(∀q,m=some q->q=H)->(m.isSome=true->hh.isSome=true)->
   OpS P o (.sref n ver l0 len full::r) (slN (.sref n ver l0 len full)) [.row ver' sz ro xs] [.row ver' sz ro xs] (.sref n ver (l0+L) (H-L) full'):=by
   intro L H full' hL hH hLH hHx hf hm hmh
   refine OpS.pure λρ w S hp β hr hor hb=> ?_
   have hn:hp[n]? =some (.row ver' sz ro xs):=by simpa[slN] using hb 0 n rfl
   obtain⟨hv,b1,b2,b3⟩:=args hor
   generalize hρ:ρ x=cw at hv
   cases hv with
   |sref g0 g=>
    obtain⟨a,cap,rfl,g1,g2,g3⟩:=id g
    have hM:∃M:Nat,m.getD (cap:Int)=M/\H<=M/\M<=cap/\(full'=true->M=H):=by
     cases hmm:m with
     |none=>
      refine⟨cap,rfl,by omega,B1 _,λh'=> ?_⟩
      rcases hf h' with h''|⟨h1,_,h3⟩
      ·rw[hmm] at h'';cases h''
      ·rw[g2 h1,h3]
     |some q=>
      have:=hm q hmm
      exact⟨H,by simp[this],B1 _,by omega,λ_=>rfl⟩
    obtain⟨M,hM1,hM2,hM3,hM4⟩:=hM
    have hrun:=dH (P:=P) (isSlice:=true) (len:=len) (cap:=cap) b1 b2 b3 (w:=w) (λq hq=>by rw[hm q hq];omega) (λq hq=>by rw[hq] at hH;simp at hH;rw[hM1];omega)
     (λq hq=>by rw[hq] at hL;simp at hL;rw[hH];omega) hmh
    rw[hL,hH,hM1] at hrun
    simp only[B0] at hrun
    refine⟨_,_,hexec ρ w _ (by rw[hρ];exact lH hu hte hrun),.inl rfl,.sref rfl ?_⟩
    rw[hsz,<-hes]
    exact SR.sub g hn rfl hLH hM2 hM3 hM4
  split at h
  ·refine⟨_,h,?_⟩
   have:=key 0 len full rfl rfl (B9 _) (B1 _) (λh=>.inr ⟨h,rfl,rfl⟩) (λq hq=>by cases hq) (λh=>by cases h)
   simpa using this
  ·rename_i h0
   replace h:=h.elim
   obtain⟨⟨c1,c2⟩,h⟩:=h
   refine⟨_,h,?_⟩
   have:=key 0 h0.toNat false rfl (by simp;omega) (B9 _) (by omega) (λh=>by cases h) (λq hq=>by cases hq) (λh=>by cases h)
   simpa using this
  ·rename_i l1
   replace h:=h.elim
   obtain⟨⟨c1,c2⟩,h⟩:=h
   exact⟨_,h,key l1.toNat len full (by simp;omega) rfl (by omega) (B1 _) (λh=>.inr ⟨h,rfl,rfl⟩) (λq hq=>by cases hq) (λh=>by cases h)⟩
  ·rename_i l1 h0
   replace h:=h.elim
   obtain⟨⟨c1,c2,c3⟩,h⟩:=h
   exact⟨_,h,key l1.toNat h0.toNat false (by simp;omega) (by simp;omega) (by omega) (by omega) (λh=>by cases h) (λq hq=>by cases hq) (λh=>by cases h)⟩
  ·rename_i h0 m0
   replace h:=h.elim
   obtain⟨⟨c1,c2,c3⟩,h⟩:=h
   refine⟨_,h,?_⟩
   have:=key 0 h0.toNat true rfl (by simp;omega) (B9 _) (by omega) (λ_=>.inl (by congr 1;omega)) (λq hq=>by cases hq;omega) (λ_=>rfl)
   simpa using this
  ·rename_i l1 h0 m0
   replace h:=h.elim
   obtain⟨⟨c1,c2,c3,c4⟩,h⟩:=h
   exact⟨_,h,key l1.toNat h0.toNat true (by simp;omega) (by simp;omega) (by omega) (by omega) (λ_=>.inl (by congr 1;omega)) (λq hq=>by cases hq;omega) (λ_=>rfl)⟩
  ·exact h.elim
 ·
  rename_i n ver e0 o0 cs
  split at h
  ·rename_i N hN
   obtain⟨e,te,hu,hte,hsz⟩:=XH hT hN
   have key:∀(H:Nat) (full':Bool),l=none->m=none->hh.getD N=H->H<=N->o0+N<=cs.length->(full'=true->H=N)->
    OpS P o (.ptr n ver e0 o0::r) (slN (.ptr n ver e0 o0)) [.vard cs] [.vard cs] (.sref n 1 o0 H full'):=by
    intro H full' hl hm hH hHN hNc hf
    subst hl;subst hm
    refine OpS.pure λρ w S hp β hr hor hb=> ?_
    have hn:hp[n]? =some (.vard cs):=by simpa[slN] using hb 0 n rfl
    obtain⟨hv,b1,b2,b3⟩:=args hor
    have hmn:mx.map ρ=none:=by
     cases hmm:mx.map ρ with
     |none=>rfl
     |some y=>rw[hmm] at b3;exact b3.elim
    generalize hρ:ρ x=cw at hv
    cases hv with
    |ptr g0 g=>
     simp only[PR,hn] at g
     obtain⟨b,g1,g2,g3,rfl⟩:=g
     obtain⟨b',cells,el,k1,k2,k3,k4,k5⟩:=hr.blk n _ hn
     rw[g1] at k1;simp at k1;subst k1
     have hrun:=dH (P:=P) (isSlice:=false) (len:=N) (cap:=N) (max:=none) (mx:=none) b1 b2 trivial (w:=w) (λq hq=>by cases hq) (λq hq=>by rw[hq] at hH;simp at hH ⊢;omega)
      (λq hq=>by cases hq) (λh=>by cases h)
     rw[hH] at hrun
     simp only[B0,Option.getD_none] at hrun
     refine⟨_,.slice (some ⟨b,o0,none⟩) H N,hexec ρ w _ ?_,.inl rfl,.sref rfl ⟨_,_,rfl,hHN,λh=>(hf h).symm,?_⟩⟩
     ·rw[hρ,hmn]
      have h0:(Int.toNat 0)=0:=rfl
      simp[Instr.sliceAt,run_underlying hu,Instr.sureAddr,hrun,P7 hte,bR,h0]
     ·rw[hn]
      exact⟨rfl,b,cells,el,_,g1,λ_=>rfl,k2,by omega⟩
   split at h
   ·replace h:=h.elim
    obtain⟨c1,h⟩:=h
    exact⟨_,h,key N true rfl rfl rfl (B1 _) c1 (λ_=>rfl)⟩
   ·rename_i h0
    replace h:=h.elim
    obtain⟨⟨c1,c2,c3⟩,h⟩:=h
    exact⟨_,h,key h0.toNat false rfl rfl (by simp;omega) (by omega) c3 (λh=>by cases h)⟩
   ·exact h.elim
  ·exact h.elim
 ·
  rename_i n ver l0 len full cs
  replace h:=(J1 _ _).1 h
  obtain⟨hchk,h⟩:=h
  have hes:W6 T t=1:=B2 hchk
  obtain⟨e,te,hu,hte,hsz⟩:=jB hT (t:=t) (by omega)
  split at h
  ·rename_i h0 m0
   replace h:=h.elim
   obtain⟨⟨rfl,rfl⟩,h⟩:=h
   refine⟨_,h,?_⟩
   refine OpS.pure λρ w S hp β hr hor hb=> ?_
   obtain⟨hv,b1,b2,b3⟩:=args hor
   generalize hρ:ρ x=cw at hv
   cases hv with
   |sref g0 g=>
    obtain⟨a,cap,rfl,g1,g2,g3⟩:=id g
    have hrun:=dH (P:=P) (isSlice:=true) (len:=len) (cap:=cap) b1 b2 b3 (w:=w) (λq hq=>by cases hq;simp) (λq hq=>by cases hq;simp) (λq hq=>by cases hq) (λ_=>rfl)
    simp only[Option.getD_none,O0,Int.toNat_zero] at hrun
    refine⟨_,_,hexec ρ w _ (by rw[hρ];exact lH hu hte hrun),.inl rfl,.d ?_⟩
    exact .sl 1 true [] _ 0 0 0 (λ_ _=>.nilIface) (by simp) (λ_=>rfl) (by simp) (by simp) (by simp) (by simp) (by simp)
  ·exact h.elim
 ·exact h.elim
def ElK (x:V) (bx:List Blk) (sz:Nat) (ys:List D):Prop:=
 (∃full,x=.d (.sl sz full ys)/\bx=[])∨(∃m ver lo len full ro xs,x=.sref m ver lo len full/\bx=[.row ver sz ro xs]/\lo+len<=xs.length/\ys=(xs.drop lo).take len)∨
 (∃m ver lo len full cs,x=.sref m ver lo len full/\bx=[.vard cs]/\lo+len<=cs.length/\sz=1/\ys=(cs.drop lo).take len)
def ElA (x:V) (bx:List Blk) (sz:Nat) (ys:List D):Prop:=ElK x bx sz ys∨∃b,x=.d (.s b)/\bx=[]/\sz=1/\ys=BY b
theorem yE {x:V} {bx:List Blk} {k:Nat->List D->Prop} (h:JU x bx k):∃sz ys,k sz ys/\ElA x bx sz ys:=by
 unfold JU at h
 split at h
 ·exact⟨_,_,h,.inl (.inl ⟨_,rfl,rfl⟩)⟩
 ·exact⟨_,_,h,.inr ⟨_,rfl,rfl,rfl,rfl⟩⟩
 ·rename_i n ver lo len full ver' sz ro xs
  split at h
  ·replace h:=h.elim
   obtain⟨⟨rfl,h1⟩,h⟩:=h
   exact⟨_,_,h.elim,.inl (.inr (.inl ⟨n,ver,0,len,full,ro,xs,rfl,rfl,by omega,by simp⟩))⟩
  ·replace h:=h.elim
   obtain⟨⟨rfl,h1⟩,h⟩:=h
   exact⟨_,_,h.elim,.inl (.inr (.inl ⟨n,ver,lo,len,full,ro,xs,rfl,rfl,h1,rfl⟩))⟩
 ·rename_i n ver lo len full cs
  replace h:=h.elim
  obtain⟨h1,h⟩:=h
  exact⟨_,_,h.elim,.inl (.inr (.inr ⟨n,ver,lo,len,full,cs,rfl,rfl,h1,rfl,rfl⟩))⟩
 ·exact h.elim
structure A6p (P:Program) (w:World) (S:Stb) (size:Nat) (cv:Value) (ys:List D) (a:Option Addr) (cap:Nat) (news:List Value):Prop where
 val:cv=.slice a ys.length cap
 first:∀w':World,w'.heap=w.heap->(Builtin.firstCells size ys.length cv).run P w'=.ok news.toArray w'
 len:news.length=ys.length*size
 one:∀v∈news,one v=true
 cells:∀(i:Nat) (y:D) (j:Nat) (c:D),ys[i]? =some y->y.cells[j]? =some c->∃u,news[i*size+j]? =some u/\DR w S c u/\c.flat=true
 sizes:∀(i:Nat) (y:D),ys[i]? =some y->y.cells.length=size
 cap_:ys.length<=cap
theorem AV {k n sz:Nat} (h:k<n*sz):k/sz<n/\k%sz<sz/\k/sz*sz+k%sz=k:=by
 have hsz:0<sz:=by
  rcases H3 sz with h0|h0
  ·subst h0;simp at h
  ·exact h0
 refine⟨Nat.div_lt_of_lt_mul (by rw[C6];exact h),J7 _ hsz,?_⟩
 rw[C6];exact O2 k sz
theorem BW {w w':World} (h:w'.heap=w.heap) (a:Addr):w'.cell? a=w.cell? a:=by simp[World.cell?,h]
theorem ElK.src {x:V} {bx:List Blk} {sz:Nat} {ys:List D} (h:ElK x bx sz ys) {size:Nat} (hpos:0<size) (hsz:sz=size∨sz=0) {w:World} {S:Stb} {hp:Hp} {β:Bet} (hr:HR w S hp β)
 (hb:∀(i n:Nat),(Z7 x)[i]? =some n->hp[n]? =bx[i]?) {cv:Value} (hv:VR w S hp β x cv):∃a cap news,A6p P w S size cv ys a cap news:=by
 rcases h with⟨full,rfl,rfl⟩|⟨m,ver,lo,len,full,ro,xs,rfl,rfl,hle,rfl⟩|⟨m,ver,lo,len,full,cs,rfl,rfl,hle,rfl,rfl⟩
 ·cases hv with
  |d hd=>cases hd with
   |sl _ _ _ a cap b off uf g1 g2 g3 g4 g5 g6 g7=>
    by_cases hne:ys=[]
    ·subst hne
     refine⟨a,cap,[],rfl,λw' _=> ?_,by simp,by simp,by simp,by simp,g1⟩
     cases a<;>simp[Builtin.firstCells,loadCells,loadCellsFrom]
    ·have hs:sz=size:=by
      rcases hsz with h|h
      ·exact h
      ·exact absurd (g3 h) hne
     subst hs
     have ha:=g4 hne
     subst ha
     have hget:∀k,k<ys.length*sz->∃y c,ys[k/sz]? =some y/\y.cells[k%sz]? =some c:=λk hk=>by
      obtain⟨s1,s2,_⟩:=AV hk
      refine⟨ys[k/sz],(ys[k/sz]).cells[k%sz]'(by rw[g5 _ _ (A3 s1)];exact s2),A3 s1,A3 _⟩
     refine⟨_,cap,(List.range (ys.length*sz)).map λk=>uf (k/sz) (k%sz),rfl,λw' hw'=> ?_,by simp,λv hv=> ?_,λi y j c hy hc=> ?_,g5,g1⟩
     ·refine run_firstCells_some w' sz ys.length _ _ _ _ (by simp) λk v hv=> ?_
      rw[BW hw']
      simp only[A8,F0] at hv
      obtain⟨k',hk',rfl⟩:=hv
      obtain⟨hkl,rfl⟩:=A4.1 hk'
      simp only[List.getElem_range]
      have hkl':k<ys.length*sz:=by simpa using hkl
      obtain⟨y,c,h1,h2⟩:=hget k hkl'
      have:=(g6 _ y _ c h1 h2).2.1
      rw[bR]
      rwa[aP,(AV hkl').2.2] at this
     ·simp only[K4,K2] at hv
      obtain⟨k,hk,rfl⟩:=hv
      obtain⟨y,c,h1,h2⟩:=hget k hk
      exact(g7 _ y _ c h1 h2).one (g6 _ y _ c h1 h2).1
     ·have hi:i<ys.length:=(A4.1 hy).1
      have hj:j<sz:=by rw[<-g5 i y hy];exact(A4.1 hc).1
      have hlt:i*sz+j<ys.length*sz:=by
       have:=D6 sz (show i+1<=ys.length from hi)
       rw[P3] at this;omega
      refine⟨uf i j,?_,g7 i y j c hy hc,(g6 i y j c hy hc).1⟩
      simp only[A8,F2 hlt,Q3]
      rw[C6 i sz,tJ hpos,mO,I9 hj,M0 hj,W2]
 ·cases hv with
  |sref g0 g=>
   have hn:hp[m]? =some (.row ver sz ro xs):=by simpa[Z7] using hb 0 m rfl
   obtain⟨a,cap,rfl,g1,g2,g3⟩:=g
   rw[hn] at g3
   obtain⟨_,g3⟩:=g3
   obtain⟨k0,k1,k2⟩:=hr.blk m _ hn
   have hs:sz=size:=by
    rcases hsz with h|h
    ·exact h
    ·omega
   subst hs
   have hyl:((xs.drop lo).take len).length=len:=by simp;omega
   have hys:∀(i:Nat) (y:D),((xs.drop lo).take len)[i]? =some y->xs[lo+i]? =some y:=λi y h=>bM h
   rcases g3 rfl with⟨c1,c2⟩|⟨b,base,cells,el,fz,c1,c2,c3,c4⟩
   ·have hl0:len=0:=by omega
    subst hl0
    refine⟨a,cap,[],by simp,λw' _=> ?_,by simp,by simp,by simp,by simp,by simp⟩
    cases a<;>simp[Builtin.firstCells,loadCells,loadCellsFrom]
   ·rcases k2 with⟨_,e2⟩|⟨b',base',cells',el',e1,e2,e3,e4,e5⟩
    ·rw[c1] at e2;simp at e2
    ·rw[c1] at e1;simp at e1;obtain⟨rfl,rfl⟩:=e1
     rw[c3] at e2;simp at e2;obtain⟨rfl,rfl,rfl⟩:=e2
     by_cases hl0:len=0
     ·subst hl0
      refine⟨a,cap,[],by simp,λw' _=> ?_,by simp,by simp,by simp,by simp,by simp⟩
      cases a<;>simp[Builtin.firstCells,loadCells,loadCellsFrom]
     ·have ha:=c2 (by omega)
      subst ha
      have hbound:base+lo*sz+len*sz<=cells.size:=by
       have:=D6 sz (show lo+len<=lo+cap by omega)
       rw[H5] at this
       omega
      have hcell:∀(i:Nat) (y:D) (j:Nat) (c:D),((xs.drop lo).take len)[i]? =some y->y.cells[j]? =some c->∃u,cells[base+lo*sz+(i*sz+j)]? =some u/\DR w S c u/\c.flat=true:=λi y j c hy hc=>by
       obtain⟨u,h1,h2⟩:=e4 _ y j c (hys i y hy) hc
       rw[H5] at h1
       exact⟨u,by rw[show base+lo*sz+(i*sz+j)=base+(lo*sz+i*sz)+j by omega];exact h1,h2,(k1 _ y (hys i y hy)).2 j c hc⟩
      have hnews:∀k,k<len*sz->((cells.toList.drop (base+lo*sz)).take (len*sz))[k]? =cells[base+lo*sz+k]? :=λk hk=>by
       rw[I8 hk,J4];simp
      refine⟨_,cap,(cells.toList.drop (base+lo*sz)).take (len*sz),by rw[hyl],λw' hw'=> ?_,by rw[hyl];simp;omega,λv hv=> ?_,λi y j c hy hc=> ?_,λi y hy=>(k1 _ y (hys i y hy)).1,by rw[hyl];exact g1⟩
      ·rw[hyl]
       refine run_firstCells_some w' sz len _ _ _ _ (by simp;omega) λk v hv=> ?_
       rw[BW hw']
       have hk:k<len*sz:=by have:=(A4.1 hv).1;simp at this;omega
       rw[hnews k hk] at hv
       rw[bR,cell_of_row w b _ cells el _ c3]
       exact hv
      ·obtain⟨k,hk⟩:=D9.1 hv
       have hkl:k<len*sz:=by have:=(A4.1 hk).1;simp at this;omega
       obtain⟨s1,s2,s3⟩:=AV hkl
       have hy:((xs.drop lo).take len)[k/sz]? =some (((xs.drop lo).take len)[k/sz]'(by omega)):=A3 _
       have hcl:=(k1 _ _ (hys _ _ hy)).1
       obtain⟨u,u1,u2,u3⟩:=hcell _ _ (k%sz) _ hy (A3 (by omega))
       rw[s3] at u1
       rw[hnews k hkl,u1] at hk
       cases hk
       exact u2.one u3
      ·obtain⟨u,u1,u2,u3⟩:=hcell i y j c hy hc
       have hi:i<len:=by rw[<-hyl];exact(A4.1 hy).1
       have hj:j<sz:=by rw[<-(k1 _ y (hys i y hy)).1];exact(A4.1 hc).1
       have hlt:i*sz+j<len*sz:=by
        have:=D6 sz (show i+1<=len from hi)
        rw[P3] at this;omega
       exact⟨u,by rw[hnews _ hlt];exact u1,u2,u3⟩
 ·cases hv with
  |sref g0 g=>
   have hn:hp[m]? =some (.vard cs):=by simpa[Z7] using hb 0 m rfl
   obtain⟨a,cap,rfl,g1,g2,g3⟩:=g
   rw[hn] at g3
   obtain⟨_,b,cells,el,fz,c1,c2,c3,c4⟩:=g3
   obtain⟨b',cells',el',k1,k2,k3,k4,k5⟩:=hr.blk m _ hn
   rw[c1] at k1;simp at k1;subst k1
   rw[c3] at k2;simp at k2;obtain⟨rfl,rfl,rfl⟩:=k2
   have hs:size=1:=by
    rcases hsz with h|h
    ·exact h.symm
    ·omega
   subst hs
   have hyl:((cs.drop lo).take len).length=len:=by simp;omega
   have hys:∀(i:Nat) (y:D),((cs.drop lo).take len)[i]? =some y->cs[lo+i]? =some y:=λi y h=>bM h
   have hone:∀(i:Nat) (y:D),((cs.drop lo).take len)[i]? =some y->∃u,cells[lo+i]? =some u/\y.flat=true/\DR w S y u:=λi y h=>by
    have h2:=hys i y h
    have hlt:lo+i<cells.size:=by rw[k3];exact(A4.1 h2).1
    have:=k4 (lo+i) y cells[lo+i] h2 (B7 hlt)
    exact⟨_,B7 hlt,this⟩
   by_cases hl0:len=0
   ·subst hl0
    refine⟨a,cap,[],by simp,λw' _=> ?_,by simp,by simp,by simp,by simp,by simp⟩
    cases a<;>simp[Builtin.firstCells,loadCells,loadCellsFrom]
   ·have ha:=c2 (by omega)
    subst ha
    have hnews:∀k,k<len->((cells.toList.drop lo).take len)[k]? =cells[lo+k]? :=λk hk=>by
     rw[I8 hk,J4];simp
    refine⟨_,cap,(cells.toList.drop lo).take len,by rw[hyl],λw' hw'=> ?_,by rw[hyl];simp;omega,λv hv=> ?_,λi y j c hy hc=> ?_,λi y hy=> ?_,by rw[hyl];exact g1⟩
    ·rw[hyl]
     refine run_firstCells_some w' 1 len _ _ _ _ (by simp;omega) λk v hv=> ?_
     rw[BW hw']
     have hk:k<len:=by have:=(A4.1 hv).1;simp at this;omega
     rw[hnews k hk] at hv
     rw[bR,cell_of_row w b _ cells el _ c3]
     exact hv
    ·obtain⟨k,hk⟩:=D9.1 hv
     have hkl:k<len:=by have:=(A4.1 hk).1;simp at this;omega
     obtain⟨u,u1,u2,u3⟩:=hone k _ (A3 (by omega))
     rw[hnews k hkl,u1] at hk
     cases hk
     exact u3.one u2
    ·obtain⟨u,u1,u2,u3⟩:=hone i y hy
     have hi:i<len:=by rw[<-hyl];exact(A4.1 hy).1
     rw[eV y u2] at hc
     cases j with
     |zero=>
      simp at hc;subst hc
      exact⟨u,by rw[L2,W2,hnews i hi];exact u1,u3,u2⟩
     |succ j=>simp at hc
    ·obtain⟨u,u1,u2,u3⟩:=hone i y hy
     rw[eV y u2];rfl
def A1m (x:Value) (m:Nat):Prop:=(∃b c,x=.slice b m c)∨∃s:ByteArray,x=.string s/\s.size=m
def XY (d:TypeDesc):Prop:=(∃e,d=.slice e)∨d=.string
structure A6q (P:Program) (w:World) (S:Stb) (size:Nat) (cv:Value) (ys:List D) (news:List Value):Prop where
 arg:A1m cv ys.length
 first:∀w':World,w'.heap=w.heap->(Builtin.firstCells size ys.length cv).run P w'=.ok news.toArray w'
 len:news.length=ys.length*size
 one:∀v∈news,one v=true
 cells:∀(i:Nat) (y:D) (j:Nat) (c:D),ys[i]? =some y->y.cells[j]? =some c->∃u,news[i*size+j]? =some u/\DR w S c u/\c.flat=true
 sizes:∀(i:Nat) (y:D),ys[i]? =some y->y.cells.length=size
theorem A6p.toA {w:World} {S:Stb} {size:Nat} {cv:Value} {ys:List D} {a:Option Addr} {cap:Nat} {news:List Value} (h:A6p P w S size cv ys a cap news):A6q P w S size cv ys news:=
 ⟨.inl ⟨_,_,h.val⟩,h.first,h.len,h.one,h.cells,h.sizes⟩
theorem ElA.src {x:V} {bx:List Blk} {sz:Nat} {ys:List D} (h:ElA x bx sz ys) {size:Nat} (hpos:0<size) (hsz:sz=size∨sz=0) {w:World} {S:Stb} {hp:Hp} {β:Bet} (hr:HR w S hp β)
 (hb:∀(i n:Nat),(Z7 x)[i]? =some n->hp[n]? =bx[i]?) {cv:Value} (hv:VR w S hp β x cv):∃news,A6q P w S size cv ys news:=by
 rcases h with h|⟨b,rfl,rfl,rfl,rfl⟩
 ·obtain⟨a,cap,news,hs⟩:=h.src (P:=P) hpos hsz hr hb hv
  exact⟨news,hs.toA⟩
 ·have hs:size=1:=by omega
  subst hs
  cases hv with
  |d hd=>
   cases hd with
   |s=>
    have hl:(BY b).length=b.size:=by unfold BY;rw[A6];exact F6
    refine⟨b.data.toList.map λc=>.int .u8 (c.toNat:Int),⟨.inr ⟨b,rfl,hl.symm⟩,λw' _=> ?_,by rw[hl,A6,L2];exact F6,λv hv=> ?_,λi y j c hy hc=> ?_,λi y hy=> ?_⟩⟩
    ·have e:b.extract 0 b.size=b:=by
      apply ByteArray.ext
      rw[ByteArray.data_extract]
      exact Array.extract_size
     rw[hl]
     show Sem.run P (pure (Array.map (λc=>Value.int IntKind.u8 (c.toNat:Int)) (b.extract 0 b.size).data)) w'=_
     rw[e]
     show Result.ok _ w'=_
     congr 1
     apply Array.ext'
     rw[Array.toList_map]
    ·obtain⟨c,_,rfl⟩:=K4.1 hv
     rfl
    ·unfold BY at hy
     rw[A8] at hy
     cases hi:b.data.toList[i]? with
     |none=>rw[hi] at hy;cases hy
     |some u=>
      rw[hi] at hy
      cases hy
      cases j with
      |zero=>
       simp[D.cells] at hc
       subst hc
       exact⟨.int .u8 (u.toNat:Int),by rw[L2,W2,A8,hi];rfl,.i _ _,rfl⟩
      |succ j=>simp[D.cells] at hc
    ·unfold BY at hy
     rw[A8] at hy
     cases hi:b.data.toList[i]? with
     |none=>rw[hi] at hy;cases hy
     |some u=>rw[hi] at hy;cases hy;rfl
section
variable {t t2 e:TypeId} {d2:TypeDesc} {te:TI} {i:TypeInfo} {z:Value}
theorem gI (ht:P.underlying t=some (.slice e)) (ht2:P.underlying t2=some d2) (hd2:XY d2) (hi:nZ P e te i z) {w w':World} {base:Option Addr} {sLen sCap m:Nat} {x:Value} (hx:A1m x m) {news:Array Value}
 (hf:(Builtin.firstCells te.size m x).run P w=.ok news w) (hroom:sLen+m<=sCap)
 (hst:match base with|some a=>(storeCells (a.add (sLen*te.size)) news.toList).run P w=.ok () w'|none=>w'=w) (ty:TypeId):
 (Builtin.append_ #[t,t2] ty #[.slice base sLen sCap,x]).run P w=.ok (.slice base (sLen+m) sCap) w':=by
 have hsize:=hi.size
 rcases hx with⟨bx,cx,rfl⟩|⟨s,rfl,rfl⟩<;>rcases hd2 with⟨e2,rfl⟩|rfl
 all_goals cases base with
 |none=>subst hst;simp[Builtin.append_,run_underlying ht,run_underlying ht2,sizeOf,Z2 hi.info,hsize,Builtin.lenOf,hroom,hf]
 |some a=>simp[Builtin.append_,run_underlying ht,run_underlying ht2,sizeOf,Z2 hi.info,hsize,Builtin.lenOf,hroom,hf,hst]
theorem tQ (ht:P.underlying t=some (.slice e)) (ht2:P.underlying t2=some d2) (hd2:XY d2) (hi:nZ P e te i z) {w:World} {base:Option Addr} {sLen sCap m:Nat} {x:Value} (hx:A1m x m) {olds news:Array Value}
 (hfo:∀w',w'.heap=w.heap->(Builtin.firstCells te.size sLen (.slice base sLen sCap)).run P w'=.ok olds w') (hf:∀w',w'.heap=w.heap->(Builtin.firstCells te.size m x).run P w'=.ok news w') (hroom:sCap<sLen+m) (h63:sLen+m<=9223372036854775807) (hb:(sLen+m)*te.bytes<=140737488355328) (ty:TypeId):
 (Builtin.append_ #[t,t2] ty #[.slice base sLen sCap,x]).run P w=.ok (.slice (some ⟨w.heap.size,0,none⟩) (sLen+m) (grownCap w (sLen+m) sCap e))
   (w.drew.alloc (.cells (olds++news++Builtin.zeroCells z.cells (grownCap w (sLen+m) sCap e-(sLen+m))) e)):=by
 have hsize:=hi.size
 have h48:=growslice_fits hroom hb
 have h48':¬(281474976710656<Builtin.nextslicecap (sLen+m) sCap*te.bytes):=by omega
 have hn:¬(sLen+m<=sCap):=by omega
 have h63':¬(9223372036854775807<((sLen:Int)+(m:Int))):=by omega
 have hby:i.bytes=te.bytes:=hi.bytes
 have e1:=hfo w.drew rfl
 have e2:=hf w.drew rfl
 rcases hx with⟨bx,cx,rfl⟩|⟨s,rfl,rfl⟩<;>rcases hd2 with⟨d3,rfl⟩|rfl
 all_goals simp[Builtin.append_,run_underlying ht,run_underlying ht2,sizeOf,Z2 hi.info,hsize,hby,zeroValue,hi.zero,Builtin.lenOf,hn,h63',h48',Question.forced,e1,e2,newRow,grownCap]
end
theorem IX {w:World} {S:Stb} {sz:Nat} {xs ys:List D} {olds news:List Value} (hol:olds.length=xs.length*sz)
 (hxs:∀(i:Nat) (x:D) (j:Nat) (c:D),xs[i]? =some x->x.cells[j]? =some c->∃u,olds[i*sz+j]? =some u/\DR w S c u)
 (hxz:∀(i:Nat) (x:D),xs[i]? =some x->x.cells.length=sz)
 (hys:∀(i:Nat) (y:D) (j:Nat) (c:D),ys[i]? =some y->y.cells[j]? =some c->∃u,news[i*sz+j]? =some u/\DR w S c u/\c.flat=true):
 ∀(i:Nat) (x:D) (j:Nat) (c:D),(xs++ys)[i]? =some x->x.cells[j]? =some c->∃u,(olds++news)[i*sz+j]? =some u/\DR w S c u:=by
 intro i x j c hx hc
 by_cases hi:i<xs.length
 ·rw[B8 hi] at hx
  obtain⟨u,h1,h2⟩:=hxs i x j c hx hc
  have hj:j<sz:=by rw[<-hxz i x hx];exact(A4.1 hc).1
  have:=D6 sz (show i+1<=xs.length from hi)
  rw[P3] at this
  exact⟨u,by rw[B8 (by omega)];exact h1,h2⟩
 ·rw[B3 (by omega)] at hx
  obtain⟨u,h1,h2,_⟩:=hys _ x j c hx hc
  have:xs.length*sz<=i*sz:=D6 sz (by omega)
  refine⟨u,?_,h2⟩
  rw[B3 (by omega),hol]
  rw[Nat.sub_mul] at h1
  rw[show i*sz+j-xs.length*sz=i*sz-xs.length*sz+j by omega]
  exact h1
theorem rC {sz:Nat} {xs ys:List D} (hx:∀(i:Nat) (x:D),xs[i]? =some x->x.cells.length=sz/\∀(j:Nat) (c:D),x.cells[j]? =some c->c.flat=true)
 (hy:∀(i:Nat) (x:D),ys[i]? =some x->x.cells.length=sz/\∀(j:Nat) (c:D),x.cells[j]? =some c->c.flat=true):
 ∀(i:Nat) (x:D),(xs++ys)[i]? =some x->x.cells.length=sz/\∀(j:Nat) (c:D),x.cells[j]? =some c->c.flat=true:=by
 intro i x hx'
 by_cases hi:i<xs.length
 ·rw[B8 hi] at hx';exact hx i x hx'
 ·rw[B3 (by omega)] at hx';exact hy _ x hx'
theorem A6p.both {w:World} {S:Stb} {size:Nat} {cv:Value} {ys:List D} {a:Option Addr} {cap:Nat} {news:List Value} (h:A6p P w S size cv ys a cap news):
 ∀(i:Nat) (x:D),ys[i]? =some x->x.cells.length=size/\∀(j:Nat) (c:D),x.cells[j]? =some c->c.flat=true:=
 λi x hx=>⟨h.sizes i x hx,λj c hc=>by obtain⟨_,_,_,hf⟩:=h.cells i x j c hx hc;exact hf⟩
theorem A6q.both {w:World} {S:Stb} {size:Nat} {cv:Value} {ys:List D} {news:List Value} (h:A6q P w S size cv ys news):
 ∀(i:Nat) (x:D),ys[i]? =some x->x.cells.length=size/\∀(j:Nat) (c:D),x.cells[j]? =some c->c.flat=true:=
 λi x hx=>⟨h.sizes i x hx,λj c hc=>by obtain⟨_,_,_,hf⟩:=h.cells i x j c hx hc;exact hf⟩
theorem AT {n:Nat} {x:V} {bx:List Blk} {blk:Blk} {hp:Hp} (hb:∀(i m:Nat),(n::Z7 x)[i]? =some m->hp[m]? =(blk::bx)[i]?):hp[n]? =some blk/\∀(i m:Nat),(Z7 x)[i]? =some m->hp[m]? =bx[i]? :=
 ⟨by simpa using hb 0 n rfl,λi m hi=>by simpa using hb (i+1) m (by simpa using hi)⟩
theorem GQ {n:Nat} {x:V} {bx:List Blk} {blk':Blk} {hp:Hp} (hb:∀(i m:Nat),(Z7 x)[i]? =some m->hp[m]? =bx[i]?) (hne:∀m∈Z7 x,m≠n):J5 hp (n::Z7 x) (blk'::bx)=hp.set n blk':=by
 rw[J5]
 refine jN λi m b hi hbi=> ?_
 have:m≠n:=hne m (A7 hi)
 rw[C3 (N9 this),hb i m hi,hbi]
theorem KJ {t t2 e:TypeId} {d2:TypeDesc} {te:TI} {i:TypeInfo} {z:Value} (ht:P.underlying t=some (.slice e)) (ht2:P.underlying t2=some d2) (hd2:XY d2) (hi:nZ P e te i z) (hpos:0<te.size) (hby:te.bytes<=65536)
 {w:World} {S:Stb} {hp:Hp} {β:Bet} (hr:HR w S hp β) {nf:Nat} (hn:hp[nf]? =some .res) {xs ys:List D} {base:Option Addr} {cap:Nat} {olds:List Value} {cx:Value} {news:List Value}
 (ho:A6p P w S te.size (.slice base xs.length cap) xs base cap olds) (hs:A6q P w S te.size cx ys news) (hfull:cap<xs.length+ys.length) (hroom:xs.length+ys.length<=room) (ty:TypeId):
 ∃w' cv β',(Builtin.append_ #[t,t2] ty #[.slice base xs.length cap,cx]).run P w=.ok cv w'/\HR w' S (hp.set nf (.row 0 te.size false (xs++ys))) β'/\
  VR w' S (hp.set nf (.row 0 te.size false (xs++ys))) β' (.sref nf 0 0 (xs.length+ys.length) false) cv/\F7 w S hp β w' S (hp.set nf (.row 0 te.size false (xs++ys))) β':=by
 unfold room at hroom
 have hbb:(xs.length+ys.length)*te.bytes<=140737488355328:=by
  have:=G6 hroom hby
  omega
 have hrun:=tQ (P:=P) ht ht2 hd2 hi (w:=w) hs.arg (base:=base) (sLen:=xs.length) (sCap:=cap) (λw' hw'=>ho.first w' hw') (λw' hw'=>hs.first w' hw') hfull (by omega) hbb ty
 obtain⟨d1,d2⟩:=drawn hr
 have hge:=grownCap_ge w (xs.length+ys.length) cap e
 have hzs:z.cells.size=te.size:=by
  have:=(gZ hi.zs).1
  rw[hi.zlen] at this
  simpa using this.symm
 have hcs:(olds.toArray++news.toArray++Builtin.zeroCells z.cells (grownCap w (xs.length+ys.length) cap e-(xs.length+ys.length))).size=grownCap w (xs.length+ys.length) cap e*te.size:=by
  simp only[Array.size_append,M5,size_zeroCells,hzs,ho.len,hs.len,<-H5]
  congr 1;omega
 obtain⟨β',r1,r2,r3⟩:=CB d1 hn e (olds.toArray++news.toArray++Builtin.zeroCells z.cells (grownCap w (xs.length+ys.length) cap e-(xs.length+ys.length))) te.size (xs.length+ys.length) (grownCap w (xs.length+ys.length) cap e) (xs++ys) hpos
  (rC ho.both hs.both) (by rw[hcs,B4];exact D6 _ hge) (by rw[hcs];exact B1 _) hge (λk x j c hx hc=>by
    obtain⟨u,h1,h2⟩:=IX ho.len (λi x j c hx hc=>by obtain⟨u,a,b,_⟩:=ho.cells i x j c hx hc;exact⟨u,a,b⟩) ho.sizes hs.cells k x j c hx hc
    refine⟨u,?_,h2.evol (λ_ _ h=>h) (λ_ _ _=>rfl)⟩
    have hlt:=(A4.1 h1).1
    rw[V6 (by simpa using hlt)]
    simpa using h1)
 exact⟨_,_,β',hrun,r1,r3,d2.trans r2⟩
theorem kN {w:World} {S:Stb} {hp:Hp} {β:Bet} (hr:HR w S hp β) {n:Nat} {blk:Blk} (hn:hp[n]? =some blk) (hnone:β[n]? =some none) (ver sz:Nat) (ro:Bool) (hsz:0<sz) (hev:BEv blk (some none) (.row ver sz ro []) (some none)) (a:Option Addr):
 HR w S (hp.set n (.row ver sz ro [])) β/\F7 w S hp β w S (hp.set n (.row ver sz ro [])) β/\VR w S (hp.set n (.row ver sz ro [])) β (.sref n ver 0 0 false) (.slice a 0 0):=by
 have hnl:n<hp.length:=(A4.1 hn).1
 have J3:β.set n none=β:=fT hnone
 obtain⟨r1,r2⟩:=upd hr hn (blk':=.row ver sz ro []) none (w':=w) (B1 _) (λ_ _ _=>rfl) (λi p c e f hp=>by rw[hnone] at hp;simp at hp) (λi p l hp=>by rw[hnone] at hp;simp at hp) (λ_=>rfl)
  (λ_ _ _ _ _=>rfl) (λb p h=>by cases h) (by rw[hnone];exact hev) (λE=>⟨hsz,by simp,.inl ⟨rfl,by rw[J3];exact hnone⟩⟩)
 rw[J3] at r1 r2
 refine⟨r1,r2,.sref rfl ⟨a,0,rfl,B1 _,by simp,?_⟩⟩
 have:(hp.set n (Blk.row ver sz ro []))[n]? =some (.row ver sz ro []):=by simp[hnl]
 rw[this]
 exact⟨B1 _,λ_=>.inl ⟨hnone,rfl⟩⟩
theorem A0v {t t2 e:TypeId} {d2:TypeDesc} {te:TI} {i:TypeInfo} {z:Value} (ht:P.underlying t=some (.slice e)) (ht2:P.underlying t2=some d2) (hd2:XY d2) (hi:nZ P e te i z) (hpos:0<te.size) (hby:te.bytes<=65536)
 {w:World} {S:Stb} {hp:Hp} {β:Bet} (hr:HR w S hp β) {n ver lo len:Nat} {ro:Bool} {xs ys:List D} (hn:hp[n]? =some (.row ver te.size ro xs)) {sv:Value} (hsv:VR w S hp β (.sref n ver lo len false) sv) (hend:lo+len=xs.length)
 {cx:Value} {news:List Value} (hs:A6q P w S te.size cx ys news) (hroom:len+ys.length<=room) (ty:TypeId):
 ∃w' cv β',(Builtin.append_ #[t,t2] ty #[sv,cx]).run P w=.ok cv w'/\HR w' S (hp.set n (.row (ver+1) te.size ro (xs.drop lo++ys))) β'/\
  VR w' S (hp.set n (.row (ver+1) te.size ro (xs.drop lo++ys))) β' (.sref n (ver+1) 0 (len+ys.length) false) cv/\F7 w S hp β w' S (hp.set n (.row (ver+1) te.size ro (xs.drop lo++ys))) β':=by
 have hnl:n<hp.length:=(A4.1 hn).1
 have hxl:(xs.drop lo).length=len:=by simp;omega
 have hev:∀t1 t2,BEv (.row ver te.size ro xs) t1 (.row (ver+1) te.size ro (xs.drop lo++ys)) t2:=λ_ _=>.inr ⟨ver+1,ro,_,rfl,by omega,λh=>by omega⟩
 have hget:(hp.set n (Blk.row (ver+1) te.size ro (xs.drop lo++ys)))[n]? =some (.row (ver+1) te.size ro (xs.drop lo++ys)):=by simp[hnl]
 obtain⟨base0,cap0,olds,hso⟩:=ElK.src (P:=P) (x:=.sref n ver lo len false) (bx:=[.row ver te.size ro xs]) (sz:=te.size) (ys:=(xs.drop lo).take len)
  (.inr (.inl ⟨n,ver,lo,len,false,ro,xs,rfl,rfl,by omega,rfl⟩)) hpos (.inl rfl) hr (λi m hi=>by
    cases i with
    |zero=>simp[Z7] at hi;subst hi;simpa using hn
    |succ i=>simp[Z7] at hi) hsv
 have htk:(xs.drop lo).take len=xs.drop lo:=C7 (by omega)
 rw[htk] at hso
 cases hsv with
 |sref g0 g=>
  obtain⟨a,cap,rfl,g1,_,g3⟩:=g
  rw[hn] at g3
  obtain⟨_,g3⟩:=g3
  have hval:=hso.val
  simp at hval
  obtain⟨rfl,hlen',rfl⟩:=hval
  by_cases hstay:len+ys.length<=cap
  ·
   rcases g3 rfl with⟨c1,c2⟩|⟨b,base,cells,el,fz,c1,c2,c3,c4⟩
   ·
    subst c2
    have hl0:len=0:=by omega
    have hy0:ys=[]:=E7 (by omega)
    subst hl0;subst hy0
    have hx0:xs.drop lo=[]:=E7 hxl
    have hn0:news=[]:=E7 (by simpa using hs.len)
    subst hn0
    obtain⟨r1,r2,r3⟩:=kN hr hn c1 (ver+1) te.size ro hpos (by have:=hev (some none) (some none);rw[hx0] at this;simpa using this) a
    rw[hx0]
    refine⟨w,_,β,gI (P:=P) ht ht2 hd2 hi (base:=a) (sLen:=0) (sCap:=0) hs.arg (hs.first w rfl) (by simp) (w':=w) ?_ ty,r1,r3,r2⟩
    cases a<;>simp[storeCells]
   ·obtain⟨_,k1,k2⟩:=hr.blk n _ hn
    rcases k2 with⟨_,e2'⟩|⟨b',base',cells',el',e1',e2',e3',e4',e5'⟩
    ·rw[c1] at e2';simp at e2'
    ·rw[c1] at e1';simp at e1';obtain⟨rfl,rfl⟩:=e1'
     rw[c3] at e2';simp at e2';obtain⟨rfl,rfl,rfl⟩:=e2'
     have hlo:lo*te.size+len*te.size=xs.length*te.size:=by rw[<-H5,hend]
     have hcapsz:base+lo*te.size+cap*te.size<=cells.size:=by rw[H5] at c4;omega
     have hlc:base+lo*te.size+len*te.size+news.length<=cells.toList.length:=by
      rw[hs.len]
      have:=D6 te.size hstay
      rw[H5] at this
      simp only[F6];omega
     have hol:=bK hlc
     have hone:∀v∈news,v.oneCell'=true:=λv hv=>by rw[<-QN];exact hs.one v hv
     have hst:=run_storeCells_at P b (base+lo*te.size+len*te.size) el news 0 cells w c3 (by simpa using hlc) hone
     simp only[W2] at hst
     have hne':(cells.toList.take (base+lo*te.size+len*te.size)++news++cells.toList.drop (base+lo*te.size+len*te.size+news.length)).toArray=(ov cells.toList (base+lo*te.size+len*te.size) news).toArray:=rfl
     rw[hne'] at hst
     have holds:∀(i:Nat) (x:D) (j:Nat) (c:D),(xs.drop lo)[i]? =some x->x.cells[j]? =some c->∃u,cells[base+lo*te.size+(i*te.size+j)]? =some u/\DR w S c u/\i*te.size+j<len*te.size:=λi x j c hx hc=>by
      have hx':xs[lo+i]? =some x:=by simpa using hx
      obtain⟨u,h1,h2⟩:=e4' _ x j c hx' hc
      have hi:i<len:=by rw[<-hxl];exact(A4.1 hx).1
      have hj:j<te.size:=by rw[<-(k1 _ x hx').1];exact(A4.1 hc).1
      have:=D6 te.size (show i+1<=len from hi)
      rw[P3] at this
      rw[H5] at h1
      exact⟨u,by rw[show base+lo*te.size+(i*te.size+j)=base+(lo*te.size+i*te.size)+j by omega];exact h1,h2,by omega⟩
     obtain⟨r1,r2⟩:=written hr (blk':=.row (ver+1) te.size ro (xs.drop lo++ys)) hn c1 c3 (cells':=(ov cells.toList (base+lo*te.size+len*te.size) news).toArray) (by simp only[M5,hol,F6])
      (base+lo*te.size) (λo ho=>by
        have:=(e5' o ho).2
        simp only[Z6]
        rw[eK hlc,if_pos (by omega)]
        simp) (hev _ _) (λE hβ hh=>by
        refine⟨hpos,rC (λi x hx=>k1 (lo+i) x (by simpa using hx)) hs.both,.inr ⟨b,base+lo*te.size,_,el,hβ,hh,?_,λi x j c hx hc=> ?_,λo ho=> ?_⟩⟩
        ·simp only[M5,hol,F6,B4,hxl]
         rw[hs.len] at hlc
         simp only[F6] at hlc
         rw[H5];omega
        ·simp only[Z6]
         rw[eK hlc]
         by_cases hi:i<len
         ·rw[B8 (by omega)] at hx
          obtain⟨u,h1,h2,h3⟩:=holds i x j c hx hc
          refine⟨u,?_,h2.evol E.sub E.cell⟩
          rw[if_pos (by omega),show base+lo*te.size+i*te.size+j=base+lo*te.size+(i*te.size+j) by omega]
          simpa using h1
         ·rw[B3 (by omega),hxl] at hx
          obtain⟨u,h1,h2,_⟩:=hs.cells _ x j c hx hc
          have hm:len*te.size<=i*te.size:=D6 _ (by omega)
          have hlt:=(A4.1 h1).1
          rw[Nat.sub_mul] at h1 hlt
          refine⟨u,?_,h2.evol E.sub E.cell⟩
          rw[if_neg (by omega),if_pos (by omega),show base+lo*te.size+i*te.size+j-(base+lo*te.size+len*te.size)=i*te.size-len*te.size+j by omega]
          exact h1
        ·obtain⟨q1,q2⟩:=e5' o ho
         refine⟨q1,?_⟩
         simp only[B4,hxl]
         rw[H5];omega)
     have hβ':(β.set n (some (b,base+lo*te.size)))[n]? =some (some (b,base+lo*te.size)):=by
      have:n<β.length:=D3 hnl hr.len
      simp[this]
     refine⟨_,_,_,gI (P:=P) ht ht2 hd2 hi (base:=a) (sLen:=len) (sCap:=cap) hs.arg (hs.first w rfl) hstay (w':=w.setRow b (ov cells.toList (base+lo*te.size+len*te.size) news).toArray) ?_ ty,r1,?_,r2⟩
     ·by_cases hc0:0<cap
      ·rw[c2 hc0]
       simp only[bR]
       exact hst
      ·have hn0:news=[]:=by
        have:ys.length=0:=by omega
        exact E7 (by rw[hs.len,this];simp)
       subst hn0
       have hself:w.setRow b (ov cells.toList (base+lo*te.size+len*te.size) []).toArray=w:=by
        rw[ZA,Y4];exact setRow_self w b cells el (0,0) c3
       rw[hself]
       cases a<;>simp[storeCells]
     ·refine .sref rfl ⟨a,cap,rfl,hstay,by simp,?_⟩
      rw[hget]
      refine⟨B1 _,λ_=>.inr ⟨b,base+lo*te.size,_,el,(0,0),hβ',λh=>by rw[c2 h];simp,setRow_heap w b cells _ el (0,0) c3,?_⟩⟩
      simp only[M5,hol,F6,C1]
      exact hcapsz
  ·
   unfold room at hroom
   have hbb:(len+ys.length)*te.bytes<=140737488355328:=by
    have:=G6 hroom hby
    omega
   have hof:∀w':World,w'.heap=w.heap->(Builtin.firstCells te.size len (.slice a len cap)).run P w'=.ok olds.toArray w':=λw' hw'=>by
    have:=hso.first w' hw'
    rw[hxl] at this
    exact this
   have hrun:=tQ (P:=P) ht ht2 hd2 hi (w:=w) hs.arg (base:=a) (sLen:=len) (sCap:=cap) hof (λw' hw'=>hs.first w' hw') (by omega) (by omega) hbb ty
   have hge:=grownCap_ge w (len+ys.length) cap e
   have hzs:z.cells.size=te.size:=by
    have:=(gZ hi.zs).1
    rw[hi.zlen] at this
    simpa using this.symm
   have hol:olds.length=len*te.size:=by rw[hso.len,hxl]
   have hcs:(olds.toArray++news.toArray++Builtin.zeroCells z.cells (grownCap w (len+ys.length) cap e-(len+ys.length))).size=grownCap w (len+ys.length) cap e*te.size:=by
    simp only[Array.size_append,M5,size_zeroCells,hzs,hol,hs.len,<-H5]
    congr 1;omega
   obtain⟨d1,d2⟩:=drawn hr
   have hother:∀i,i<w.drew.heap.size->(w.drew.alloc (.cells (olds.toArray++news.toArray++Builtin.zeroCells z.cells (grownCap w (len+ys.length) cap e-(len+ys.length))) e)).heap[i]? =w.drew.heap[i]? :=λi hi=>heap_alloc_old w.drew _ i hi
   have hnb:n<β.length:=D3 hnl hr.len
   obtain⟨r1,r2⟩:=upd d1 hn (blk':=.row (ver+1) te.size ro (xs.drop lo++ys)) (some (w.heap.size,0)) (w':=w.drew.alloc (.cells (olds.toArray++news.toArray++Builtin.zeroCells z.cells (grownCap w (len+ys.length) cap e-(len+ys.length))) e))
    (by simp) (λi hi _=>hother i hi) (λi p c e' f hp hi=>⟨c,by rw[hother i (C4.1 hi).1];exact hi,rfl⟩) (λi p l hp hi=>⟨l,by rw[hother i (C4.1 hi).1];exact hi⟩) (λa=>X8 _ _ _ a)
    (λi p o _ hS=>World.cell?_alloc_lt _ _ _ (d1.old i o hS)) (λb p h=>by cases h;exact .inr (B1 _)) (hev _ _) (λE=>by
      refine⟨hpos,rC hso.both hs.both,.inr ⟨w.heap.size,0,_,e,by simp[hnb],heap_alloc_new w.drew _,?_,λk x j c hx hc=> ?_,λo ho=>absurd (hr.old _ _ ho) (by omega)⟩⟩
      ·rw[hcs,B4,hxl,C1];exact D6 _ hge
      ·obtain⟨u,h1,h2⟩:=IX hso.len (λi x j c hx hc=>by obtain⟨u,a,b,_⟩:=hso.cells i x j c hx hc;exact⟨u,a,b⟩) hso.sizes hs.cells k x j c hx hc
       refine⟨u,?_,(h2.evol (S':=S) (λ_ _ h=>h) (λ_ _ _=>rfl)).evol E.sub E.cell⟩
       have hlt:=(A4.1 h1).1
       rw[C1,V6 (by simpa using hlt)]
       simpa using h1)
   refine⟨_,_,_,hrun,r1,.sref rfl ⟨_,_,rfl,hge,by simp,?_⟩,d2.trans r2⟩
   rw[hget]
   refine⟨B1 _,λ_=>.inr ⟨w.heap.size,0,_,e,(0,0),by simp[hnb],λ_=>by simp,heap_alloc_new w.drew _,?_⟩⟩
   rw[hcs];simp
theorem GH {x:V} {bx:List Blk} {sz:Nat} {ys:List D} (h:ElA x bx sz ys) {hp:Hp} (hb:∀(i m:Nat),(Z7 x)[i]? =some m->hp[m]? =bx[i]?):∀m∈Z7 x,hp[m]? ≠some .res:=by
 rcases h with h|⟨b,rfl,rfl,rfl,rfl⟩
 case inr=>intro m hm;simp[Z7] at hm
 rcases h with⟨full,rfl,rfl⟩|⟨m,ver,lo,len,full,ro,xs,rfl,rfl,_,_⟩|⟨m,ver,lo,len,full,cs,rfl,rfl,_,_,_⟩
 ·intro m hm;simp[Z7] at hm
 ·intro k hk
  simp[Z7] at hk;subst hk
  have:hp[k]? =some (.row ver sz ro xs):=by simpa[Z7] using hb 0 k rfl
  rw[this];intro h;cases h
 ·intro k hk
  simp[Z7] at hk;subst hk
  have:hp[k]? =some (.vard cs):=by simpa[Z7] using hb 0 k rfl
  rw[this];intro h;cases h
theorem LX (hT:W9 P T=true) {o:Oper} {c:Call} {t t2:TypeId} (ho:o.op=.call c) (hc:c.callee=.builtin .append) (hty:c.argTypes.toList=[t,t2]) (ht2:(vH T t2||pJ T t2)=true) {s x:V} {nf:Nat} {bs:List Blk} {K:Kt}
 (h:SQ T t s x nf bs K) (hbs:∀b,bs[0]? =some b->(dA s x nf)[0]? =some nf->b=.res):∃v bs',K v bs'/\OpS P o [s,x] (dA s x nf) bs bs' v:=by
 have hu2:∃d2,P.underlying t2=some d2/\XY d2:=by
  rw[Q6] at ht2
  rcases ht2 with ht2|ht2
  ·unfold vH at ht2
   cases hh:J8 T t2 with
   |none=>simp[hh] at ht2
   |some ti=>
    simp only[hh] at ht2
    cases hk:ti.kind<;>simp[hk] at ht2
    exact⟨_,P8 (H7 hT hh) hk,.inl ⟨_,rfl⟩⟩
  ·unfold pJ at ht2
   cases hh:J8 T t2 with
   |none=>simp[hh] at ht2
   |some ti=>
    simp only[hh] at ht2
    cases hk:ti.kind<;>simp[hk] at ht2
    exact⟨_,X0 (H7 hT hh) hk,.inr rfl⟩
 obtain⟨d2,hu2,hd2⟩:=hu2
 have hct:c.argTypes= #[t,t2]:=by cases hh:c.argTypes;simp_all
 have hexec:∀(ρ:Operand->Value) (w w':World) (xs xx:Operand) (cv:Value),c.args.toList=[xs,xx]->(Builtin.append_ #[t,t2] o.type #[ρ xs,ρ xx]).run P w=.ok cv w'->(execOp ρ o).run P w=.ok (.value cv) w':=by
  intro ρ w w' xs xx cv ha hr
  have ha':c.args= #[xs,xx]:=by cases hh:c.args;simp_all
  simp[execOp,ho,resolve,hc,invoke,builtin,ha',hct,hr]
 have harg:∀{w:World} {S:Stb} {hp:Hp} {β:Bet} {ρ:Operand->Value},OR w S hp β ρ (F9 o.op) [s,x]->∃xs xx,c.args.toList=[xs,xx]/\VR w S hp β s (ρ xs)/\VR w S hp β x (ρ xx):=by
  intro w S hp β ρ hor
  have hor':OR w S hp β ρ c.args.toList [s,x]:=by simpa[ho,F9] using hor
  match hm:c.args.toList,hor'.1 with
  |[y,z],_=>exact⟨y,z,rfl,by rw[hm] at hor';exact hor'.two.1,by rw[hm] at hor';exact hor'.two.2⟩
 unfold SQ at h
 cases hh:J8 T t with
 |none=>simp[hh] at h
 |some ti=>
  simp only[hh] at h
  split at h
  ·rename_i e hk
   have hu:=P8 (H7 hT hh) hk
   cases hte:J8 T e with
   |none=>simp[hte] at h
   |some te=>
    simp only[hte] at h
    obtain⟨i,z,hi⟩:=S5 (H7 hT hte)
    replace h:=(J1 _ _).1 h
    obtain⟨hchk,h⟩:=h
    simp only[C8] at hchk
    have hby:=B5 hchk.1
    have hpos:0<te.size:=B5 hchk.2
    clear hchk
    split at h
    ·
     rename_i szx xs b0 bx
     replace h:=yE h
     obtain⟨sz,ys,h,hel⟩:=h
     replace h:=(J1 _ _).1 h
     obtain⟨hsz,h⟩:=h
     simp only[C8,Q6] at hsz
     have hszx:szx=te.size∨szx=0:=hsz.1.imp B2 B2
     have hszy:sz=te.size∨sz=0:=hsz.2.imp B2 B2
     have hor2:=h.elim
     clear h
     rcases hor2 with h|h
     ·replace h:=h.elim
      obtain⟨⟨hxy,hroom⟩,h⟩:=h
      refine⟨_,_,h,λρ w S hp β hr hor hb=> ?_⟩
      have hb0:b0=.res:=hbs b0 rfl rfl
      subst hb0
      obtain⟨hn,hbx⟩:=AT (n:=nf) hb
      obtain⟨xs',xx,ha,hv1,hv2⟩:=harg hor
      obtain⟨news,hs⟩:=hel.src (P:=P) hpos hszy hr hbx hv2
      obtain⟨base,cap,olds,hso⟩:=ElK.src (P:=P) (x:=.d (.sl szx true xs)) (bx:=[]) (.inl ⟨true,rfl,rfl⟩) hpos hszx hr (λi m hi=>by simp[Z7] at hi) hv1
      have hcap:cap=xs.length:=by
       have hval:=hso.val
       generalize ρ xs'=cw at hv1 hval
       cases hv1 with
       |d hd=>
        subst hval
        cases hd with
        |sl _ _ _ _ _ b off uf q1 q2=>exact q2 rfl
      have hne:∀m∈Z7 x,m≠nf:=λm hm e=>by
       exact GH hel hbx m hm (by rw[e,hn])
      have J3:=GQ (blk':=.row 0 te.size false (xs++ys)) hbx hne
      show ∃nx w' S' β' cv,_/\_/\HR w' S' (J5 hp (nf::Z7 x) _) β'/\VR w' S' (J5 hp (nf::Z7 x) _) β' _ cv/\F7 w S hp β w' S' (J5 hp (nf::Z7 x) _) β'
      rw[J3]
      rcases H3 ys.length with hy0|hy0
      ·have hy:ys=[]:=E7 hy0
       have hx:xs=[]:=hxy.resolve_right (λh=>h hy)
       subst hy;subst hx
       have hc0:cap=0:=hcap
       subst hc0
       have hn0:news=[]:=E7 (by simpa using hs.len)
       subst hn0
       have hnone:β[nf]? =some none:=by have:=hr.blk nf _ hn;simpa[BR] using this
       obtain⟨r1,r2,r3⟩:=kN hr hn hnone 0 te.size false hpos (by simp[BEv]) base
       refine⟨_,w,S,β,_,hexec ρ w w xs' xx _ ha ?_,.inl rfl,r1,r3,r2⟩
       rw[hso.val]
       have:=gI (P:=P) hu hu2 hd2 hi (w:=w) (w':=w) (base:=base) (sLen:=0) (sCap:=0) hs.arg (hs.first w rfl) (by simp) (by cases base<;>simp[storeCells]) o.type
       simpa using this
      ·have hval:=hso.val
       rw[hval] at hso
       obtain⟨w',cv,β',e1,e3,e4,e5⟩:=KJ (P:=P) hu hu2 hd2 hi hpos hby hr hn hso hs (by omega) hroom o.type
       exact⟨_,w',S,β',cv,hexec ρ w w' xs' xx cv ha (by rw[hval];exact e1),.inl rfl,e3,e4,e5⟩
     ·replace h:=h.elim
      obtain⟨hy,h⟩:=h
      subst hy
      refine⟨_,_,h,λρ w S hp β hr hor hb=> ?_⟩
      have hb0:b0=.res:=hbs b0 rfl rfl
      subst hb0
      obtain⟨hn,hbx⟩:=AT (n:=nf) hb
      obtain⟨xs',xx,ha,hv1,hv2⟩:=harg hor
      obtain⟨news,hs⟩:=hel.src (P:=P) hpos hszy hr hbx hv2
      obtain⟨base,cap,olds,hso⟩:=ElK.src (P:=P) (x:=.d (.sl szx true xs)) (bx:=[]) (.inl ⟨true,rfl,rfl⟩) hpos hszx hr (λi m hi=>by simp[Z7] at hi) hv1
      have hle:xs.length<=cap:=by
       have hval:=hso.val
       have hv1':=hv1
       generalize ρ xs'=cw at hv1' hval
       cases hv1' with
       |d hd=>
        subst hval
        cases hd with
        |sl _ _ _ _ _ b off uf q1 q2=>exact q1
      have hn0:news=[]:=E7 (by simpa using hs.len)
      subst hn0
      have hne:∀m∈Z7 x,m≠nf:=λm hm e=>by
       exact GH hel hbx m hm (by rw[e,hn])
      have J3:=GQ (blk':=.res) hbx hne
      have hself:hp.set nf .res=hp:=fT hn
      rw[hself] at J3
      show ∃nx w' S' β' cv,_/\_/\HR w' S' (J5 hp (nf::Z7 x) _) β'/\VR w' S' (J5 hp (nf::Z7 x) _) β' _ cv/\F7 w S hp β w' S' (J5 hp (nf::Z7 x) _) β'
      rw[J3]
      refine⟨_,w,S,β,ρ xs',hexec ρ w w xs' xx _ ha ?_,.inl rfl,hr,hv1,F7.refl _ _ _ _⟩
      rw[hso.val]
      have:=gI (P:=P) hu hu2 hd2 hi (w:=w) (w':=w) (base:=base) (sLen:=xs.length) (sCap:=cap) hs.arg (hs.first w rfl) (by simpa using hle) (by cases base<;>simp[storeCells]) o.type
      simpa using this
    ·
     rename_i n ver lo len ver' sz' ro xs bx
     split at h
     ·rename_i hall
      replace h:=yE h
      obtain⟨sz,ys,h,hel⟩:=h
      replace h:=(J1 _ _).1 h
      obtain⟨hsz,h⟩:=h
      simp only[C8,Q6] at hsz
      have hs1:=B2 hsz.1
      subst hs1
      have hszy:sz=te.size∨sz=0:=hsz.2.imp B2 B2
      replace h:=h.elim
      obtain⟨⟨hver,hend,hroom⟩,h⟩:=h
      subst hver
      refine⟨_,_,h,λρ w S hp β hr hor hb=> ?_⟩
      obtain⟨hn,hbx⟩:=AT (n:=n) hb
      obtain⟨xs',xx,ha,hv1,hv2⟩:=harg hor
      obtain⟨news,hs⟩:=hel.src (P:=P) hpos hszy hr hbx hv2
      have hne:∀m∈Z7 x,m≠n:=λm hm e=>by
       have:=C5.1 hall m hm
       subst e
       simp at this
      have hdl:X1 xs lo=xs.drop lo:=by cases lo<;>rfl
      have J3:=GQ (blk':=.row (ver+1) te.size ro (X1 xs lo++ys)) hbx hne
      show ∃nx w' S' β' cv,_/\_/\HR w' S' (J5 hp (n::Z7 x) _) β'/\VR w' S' (J5 hp (n::Z7 x) _) β' _ cv/\F7 w S hp β w' S' (J5 hp (n::Z7 x) _) β'
      rw[J3,hdl]
      obtain⟨w',cv,β',e1,e3,e4,e5⟩:=A0v (P:=P) hu hu2 hd2 hi hpos hby hr hn hv1 hend hs hroom o.type
      exact⟨_,w',S,β',cv,hexec ρ w w' xs' xx cv ha e1,.inl rfl,e3,e4,e5⟩
     ·exact h.elim
    ·
     rename_i n ver lo len b0 ver' sz' ro xs bx
     replace h:=yE h
     obtain⟨sz,ys,h,hel⟩:=h
     replace h:=(J1 _ _).1 h
     obtain⟨hsz,h⟩:=h
     simp only[C8] at hsz
     have hs1:=B2 hsz.1
     subst hs1
     have hszy:=B2 hsz.2
     replace h:=h.elim
     obtain⟨⟨hver,hle,hyne,hroom⟩,h⟩:=h
     subst hver
     refine⟨_,_,h,λρ w S hp β hr hor hb=> ?_⟩
     have hb0:b0=.res:=hbs b0 rfl rfl
     subst hb0
     have hn:hp[nf]? =some .res:=by simpa[dA] using hb 0 nf rfl
     have hnr:hp[n]? =some (.row ver te.size ro xs):=by simpa[dA] using hb 1 n rfl
     have hbx:∀(i m:Nat),(Z7 x)[i]? =some m->hp[m]? =bx[i]? :=λi m hm=>by simpa[dA] using hb (i+2) m (by simpa[dA] using hm)
     obtain⟨xs',xx,ha,hv1,hv2⟩:=harg hor
     obtain⟨news,hs⟩:=hel.src (P:=P) hpos (.inl hszy) hr hbx hv2
     obtain⟨base,cap,olds,hso⟩:=ElK.src (P:=P) (x:=.sref n ver lo len true) (bx:=[.row ver te.size ro xs]) (sz:=te.size) (ys:=(xs.drop lo).take len) (.inr (.inl ⟨n,ver,lo,len,true,ro,xs,rfl,rfl,hle,rfl⟩)) hpos (.inl rfl) hr (λi m hi=>by
      cases i with
      |zero=>simp[Z7] at hi;subst hi;simpa using hnr
      |succ i=>simp[Z7] at hi) hv1
     have hxl:((xs.drop lo).take len).length=len:=by simp;omega
     have hcap:cap=len:=by
      have hval:=hso.val
      generalize ρ xs'=cw at hv1 hval
      cases hv1 with
      |sref g0 g=>
       obtain⟨a',cap',hv',_,hf,_⟩:=g
       rw[hv'] at hval;simp at hval
       rw[<-hval.2.2];exact hf rfl
     have hnn:n≠nf:=λe=>by rw[e,hn] at hnr;cases hnr
     have hdl:X1 xs lo=xs.drop lo:=by cases lo<;>rfl
     have J3:J5 hp (nf::n::Z7 x) (.row 0 te.size false ((X1 xs lo).take len++ys):: .row ver te.size ro xs::bx)=hp.set nf (.row 0 te.size false ((xs.drop lo).take len++ys)):=by
      rw[J5,hdl]
      refine jN λi m b hi hbi=> ?_
      have hm:m≠nf:=λe=>by
       cases i with
       |zero=>simp at hi;exact hnn (hi.trans e)
       |succ i=>
        exact GH hel hbx m (A7 (by simpa using hi)) (by rw[e,hn])
      rw[C3 (N9 hm)]
      cases i with
      |zero=>simp at hi hbi;subst hi;subst hbi;exact hnr
      |succ i=>rw[hbx i m (by simpa using hi)];simpa using hbi
     show ∃nx w' S' β' cv,_/\_/\HR w' S' (J5 hp (nf::n::Z7 x) _) β'/\VR w' S' (J5 hp (nf::n::Z7 x) _) β' _ cv/\F7 w S hp β w' S' (J5 hp (nf::n::Z7 x) _) β'
     rw[J3]
     have hval:=hso.val
     rw[hval] at hso
     have hypos:0<ys.length:=lE.2 hyne
     obtain⟨w',cv,β',e1,e3,e4,e5⟩:=KJ (P:=P) hu hu2 hd2 hi hpos hby hr hn hso hs (by omega) (by omega) o.type
     rw[hxl] at e4
     exact⟨_,w',S,β',cv,hexec ρ w w' xs' xx cv ha (by rw[hval];exact e1),.inl rfl,e3,e4,e5⟩
    ·exact h.elim
  ·exact h.elim
theorem A8p {zs:List D} {c:Array Value} {o n:Nat} {w:World} {S:Stb} (hl:c.size=zs.length) (hz1:o+n<=zs.length) (hzc:∀(j:Nat) (x:D) (y:Value),zs[j]? =some x->c[j]? =some y->DR w S x y):
 (c.extract o (o+n)).size=((zs.drop o).take n).length/\∀(j:Nat) (x:D) (y:Value),((zs.drop o).take n)[j]? =some x->(c.extract o (o+n))[j]? =some y->DR w S x y:=by
 refine⟨by simp;omega,λj x y hj hjy=> ?_⟩
 have hj':=bM hj
 have hjn:j<n:=by rw[gQ] at hj;split at hj<;>first|assumption|cases hj
 have:=oS c o n j (by omega)
 rw[if_pos hjn,L1,hjy] at this
 exact hzc _ x y hj' this.symm
def KR (w:World) (S:Stb) (agg:Bool) (xs:List D) (v:Value):Prop:=
 match agg with
 |true=>∃a,v=.agg a/\a.size=xs.length/\∀(j:Nat) (x:D) (y:Value),xs[j]? =some x->a[j]? =some y->DR w S x y
 |false=>∀c,xs=[c]->DR w S c v
theorem KR.part {t:TypeId} {ti:TI} (h:dO P t ti=true) (hpos:ti.size≠0) {w:World} {S:Stb} {xs:List D} {a:Array Value} (hl:a.size=xs.length) {o:Nat} (hz:o+ti.size<=xs.length) (hc:∀(j:Nat) (x:D) (y:Value),xs[j]? =some x->a[j]? =some y->DR w S x y):
 ∃v,(part t a o).run P w=.ok v w/\KR w S (G8 ti) ((xs.drop o).take ti.size) v:=by
 cases hag:G8 ti with
 |true=>exact⟨_,iQ h hag w a o,_,rfl,A8p hl hz hc⟩
 |false=>
  have g1:o<a.size:=by omega
  refine⟨_,cW h hag w (B7 g1),λc hcc=> ?_⟩
  have:xs[o+0]? =some c:=bM (by rw[hcc];rfl)
  exact hc _ c _ this (B7 g1)
theorem sK {n d:Nat} {e:Bool} (hT:W9 P T=true) (ih:∀(t:TypeId) (xs:List D),V1 T n t xs=true->∀(w:World) (S:Stb) (ti:TI),J8 T t=some ti->∀v,KR w S (G8 ti) xs v->(Instr.checkKey e d t v).run P w=.ok () w)
 {xs:List D} {w:World} {S:Stb} {a:Array Value} (hl:a.size=xs.length) (hc:∀(j:Nat) (x:D) (y:Value),xs[j]? =some x->a[j]? =some y->DR w S x y):
 ∀(fs:List (Nat×TypeId)) (fields:List Field) (off:Nat),T3 P fs fields=true->kG T (V1 T n) xs off fs=true->
  ((forIn fields PUnit.unit λ(f:Field) (_:PUnit)=>(if f.name≠ "_" then(do
    let v <-part f.type a f.offset
    Instr.checkKey e d f.type v
    pure (ForInStep.yield PUnit.unit)) else pure (ForInStep.yield PUnit.unit):Sem (ForInStep PUnit))):Sem PUnit).run P w=.ok PUnit.unit w
 |[],[],_,_,_=>by simp
 |[],_::_,_,h,_=>by simp[T3] at h
 |_::_,[],_,h,_=>by simp[T3] at h
 |p::fs,f::fields,off,h,hx=>by
  simp only[T3,C8,F3] at h
  obtain⟨⟨⟨⟨h1,h2⟩,h3⟩,h4⟩,h5⟩:=h
  simp only[kG] at hx
  cases hty:J8 T p.2 with
  |none=>simp[hty] at hx
  |some ti=>
   have hti:=H7 hT hty
   simp only[hty,C8] at hx
   obtain⟨⟨⟨hx0,hx1⟩,hx2⟩,hx3⟩:=hx
   have hx0:=B2 hx0
   subst hx0
   have hx1:=B5 hx1
   have hs:ti.size≠0:=by
    obtain⟨i,z,hi⟩:=S5 hti
    unfold Program.cellsOf at h4
    rw[<-h2,hi.info] at h4
    simp[hi.size] at h4
    exact h4
   obtain⟨v,e1,e2⟩:=KR.part hti hs hl hx1 hc
   rw[h1,h2] at e1
   have e3:=ih p.2 _ hx2 w S ti hty v e2
   rw[h2] at e3
   have rest:=sK hT ih hl hc fs fields _ h5 hx3
   simp only[List.forIn_cons,Sem.run_bind,if_pos h3,e1,e3,Result.andThen_ok,Sem.run_pure,ne_eq]
   exact rest
theorem jO (hT:W9 P T=true) {e:Bool}:∀(n d:Nat),n<=d->∀(t:TypeId) (xs:List D),V1 T n t xs=true->∀(w:World) (S:Stb) (ti:TI),J8 T t=some ti->∀v,KR w S (G8 ti) xs v->(Instr.checkKey e d t v).run P w=.ok () w
 |0,d,_,t,xs,h,_,_,_,_,_,_=>by simp[V1] at h
 |n+1,0,h,_,_,_,_,_,_,_,_,_=>by omega
 |n+1,d+1,hnd,t,xs,hx,w,S,ti,hty,v,hv=>by
  have hti:=H7 hT hty
  simp only[V1,hty] at hx
  cases hk:ti.kind with
  |str fs=>
   simp only[hk] at hx
   obtain⟨fields,f1,f2,_,_⟩:=iX hti hk
   have hag:G8 ti=true:=by simp[G8,hk]
   rw[hag] at hv
   obtain⟨a,rfl,hl,hc⟩:=hv
   have:=sK (e:=e) (d:=d) hT (jO hT n d (by omega)) hl hc fs fields.toList 0 f2 hx
   simp only[Instr.checkKey,Sem.run_bind,run_underlying f1,Result.andThen_ok]
   rw[<-Array.forIn_toList,this]
   simp
  |bool=>
   simp only[hk] at hx
   obtain⟨x,rfl⟩:=eN hx
   have hag:G8 ti=false:=by simp[G8,hk]
   rw[hag] at hv
   have:=hv _ rfl;cases this
   simp[Instr.checkKey,run_underlying (jU hti hk)]
  |int k=>
   simp only[hk] at hx
   obtain⟨x,rfl⟩:=gT hx
   have hag:G8 ti=false:=by simp[G8,hk]
   rw[hag] at hv
   have:=hv _ rfl;cases this
   simp[Instr.checkKey,run_underlying (fZ hti hk)]
  |string=>
   simp only[hk] at hx
   obtain⟨x,rfl⟩:=cB hx
   have hag:G8 ti=false:=by simp[G8,hk]
   rw[hag] at hv
   have:=hv _ rfl;cases this
   simp[Instr.checkKey,run_underlying (X0 hti hk)]
  |arr m e=>simp[hk,X7] at hx
  |slice e=>simp[hk,X7] at hx
  |map k e=>simp[hk,X7] at hx
  |other=>simp[hk,X7] at hx
def oQ (T:TT) (kt:TypeId) (k:D):List (D×D)->List MapEntry->Nat->Option (Nat×Value)
 |p::es,m::ms,i=>if eqD T 4 kt k.cells p.1.cells then some (i,m.val) else oQ T kt k es ms (i+1)
 |_,_,_=>none
theorem A5h (hT:W9 P T=true) {kt:TypeId} {ti:TI} (hty:J8 T kt=some ti) {k k':D} (h1:V1 T 4 kt k.cells=true) (h2:V1 T 4 kt k'.cells=true) {w:World} {S:Stb} {v v':Value}
 (hv:KR w S (G8 ti) k.cells v) (hv':KR w S (G8 ti) k'.cells v'):(Op.equal kt v v').run P w=.ok (eqD T 4 kt k.cells k'.cells) w:=by
 have:=lJ hT 4 10000 (by omega) kt _ _ h1 h2 w S ti hty
 cases hag:G8 ti with
 |true=>
  rw[hag] at hv hv'
  obtain⟨a,rfl,a1,a2⟩:=hv
  obtain⟨b,rfl,b1,b2⟩:=hv'
  exact this.1 hag a b a2 b2 a1 b1
 |false=>
  rw[hag] at hv hv'
  exact this.2 hag v v' hv hv'
theorem tO (hT:W9 P T=true) {kt:TypeId} {ti:TI} (hty:J8 T kt=some ti) {k:D} (h1:V1 T 4 kt k.cells=true) {w:World} {S:Stb} {v:Value} (hv:KR w S (G8 ti) k.cells v):
 ∀(es:List (D×D)) (ms:List MapEntry) (i:Nat),ms.length=es.length->(∀(j:Nat) (p:D×D) (m:MapEntry),es[j]? =some p->ms[j]? =some m->V1 T 4 kt p.1.cells=true/\KR w S (G8 ti) p.1.cells m.key)->
  (Instr.findAsking kt v ms i).run P w=.ok (oQ T kt k es ms i) w
 |[],[],i,_,_=>by simp[Instr.findAsking,oQ]
 |[],_::_,_,h,_=>by simp at h
 |_::_,[],_,h,_=>by simp at h
 |p::es,m::ms,i,hl,hh=>by
  obtain⟨a,b⟩:=hh 0 p m rfl rfl
  have e1:=A5h hT hty h1 a hv b
  have ih:=tO hT hty h1 hv es ms (i+1) (by simpa using hl) (λj p m hp hm=>hh (j+1) p m (by simpa using hp) (by simpa using hm))
  simp only[Instr.findAsking,Sem.run_bind,e1,Result.andThen_ok,oQ]
  cases eqD T 4 kt k.cells p.1.cells
  ·simpa using ih
  ·simp
theorem oR {kt:TypeId} {ti:TI} {desc:TypeDesc} {k:D} {w:World} {S:Stb} {v:Value} (hty:J8 T kt=some ti) (h1:V1 T 4 kt k.cells=true) (hv:KR w S (G8 ti) k.cells v)
 (hd:(ti.kind=.bool/\desc=.bool)∨(∃kd,ti.kind=.int kd/\desc=.int kd)∨(ti.kind=.string/\desc=.string)):
 ∀(es:List (D×D)) (ms:List MapEntry) (i:Nat),ms.length=es.length->(∀(j:Nat) (p:D×D) (m:MapEntry),es[j]? =some p->ms[j]? =some m->V1 T 4 kt p.1.cells=true/\KR w S (G8 ti) p.1.cells m.key)->
  Instr.findNow desc v ms i=some (oQ T kt k es ms i)
 |[],[],i,_,_=>by simp[Instr.findNow,oQ]
 |[],_::_,_,h,_=>by simp at h
 |_::_,[],_,h,_=>by simp at h
 |p::es,m::ms,i,hl,hh=>by
  obtain⟨a,b⟩:=hh 0 p m rfl rfl
  have ih:=oR hty h1 hv hd es ms (i+1) (by simpa using hl) (λj p m hp hm=>hh (j+1) p m (by simpa using hp) (by simpa using hm))
  have same:Instr.sameNow desc v m.key=some (eqD T 4 kt k.cells p.1.cells):=by
   simp only[V1,hty] at h1 a
   simp only[eqD,hty]
   rcases hd with⟨hk,rfl⟩|⟨kd,hk,rfl⟩|⟨hk,rfl⟩
   ·have hag:G8 ti=false:=by simp[G8,hk]
    rw[hag] at hv b
    simp only[hk] at h1 a ⊢
    obtain⟨x,hx⟩:=eN h1
    obtain⟨y,hy⟩:=eN a
    have e1:=hv _ hx
    have e2:=b _ hy
    rw[hx,hy]
    generalize m.key=mk at e2 ⊢
    cases e1;cases e2
    rfl
   ·have hag:G8 ti=false:=by simp[G8,hk]
    rw[hag] at hv b
    simp only[hk] at h1 a ⊢
    obtain⟨x,hx⟩:=gT h1
    obtain⟨y,hy⟩:=gT a
    have e1:=hv _ hx
    have e2:=b _ hy
    rw[hx,hy]
    generalize m.key=mk at e2 ⊢
    cases e1;cases e2
    simp[Instr.sameNow,eq1]
   ·have hag:G8 ti=false:=by simp[G8,hk]
    rw[hag] at hv b
    simp only[hk] at h1 a ⊢
    obtain⟨x,hx⟩:=cB h1
    obtain⟨y,hy⟩:=cB a
    have e1:=hv _ hx
    have e2:=b _ hy
    rw[hx,hy]
    generalize m.key=mk at e2 ⊢
    cases e1;cases e2
    simp[Instr.sameNow,eq1,beq_toListBytes]
  simp only[Instr.findNow,same,oQ]
  cases eqD T 4 kt k.cells p.1.cells
  ·simpa using ih
  ·simp
theorem run_findKey (hT:W9 P T=true) {kt:TypeId} {ti:TI} (hty:J8 T kt=some ti) {k:D} (h1:V1 T 4 kt k.cells=true) {w:World} {S:Stb} {v:Value} (hv:KR w S (G8 ti) k.cells v)
 (es:List (D×D)) (ms:List MapEntry) (hl:ms.length=es.length) (hh:∀(j:Nat) (p:D×D) (m:MapEntry),es[j]? =some p->ms[j]? =some m->V1 T 4 kt p.1.cells=true/\KR w S (G8 ti) p.1.cells m.key):
 (Instr.findKey kt v ms).run P w=.ok (oQ T kt k es ms 0) w:=by
 have hti:=H7 hT hty
 have ask:=tO hT hty h1 hv es ms 0 hl hh
 have h1':=h1
 simp only[V1,hty] at h1'
 cases hk:ti.kind with
 |str fs=>
  obtain⟨fields,f1,_⟩:=iX hti hk
  have hag:G8 ti=true:=by simp[G8,hk]
  rw[hag] at hv
  obtain⟨a,rfl,_,_⟩:=hv
  simp only[Instr.findKey,Sem.run_bind,run_underlying f1,Result.andThen_ok]
  cases ms with
  |nil=>
   have:es=[]:=E7 (by simpa using hl.symm)
   subst this
   simp[Instr.findNow,oQ]
  |cons m ms=>
   simp only[Instr.findNow,Instr.sameNow]
   exact ask
 |bool=>simp only[Instr.findKey,Sem.run_bind,run_underlying (jU hti hk),Result.andThen_ok,oR hty h1 hv (.inl ⟨hk,rfl⟩) es ms 0 hl hh,Sem.run_pure]
 |int kd=>simp only[Instr.findKey,Sem.run_bind,run_underlying (fZ hti hk),Result.andThen_ok,oR hty h1 hv (.inr (.inl ⟨kd,hk,rfl⟩)) es ms 0 hl hh,Sem.run_pure]
 |string=>simp only[Instr.findKey,Sem.run_bind,run_underlying (X0 hti hk),Result.andThen_ok,oR hty h1 hv (.inr (.inr ⟨hk,rfl⟩)) es ms 0 hl hh,Sem.run_pure]
 |arr m e=>simp[hk,X7] at h1'
 |slice e=>simp[hk,X7] at h1'
 |map k e=>simp[hk,X7] at h1'
 |other=>simp[hk,X7] at h1'
theorem yD {kt:TypeId} {k:D}:∀(es:List (D×D)) (ms:List MapEntry) (i:Nat),ms.length=es.length->
 (oQ T kt k es ms i=none/\cY T kt k es=none/\∀x,nJ T kt k x es=es++[(k,x)])∨
 (∃j p m,es[j]? =some p/\ms[j]? =some m/\oQ T kt k es ms i=some (i+j,m.val)/\cY T kt k es=some p.2/\eqD T 4 kt k.cells p.1.cells=true/\∀x,nJ T kt k x es=es.set j (k,x))
 |[],[],i,_=>.inl ⟨rfl,rfl,λ_=>rfl⟩
 |[],_::_,_,h=>by simp at h
 |_::_,[],_,h=>by simp at h
 |p::es,m::ms,i,hl=>by
  by_cases he:eqD T 4 kt k.cells p.1.cells=true
  ·exact .inr ⟨0,p,m,rfl,rfl,by simp[oQ,he],by simp[cY,he],he,λx=>by simp[nJ,he]⟩
  ·rcases yD (kt:=kt) (k:=k) es ms (i+1) (by simpa using hl) with⟨h1,h2,h3⟩|⟨j,q,n,h1,h2,h3,h4,h5,h6⟩
   ·exact .inl ⟨by simp[oQ,he,h1],by simp[cY,he,h2],λx=>by simp[nJ,he,h3]⟩
   ·exact .inr ⟨j+1,q,n,by simpa using h1,by simpa using h2,by simp[oQ,he,h3];omega,by simp[cY,he,h4],h5,λx=>by simp[nJ,he,h6]⟩
theorem iF {kt:TypeId} {k:D} (h:nO T kt k=true):V1 T 4 kt k.cells=true:=by
 unfold nO at h;simp only[C8] at h;exact h.1
theorem DR.kr {w:World} {S:Stb} {k:D} {v:Value} (h:DR w S k v) {kt:TypeId} {ti:TI} (hty:J8 T kt=some ti) (hk:nO T kt k=true):KR w S (G8 ti) k.cells v:=by
 unfold nO at hk
 simp only[C8,KK,hty] at hk
 obtain⟨_,hf⟩:=hk
 cases h with
 |agg cs arr h1 h2 h3=>
  simp only[] at hf
  rw[hf]
  exact⟨arr,rfl,h1,h3⟩
 |b x=>simp at hf;rw[hf];intro c hc;simp[D.cells] at hc;subst hc;exact .b x
 |i kd n=>simp at hf;rw[hf];intro c hc;simp[D.cells] at hc;subst hc;exact .i kd n
 |s x=>simp at hf;rw[hf];intro c hc;simp[D.cells] at hc;subst hc;exact .s x
 |k v hv=>simp at hf;rw[hf];intro c hc;simp[D.cells] at hc;subst hc;exact .k v hv
 |sl sz full xs a cap b off uf g1 g2 g3 g4 g5 g6 g7=>simp at hf;rw[hf];intro c hc;simp[D.cells] at hc;subst hc;exact .sl sz full xs a cap b off uf g1 g2 g3 g4 g5 g6 g7
 |any t x v g1=>simp at hf;rw[hf];intro c hc;simp[D.cells] at hc;subst hc;exact .any t x v g1
 |pt cs b off uf g1 g2=>simp at hf;rw[hf];intro c hc;simp[D.cells] at hc;subst hc;exact .pt cs b off uf g1 g2
 |cl f fs cs a1 a2 g1 g2 g3 g4=>simp at hf;rw[hf];intro c hc;simp[D.cells] at hc;subst hc;exact .cl f fs cs a1 a2 g1 g2 g3 g4
theorem A2t {n:Nat} (ih:∀(t:TypeId) (xs ys:List D),V1 T n t xs=true->V1 T n t ys=true->eqD T n t xs ys=true->xs=ys) {xs ys:List D}:
 ∀(fs:List (Nat×TypeId)) (off:Nat),kG T (V1 T n) xs off fs=true->kG T (V1 T n) ys off fs=true->A0f T (eqD T n) xs ys fs=true->xs.drop off=ys.drop off
 |[],off,hx,hy,_=>by
  have hx:=B2 hx
  have hy:=B2 hy
  rw[pA (by omega),pA (by omega)]
 |p::fs,off,hx,hy,he=>by
  simp only[kG] at hx hy
  simp only[A0f] at he
  cases hty:J8 T p.2 with
  |none=>simp[hty] at hx
  |some ti=>
   simp only[hty,C8] at hx hy he
   obtain⟨⟨⟨hx0,_⟩,hx2⟩,hx3⟩:=hx
   obtain⟨⟨_,hy2⟩,hy3⟩:=hy
   have hx0:=B2 hx0
   subst hx0
   have e1:=ih _ _ _ hx2 hy2 he.1
   have e2:=A2t ih fs _ hx3 hy3 he.2
   rw[<-Z4 ti.size (xs.drop p.1),<-Z4 ti.size (ys.drop p.1),e1,xL,xL,e2]
theorem bytes_beq {x y:ByteArray} (h:(x.toList==y.toList)=true):x=y:=by
 have:=beq_iff_eq.1 h
 rw[ByteArray.toList_eq,ByteArray.toList_eq] at this
 exact OK this
theorem B0q:∀(n:Nat) (t:TypeId) (xs ys:List D),V1 T n t xs=true->V1 T n t ys=true->eqD T n t xs ys=true->xs=ys
 |0,_,_,_,h,_,_=>by simp[V1] at h
 |n+1,t,xs,ys,hx,hy,he=>by
  simp only[V1,eqD] at hx hy he
  cases hty:J8 T t with
  |none=>simp[hty] at hx
  |some ti=>
   simp only[hty] at hx hy he
   cases hk:ti.kind with
   |str fs=>
    simp only[hk] at hx hy he
    simpa using A2t (B0q n) fs 0 hx hy he
   |bool=>
    simp only[hk] at hx hy he
    obtain⟨x,rfl⟩:=eN hx
    obtain⟨y,rfl⟩:=eN hy
    simp[eq1] at he;rw[he]
   |int k=>
    simp only[hk] at hx hy he
    obtain⟨x,rfl⟩:=gT hx
    obtain⟨y,rfl⟩:=gT hy
    simp[eq1] at he;rw[he]
   |string=>
    simp only[hk] at hx hy he
    obtain⟨x,rfl⟩:=cB hx
    obtain⟨y,rfl⟩:=cB hy
    simp only[eq1] at he
    rw[bytes_beq he]
   |arr m e=>simp[hk,X7] at hx
   |slice e=>simp[hk,X7] at hx
   |map k e=>simp[hk,X7] at hx
   |other=>simp[hk,X7] at hx
theorem key_eq {kt:TypeId} {k k':D} (h:nO T kt k=true) (h':nO T kt k'=true) (he:eqD T 4 kt k.cells k'.cells=true):k=k':=by
 have e:=B0q 4 kt _ _ (iF h) (iF h') he
 unfold nO at h h'
 simp only[C8] at h h'
 obtain⟨_,h⟩:=h
 obtain⟨_,h'⟩:=h'
 cases k<;>cases k'<;>simp_all[D.cells]
theorem PI {te:TI} {i:TypeInfo} {z:Value} {e:TypeId} (hi:nZ P e te i z) (hone:G8 te=true∨te.size=1) (w:World) (S:Stb):DR w S (Q9 te) z:=by
 obtain⟨h1,h2⟩:=gZ hi.zs
 cases ha:G8 te with
 |true=>
  obtain⟨cs,rfl⟩:=hi.agg ha
  simp only[Q9,ha]
  simp only[Value.cells] at h1 h2
  refine .agg _ _ (by simpa using h1.symm) (λj c hj=> ?_) λj c y hj hy=>(h2 j c y hj (by simpa using hy) w S).1
  have hl:j<cs.toList.length:=by rw[<-h1];exact(A4.1 hj).1
  exact(h2 j c _ hj (A3 hl) w S).2
 |false=>
  have hs:te.size=1:=hone.resolve_left (by simp[ha])
  have hz:=vQ (hi.nag ha)
  simp only[Q9,ha]
  have hl:=hi.zlen
  rw[hs] at hl
  match hzz:te.zero,hl with
  |[x],_=>exact(h2 0 x z (by rw[hzz];rfl) (by rw[hz];rfl) w S).1
theorem JT {w:World} {S:Stb} {kt:TypeId} {ti:TI} (hty:J8 T kt=some ti) {es:List (D×D)} {mes:List MapEntry}
 (h:∀(j:Nat) (p:D×D) (m:MapEntry),es[j]? =some p->mes[j]? =some m->nO T kt p.1=true/\DR w S p.1 m.key/\DR w S p.2 m.val):
 ∀(j:Nat) (p:D×D) (m:MapEntry),es[j]? =some p->mes[j]? =some m->V1 T 4 kt p.1.cells=true/\KR w S (G8 ti) p.1.cells m.key:=λj p m hp hm=>by
 obtain⟨a,b,_⟩:=h j p m hp hm
 exact⟨iF a,b.kr hty a⟩
theorem VP {kt:TypeId} {k:D} (h:nO T kt k=true):∃ti,J8 T kt=some ti:=by
 have h:=iF h
 cases hh:J8 T kt with
 |none=>simp[V1,hh] at h
 |some ti=>exact⟨ti,rfl⟩
theorem LW (hT:W9 P T=true) {o:Oper} {t:TypeId} {m k:Operand} {ok:Bool} (ho:o.op=.lookup t m k ok) {mv kv:V} {bs:List Blk} {K:Kt} (h:SK T t kv ok bs K) (hbs:bs.length=(oB mv).length):
 ∃v,K v bs/\OpS P o [mv,kv] (oB mv) bs bs v:=by
 unfold SK at h
 split at h
 ·rename_i ti key T' kt' es hty
  split at h
  ·rename_i kt et hk
   cases hte:J8 T et with
   |none=>simp[hte] at h
   |some te=>
    simp only[hte] at h
    obtain⟨h1,h⟩:=(J1 _ _).1 h
    simp only[C8,Q6] at h1
    obtain⟨⟨⟨hkey,hkt⟩,hz⟩,hone⟩:=h1
    have hkt:=B2 hkt
    subst hkt
    have hone:G8 te=true∨te.size=1:=hone.imp id B2
    obtain⟨rfl,h⟩:=h.elim
    obtain⟨kti,hkty⟩:=VP hkey
    have hu:=zS (H7 hT hty) hk
    obtain⟨i,z,hi⟩:=S5 (H7 hT hte)
    have main:∀(ρ:Operand->Value) (w:World) (S:Stb) (hp:Hp) (β:Bet),HR w S hp β->OR w S hp β ρ [m,k] [mv,.d key]->(∀(i n:Nat),(oB mv)[i]? =some n->hp[n]? =[Blk.map T' kt es][i]?)->
     ∃cv,(Instr.lookup t (ρ m) (ρ k) ok).run P w=.ok (if ok then .tuple #[cv,.bool (cY T' kt key es).isSome] else cv) w/\DR w S ((cY T' kt key es).getD (Q9 te)) cv:=by
     intro ρ w S hp β hr hor hb
     obtain⟨hm,hkk⟩:=hor.two
     have hkk:DR w S key (ρ k):=by cases hkk;assumption
     cases mv with
     |map n=>
      have hn:hp[n]? =some (.map T' kt es):=by simpa[oB] using hb 0 n rfl
      generalize ρ m=mm at hm
      cases hm with
      | @map _ b g1 g2=>
        obtain⟨b',mes,clock,a1,a2,a3,a4,a5⟩:=hr.blk n _ hn
        have:=g2 (by simp[hn])
        rw[a1] at this;simp at this;subst this
        have a4':∀(j:Nat) (p:D×D) (m:MapEntry),es[j]? =some p->mes.toList[j]? =some m->nO T' kt p.1=true/\DR w S p.1 m.key/\DR w S p.2 m.val:=λj p m hp hm=>a4 j p m hp (by simpa using hm)
        have f1:=jO (P:=P) hT (e:=mes.isEmpty) 4 10000 (by omega) kt _ (iF hkey) w S kti hkty (ρ k) (hkk.kr hkty hkey)
        have f2:=run_findKey (P:=P) hT hkty (iF hkey) (hkk.kr hkty hkey) es mes.toList (by simpa using a3) (JT hkty a4')
        rcases yD (T:=T') (kt:=kt) (k:=key) es mes.toList 0 (by simpa using a3) with⟨e1,e2,_⟩|⟨j,p,me,c1,c2,c3,c4,c5,_⟩
        ·refine⟨z,?_,?_⟩
         ·simp[Instr.lookup,run_underlying hu,MapKept.run_getObj_map a2,f1,f2,e1,cH hi,e2]
         ·rw[e2];exact PI hi hone w S
        ·refine⟨me.val,?_,?_⟩
         ·simp[Instr.lookup,run_underlying hu,MapKept.run_getObj_map a2,f1,f2,c3,c4]
         ·rw[c4];exact(a4' j p me c1 c2).2.2
     |_=>simp[oB] at hbs
    cases ok with
    |true=>
     simp only[] at h
     refine⟨_,h.elim.elim,OpS.pure λρ w S hp β hr hor hb=> ?_⟩
     obtain⟨cv,e1,e2⟩:=main ρ w S hp β hr (by simpa[ho,F9] using hor) hb
     refine⟨_,_,by simpa[execOp,ho] using N8 (λr=>r.andThen λv w=>.ok (Next.value v) w) e1,.inl rfl,.tup _ _ (by simp) λj c u hj hu=> ?_⟩
     match j,hj with
     |0,hj=>simp at hj hu;subst hj;subst hu;exact .d e2
     |1,hj=>simp at hj hu;subst hj;subst hu;exact .d (.b _)
    |false=>
     simp only[] at h
     refine⟨_,h.elim,OpS.pure λρ w S hp β hr hor hb=> ?_⟩
     obtain⟨cv,e1,e2⟩:=main ρ w S hp β hr (by simpa[ho,F9] using hor) hb
     exact⟨_,_,by simpa[execOp,ho] using N8 (λr=>r.andThen λv w=>.ok (Next.value v) w) e1,.inl rfl,.d e2⟩
  ·exact h.elim
 ·exact h.elim
theorem QG (u v:Value) (w:World):∃cv w',(Instr.keyThatStays u v).run P w=.ok cv w'/\(w'=w∨w'=w.drew)/\(cv=u∨cv=v):=by
 unfold Instr.keyThatStays
 by_cases h:Instr.sameBits 10000 u v=true
 ·exact⟨v,w,by simp[h],.inl rfl,.inr rfl⟩
 ·simp only[h,if_false,Sem.run_bind,run_choose_drew]
  rw[if_neg (by simp)]
  simp only[Sem.run_bind,run_choose_drew]
  split
  ·exact⟨v,w,by simp[Result.andThen],.inl rfl,.inr rfl⟩
  ·simp only[Result.andThen,Sem.run_pure]
   split
   ·exact⟨v,w.drew,rfl,.inr rfl,.inr rfl⟩
   ·exact⟨u,w.drew,rfl,.inr rfl,.inl rfl⟩
theorem map_set {w:World} {S:Stb} {h:Hp} {β:Bet} (hr:HR w S h β) {n b:Nat} {kt:TypeId} {es es':List (D×D)} {mes:Array MapEntry} {clock:Nat} (hn:h[n]? =some (.map T kt es))
 (hb:β[n]? =some (some (b,0))) (hw:w.heap[b]? =some (.map mes clock)) (mes':Array MapEntry) (clock':Nat) (hl:mes'.size=es'.length)
 (hes:∀(j:Nat) (p:D×D) (m:MapEntry),es'[j]? =some p->mes'[j]? =some m->nO T kt p.1=true/\DR w S p.1 m.key/\DR w S p.2 m.val) (hbn:AL mes' clock'):
 HR {w with heap:=w.heap.setIfInBounds b (.map mes' clock')} S (h.set n (.map T kt es')) β/\F7 w S h β {w with heap:=w.heap.setIfInBounds b (.map mes' clock')} S (h.set n (.map T kt es')) β:=by
 have hbs:∀o,¬S b o:=by
  obtain⟨b',_,_,h1,_,_,_,_,h5⟩:=hr.blk n _ hn
  rw[hb] at h1;simp at h1;subst h1;exact h5
 have hlt:b<w.heap.size:=(C4.1 hw).1
 have hnew:(w.heap.setIfInBounds b (.map mes' clock'))[b]? =some (.map mes' clock'):=by simp[hlt]
 have J3:β.set n (some (b,0))=β:=fT hb
 have hoth:∀i,i≠b->(w.heap.setIfInBounds b (.map mes' clock'))[i]? =w.heap[i]? :=λi hi=>by rw[G3 (N9 hi)]
 have:=upd hr hn (blk':=.map T kt es') (w':={w with heap:=w.heap.setIfInBounds b (.map mes' clock')}) (some (b,0)) (by simp) (λi _ hne=>hoth i (λe=>hne 0 (by rw[e];exact hb)))
  (λi p c e f hp hi=>by rw[hb] at hp;simp at hp;obtain⟨rfl,_⟩:=hp;rw[hw] at hi;simp at hi)
  (λi p l hp hi=>by rw[hb] at hp;simp at hp;obtain⟨rfl,_⟩:=hp;rw[hw] at hi;simp at hi)
  (λa=>by
    by_cases ha:a.block=b
    ·unfold World.frozen?;simp only[ha,hnew,hw]
    ·exact World.frozen?_of_block (hoth _ ha))
  (λi p o hp hs=>by rw[hb] at hp;simp at hp;obtain⟨rfl,_⟩:=hp;exact absurd hs (hbs o))
  (λb' p hb'=>.inl ⟨0,by cases hb';exact hb⟩) (by rw[hb];exact .inr ⟨⟨es',rfl⟩,rfl⟩)
  (λE=>⟨b,mes',clock',by rw[J3];exact hb,hnew,hl,λj p m hp hm=>by
    obtain⟨a1,a2,a3⟩:=hes j p m hp hm
    exact⟨a1,a2.evol E.sub E.cell,a3.evol E.sub E.cell⟩,hbn,hbs⟩)
 rw[J3] at this
 exact this
theorem qM (hT:W9 P T=true) {o:Oper} {t:TypeId} {m k x:Operand} (ho:o.op=.mapUpdate t m k x) {mv kv xv:V} {bs:List Blk} {K:Kt} (h:rY T t kv xv bs K) (hbs:bs.length=(oB mv).length):
 ∃v bs',K v bs'/\OpS P o [mv,kv,xv] (oB mv) bs bs' v:=by
 unfold rY at h
 split at h
 ·rename_i ti key val T' kt' es hty
  split at h
  ·rename_i kt et hk
   obtain⟨h1,h⟩:=(J1 _ _).1 h
   simp only[C8] at h1
   obtain⟨hkey,hkt⟩:=h1
   have hkt:=B2 hkt
   subst hkt
   obtain⟨rfl,h⟩:=h.elim
   obtain⟨kti,hkty⟩:=VP hkey
   have hu:=zS (H7 hT hty) hk
   refine⟨_,_,h,λρ w S hp β hr hor hb=> ?_⟩
   obtain⟨hm,hkk,hxx⟩:=(show OR w S hp β ρ [m,k,x] [mv,.d key,.d val] by simpa[ho,F9] using hor).three
   have hkk:DR w S key (ρ k):=by cases hkk;assumption
   have hxx:DR w S val (ρ x):=by cases hxx;assumption
   cases mv with
   |map n=>
    have hn:hp[n]? =some (.map T' kt es):=by simpa[oB] using hb 0 n rfl
    generalize hmm:ρ m=mm at hm
    cases hm with
    | @map _ b g1 g2=>
      obtain⟨b',mes,clock,a1,a2,a3,a4,a5⟩:=hr.blk n _ hn
      have:=g2 (by simp[hn])
      rw[a1] at this;simp at this;subst this
      have a4':∀(j:Nat) (p:D×D) (m:MapEntry),es[j]? =some p->mes.toList[j]? =some m->nO T' kt p.1=true/\DR w S p.1 m.key/\DR w S p.2 m.val:=λj p m hp hm=>a4 j p m hp (by simpa using hm)
      have f1:=jO (P:=P) hT (e:=false) 4 10000 (by omega) kt _ (iF hkey) w S kti hkty (ρ k) (hkk.kr hkty hkey)
      have f2:=run_findKey (P:=P) hT hkty (iF hkey) (hkk.kr hkty hkey) es mes.toList (by simpa using a3) (JT hkty a4')
      rcases yD (T:=T') (kt:=kt) (k:=key) es mes.toList 0 (by simpa using a3) with⟨e1,e2,e3⟩|⟨j,p,me,c1,c2,c3,c4,c5,c6⟩
      ·obtain⟨r1,r2⟩:=map_set hr hn a1 a2 (es':=es++[(key,val)]) (mes.push {key:=ρ k,val:=ρ x,born:=clock}) (clock+1) (by simp[a3]) (λj p m hj hm=>by
        by_cases hjl:j<es.length
        ·rw[B8 hjl] at hj
         rw[Array.getElem?_push,if_neg (by omega)] at hm
         exact a4 j p m hj hm
        ·rw[B3 (by omega)] at hj
         have hj0:j-es.length=0:=by
          have:=(A4.1 hj).1
          simp at this;exact this
         rw[hj0] at hj
         rw[Array.getElem?_push,if_pos (by omega)] at hm
         simp at hj hm
         subst hj;subst hm
         exact⟨hkey,hkk,hxx⟩) (a5.1.push _ _)
       rw[e3]
       refine⟨_,_,S,β,_,?_,.inr ⟨rfl,rfl⟩,by simpa[J5,oB] using r1,.u _,by simpa[J5,oB] using r2⟩
       simp[execOp,ho,Instr.mapUpdate,hmm,run_underlying hu,MapKept.run_getObj_map a2,f1,f2,e1,MapKept.run_setObj_map _ a2]
      ·simp only[C1] at c3
       obtain⟨b1,b2,b3⟩:=a4' j p me c1 c2
       have hkp:key=p.1:=key_eq hkey b1 c5
       have c2':mes[j]? =some me:=by simpa using c2
       have hjl:j<mes.size:=(C4.1 c2').1
       obtain⟨cv,w',e1,e2,e3⟩:=QG (P:=P) me.key (ρ k) w
       have hcv:DR w S key cv:=by
        rcases e3 with rfl|rfl
        ·rw[hkp];exact b2
        ·exact hkk
       have hw':HR w' S hp β/\F7 w S hp β w' S hp β:=by
        rcases e2 with rfl|rfl
        ·exact⟨hr,F7.refl _ _ _ _⟩
        ·exact drawn hr
       have a2':w'.heap[b']? =some (.map mes clock):=by rcases e2 with rfl|rfl<;>exact a2
       obtain⟨r1,r2⟩:=map_set hw'.1 hn a1 a2' (es':=es.set j (key,val)) (mes.modify j λe=>{e with key:=cv,val:=ρ x}) clock (by simp[a3]) (λi q m hi hm=>by
        by_cases hij:j=i
        ·subst hij
         rw[G1 (by omega)] at hi
         rw[LD,if_pos rfl,c2'] at hm
         simp at hi hm
         subst hi;subst hm
         exact⟨hkey,hcv.evol hw'.2.sub hw'.2.cell,hxx.evol hw'.2.sub hw'.2.cell⟩
        ·rw[C3 hij] at hi
         rw[LD,if_neg hij] at hm
         obtain⟨d1,d2,d3⟩:=a4 i q m hi hm
         exact⟨d1,d2.evol hw'.2.sub hw'.2.cell,d3.evol hw'.2.sub hw'.2.cell⟩) (a5.1.modify _ _ λ_=>rfl)
       rw[c6]
       refine⟨_,_,S,β,_,?_,.inr ⟨rfl,rfl⟩,by simpa[J5,oB] using r1,.u _,by simpa[J5,oB] using hw'.2.trans r2⟩
       simp[execOp,ho,Instr.mapUpdate,hmm,run_underlying hu,MapKept.run_getObj_map a2,f1,f2,c3,c2',e1,MapKept.run_setObj_map _ a2']
   |_=>simp[oB] at hbs
  ·exact h.elim
 ·exact h.elim
theorem DK:∀{ys:List D},(∀(i:Nat) (y:D),ys[i]? =some y->y.cells.length=1)->(ys.flatMap D.cells).length=ys.length/\∀(i:Nat) (c:D),(ys.flatMap D.cells)[i]? =some c->∃y,ys[i]? =some y/\y.cells[0]? =some c
 |[],_=>⟨rfl,λi c h=>by simp at h⟩
 |y::ys,h=>by
  obtain⟨a,b⟩:=DK (ys:=ys) (λi z hz=>h (i+1) z (by simpa using hz))
  have h0:=h 0 y rfl
  match hc:y.cells,h0 with
  |[c],_=>
   refine⟨by simp[oZ,hc,a],λi d hd=> ?_⟩
   rw[oZ,hc] at hd
   cases i with
   |zero=>simp at hd;exact⟨y,rfl,by rw[hc];simpa using hd⟩
   |succ i=>
    simp at hd
    obtain⟨z,q1,q2⟩:=b i d hd
    exact⟨z,by simpa using q1,q2⟩
theorem XP (hT:W9 P T=true) {o:Oper} {c:Call} {t t2:TypeId} (ho:o.op=.call c) (hc:c.callee=.builtin .copy) (ht:c.argTypes.toList=[t,t2]) {dv sv:V} {bs:List Blk} {K:Kt} (h:B2j T t dv sv bs K):
 ∃v bs',K v bs'/\OpS P o [dv,sv] (zU dv) bs bs' v:=by
 unfold B2j at h
 split at h
 ·rename_i n ver lo len full sz f2 ys cs
  obtain⟨h1,h⟩:=(J1 _ _).1 h
  simp only[C8,Q6] at h1
  have hes:W6 T t=1:=B2 h1.1
  have hsz:sz=1∨sz=0:=h1.2.imp B2 B2
  obtain⟨e,te,hu,hte,hte1⟩:=jB hT (t:=t) (by omega)
  obtain⟨⟨hle,hyl⟩,h⟩:=h.elim
  replace h:=h.elim
  refine⟨_,_,h,λρ w S hp β hr hor hb=> ?_⟩
  have hlen:c.args.toList.length=2:=by have:=hor.1;simp[ho,F9] at this;simp[this]
  obtain⟨m,k,hmk⟩:∃m k,c.args.toList=[m,k]:=by
   match hh:c.args.toList,hlen with
   |[m,k],_=>exact⟨m,k,rfl⟩
  obtain⟨hm,hkk⟩:=(show OR w S hp β ρ [m,k] [.sref n ver lo len full,.d (.sl sz f2 ys)] by simpa[ho,F9,hmk] using hor).two
  have hargs:c.args= #[m,k]:=by rw[<-Y4 (xs:=c.args),hmk]
  have hct:c.argTypes= #[t,t2]:=by rw[<-Y4 (xs:=c.argTypes),ht]
  have hn:hp[n]? =some (.vard cs):=by simpa[zU] using hb 0 n rfl
  obtain⟨ax,capx,news,hs⟩:=ElK.src (P:=P) (x:=.d (.sl sz f2 ys)) (bx:=[]) (.inl ⟨f2,rfl,rfl⟩) (size:=1) (by omega) hsz hr (λi m hi=>by simp[Z7] at hi) hkk
  have hnl:news.length=ys.length:=by rw[hs.len,L2]
  obtain⟨fl,fg⟩:=DK hs.sizes
  generalize hmm:ρ m=mm at hm
  cases hm with
  |sref g0 g=>
   obtain⟨a,cap,rfl,g1,g2,g3⟩:=g
   rw[hn] at g3
   obtain⟨_,b,cells,el,fz,c1,c2,c3,c4⟩:=g3
   obtain⟨b',cells',el',k1,k2,k3,k4,k5⟩:=hr.blk n _ hn
   rw[c1] at k1;simp at k1;subst k1
   rw[c3] at k2;simp at k2;obtain⟨rfl,rfl,rfl⟩:=k2
   have hlc:lo+news.length<=cells.toList.length:=by simp only[F6];omega
   have hol:=bK hlc
   have hlen':lo+(ys.flatMap D.cells).length<=cs.length:=by omega
   have J3:β.set n (some (b,0))=β:=fT c1
   have hcs:cs.take lo++ys.flatMap D.cells++cs.drop (lo+ys.length)=ov cs lo (ys.flatMap D.cells):=by rw[ov,fl]
   obtain⟨r1,r2⟩:=written hr (blk':=.vard (ov cs lo (ys.flatMap D.cells))) hn c1 c3 (cells':=(ov cells.toList lo news).toArray) (by simp only[M5,hol,F6]) 0 (λo ho=>absurd ho (k5 o)) (.inr (.inl ⟨.inr ⟨_,rfl⟩,rfl⟩))
    (λE _ hh=>by
      rw[J3] at E ⊢
      refine⟨b,_,el,c1,hh,?_,λj d y hj hy=> ?_,k5⟩
      ·simp only[M5,hol,F6,k3,bK hlen']
      ·have:=YZ (R:=λ(d:D) (y:Value)=>d.flat=true/\DR w S d y) (xs:=cs) (ys:=ys.flatMap D.cells) (us:=cells.toList) (vs:=news) (o:=lo) (o':=lo) hlen' hlc (by rw[fl,hnl])
        (λj d y hj hy=>k4 j d y hj (by simpa using hy)) (B1 _) (λj d y hj hy=>by
          obtain⟨z,q1,q2⟩:=fg j d hj
          obtain⟨u,q3,q4,q5⟩:=hs.cells j z 0 d q1 q2
          rw[L2,W2,hy] at q3
          cases q3
          exact⟨q5,q4⟩) j d y hj (by simpa using hy)
       exact⟨this.1,this.2.evol E.sub E.cell⟩)
   rw[J3] at r1 r2
   rw[hcs]
   have hfin:J5 hp (zU (.sref n ver lo len full)) [.vard (ov cs lo (ys.flatMap D.cells))]=hp.set n (.vard (ov cs lo (ys.flatMap D.cells))):=by simp[J5,zU]
   rw[hfin]
   refine⟨_,_,S,β,goInt ys.length,?_,.inl rfl,r1,.d (.i _ _),r2⟩
   have hmin:Nat.min ys.length len=ys.length:=mP hyl
   have hfirst:=hs.first w rfl
   have hval:=hs.val
   have hcell:(match a with|some a=>storeCells a news|none=>pure ()).run P w=.ok () (w.setRow b (ov cells.toList lo news).toArray):=by
    by_cases h0:0<cap
    ·rw[c2 h0]
     have:=run_storeCells_at P b lo el news 0 cells w c3 (by simpa using hlc) (λy hy=>by rw[<-QN];exact hs.one y hy)
     simpa[ov] using this
    ·have:news=[]:=E7 (by omega)
     subst this
     have hov:(ov cells.toList lo []).toArray=cells:=by simp[ov]
     rw[hov,setRow_self w b cells el (0,0) c3]
     cases a<;>simp[storeCells]
   rw[hval] at hfirst
   have hl:(Builtin.lenOf (.slice ax ys.length capx)).run P w=.ok ys.length w:=by simp[Builtin.lenOf]
   have hts:te.size=1:=by omega
   cases a with
   |none=>
    simp at hcell
    simp[execOp,ho,resolve,hc,invoke,hargs,hct,builtin,Builtin.copy_,hmm,run_underlying hu,hval,hl,hmin,P7 hte,hts,hfirst,<-hcell]
   |some a=>
    simp only at hcell
    simp[execOp,ho,resolve,hc,invoke,hargs,hct,builtin,Builtin.copy_,hmm,run_underlying hu,hval,hl,hmin,P7 hte,hts,hfirst,hcell]
 ·rename_i n ver lo len full sz f2 ys ver' sz' ro xs
  cases ro with
  |true=>exact h.elim
  |false=>
  simp only[] at h
  obtain⟨h1,h⟩:=(J1 _ _).1 h
  simp only[C8,Q6] at h1
  have hes0:0<W6 T t:=B5 h1.1.1
  have hes:sz'=W6 T t:=B2 h1.1.2
  have hsz:sz=sz'∨sz=0:=h1.2.imp B2 B2
  obtain⟨e,te,hu,hte,hte1⟩:=jB hT (t:=t) (by omega)
  have hts:te.size=sz':=by omega
  clear h1
  obtain⟨⟨hver,hle,hyl⟩,h⟩:=h.elim
  subst hver
  replace h:=h.elim
  refine⟨_,_,h,λρ w S hp β hr hor hb=> ?_⟩
  have hlen:c.args.toList.length=2:=by have:=hor.1;simp[ho,F9] at this;simp[this]
  obtain⟨m,k,hmk⟩:∃m k,c.args.toList=[m,k]:=by
   match hh:c.args.toList,hlen with
   |[m,k],_=>exact⟨m,k,rfl⟩
  obtain⟨hm,hkk⟩:=(show OR w S hp β ρ [m,k] [.sref n ver lo len full,.d (.sl sz f2 ys)] by simpa[ho,F9,hmk] using hor).two
  have hargs:c.args= #[m,k]:=by rw[<-Y4 (xs:=c.args),hmk]
  have hct:c.argTypes= #[t,t2]:=by rw[<-Y4 (xs:=c.argTypes),ht]
  have hn:hp[n]? =some (.row ver sz' false xs):=by simpa[zU] using hb 0 n rfl
  obtain⟨ax,capx,news,hs⟩:=ElK.src (P:=P) (x:=.d (.sl sz f2 ys)) (bx:=[]) (.inl ⟨f2,rfl,rfl⟩) (size:=sz') (by omega) hsz hr (λi m hi=>by simp[Z7] at hi) hkk
  have hcs:xs.take lo++ys++xs.drop (lo+ys.length)=ov xs lo ys:=rfl
  have hlen':lo+ys.length<=xs.length:=by omega
  have hfin:∀b',J5 hp (zU (.sref n ver lo len full)) [b']=hp.set n b':=λb'=>by simp[J5,zU]
  have hmin:Nat.min ys.length len=ys.length:=mP hyl
  have hfirst:=hs.first w rfl
  have hval:=hs.val
  have hl:(Builtin.lenOf (.slice ax ys.length capx)).run P w=.ok ys.length w:=by simp[Builtin.lenOf]
  rw[hval] at hfirst
  rw[hcs,hfin]
  generalize hmm:ρ m=mm at hm
  cases hm with
  |sref g0 g=>
   obtain⟨a,cap,rfl,g1,g2,g3⟩:=g
   rw[hn] at g3
   obtain⟨_,g3⟩:=g3
   obtain⟨k1,k2,k3⟩:=hr.blk n _ hn
   rcases g3 rfl with⟨c1,c2⟩|⟨b,base,cells,el,fz,c1,c2,c3,c4⟩
   ·have hy0:ys=[]:=E7 (by omega)
    subst hy0
    have hn0:news=[]:=E7 (by simpa using hs.len)
    subst hn0
    have hself:hp.set n (.row ver sz' false (ov xs lo []))=hp:=by rw[ZA];exact fT hn
    rw[hself]
    refine⟨_,w,S,β,goInt 0,?_,.inl rfl,hr,.d (.i _ _),F7.refl _ _ _ _⟩
    simp only[V7] at hl hmin hfirst hval
    cases a with
    |none=>simp[execOp,ho,resolve,hc,invoke,hargs,hct,builtin,Builtin.copy_,hmm,run_underlying hu,hval,hl,hmin,P7 hte,hts,hfirst]
    |some a=>simp[execOp,ho,resolve,hc,invoke,hargs,hct,builtin,Builtin.copy_,hmm,run_underlying hu,hval,hl,hmin,P7 hte,hts,hfirst,storeCells]
   ·rcases k3 with⟨_,e2'⟩|⟨b',base',cells',el',e1',e2',e3',e4',e5'⟩
    ·rw[c1] at e2';simp at e2'
    ·rw[c1] at e1';simp at e1';obtain⟨rfl,rfl⟩:=e1'
     rw[c3] at e2';simp at e2';obtain⟨rfl,rfl,rfl⟩:=e2'
     have hmul:(lo+ys.length)*sz'<=xs.length*sz':=D6 _ hlen'
     rw[H5] at hmul
     have hlc:base+lo*sz'+news.length<=cells.toList.length:=by rw[hs.len];simp only[F6];omega
     have hol:=bK hlc
     have J3:β.set n (some (b,base))=β:=fT c1
     have hnS:∀o,¬S b o:=λo ho=>absurd (e5' o ho).1 (by simp)
     obtain⟨r1,r2⟩:=written hr (blk':=.row ver sz' false (ov xs lo ys)) hn c1 c3 (cells':=(ov cells.toList (base+lo*sz') news).toArray) (by simp only[M5,hol,F6]) base (λo ho=>absurd ho (hnS o)) (by simp[BEv])
      (λE _ hh=>by
        rw[J3] at E ⊢
        refine⟨k1,λi z hz=> ?_,.inr ⟨b,base,_,el,c1,hh,?_,λi z j d hz hj=> ?_,λo ho=>absurd ho (hnS o)⟩⟩
        ·rw[eK hlen'] at hz
         split at hz
         ·exact k2 i z hz
         ·split at hz
          ·exact hs.both _ z hz
          ·exact k2 i z hz
        ·simp only[M5,hol,F6,bK hlen'];exact e3'
        ·rw[eK hlen'] at hz
         simp only[Z6]
         rw[eK hlc]
         by_cases i1:i<lo
         ·rw[if_pos i1] at hz
          have hjz:j<sz':=by rw[<-(k2 i z hz).1];exact(A4.1 hj).1
          have:=D6 sz' (show i+1<=lo from i1)
          rw[P3] at this
          obtain⟨u,hu,hd⟩:=e4' i z j d hz hj
          refine⟨u,?_,hd.evol E.sub E.cell⟩
          rw[if_pos (by omega)];simpa using hu
         ·rw[if_neg i1] at hz
          by_cases i2:i<lo+ys.length
          ·rw[if_pos i2] at hz
           obtain⟨u,q1,q2,_⟩:=hs.cells _ z j d hz hj
           have hm:lo*sz'<=i*sz':=D6 _ (by omega)
           have hlt:=(A4.1 q1).1
           rw[Nat.sub_mul] at q1 hlt
           refine⟨u,?_,q2.evol E.sub E.cell⟩
           rw[if_neg (by omega),if_pos (by omega),show base+i*sz'+j-(base+lo*sz')=i*sz'-lo*sz'+j by omega]
           exact q1
          ·rw[if_neg i2] at hz
           have:=D6 sz' (show lo+ys.length<=i by omega)
           rw[H5] at this
           obtain⟨u,hu,hd⟩:=e4' i z j d hz hj
           refine⟨u,?_,hd.evol E.sub E.cell⟩
           rw[if_neg (by omega),if_neg (by rw[hs.len];omega)];simpa using hu)
     rw[J3] at r1 r2
     refine⟨_,_,S,β,goInt ys.length,?_,.inl rfl,r1,.d (.i _ _),r2⟩
     have hcell:(match a with|some a=>storeCells a news|none=>pure ()).run P w=.ok () (w.setRow b (ov cells.toList (base+lo*sz') news).toArray):=by
      by_cases h0:0<cap
      ·rw[c2 h0]
       have:=run_storeCells_at P b (base+lo*sz') el news 0 cells w c3 (by simpa using hlc) (λy hy=>by rw[<-QN];exact hs.one y hy)
       simpa[ov] using this
      ·have hy0:ys.length=0:=by omega
       have:news=[]:=E7 (by rw[hs.len,hy0];simp)
       subst this
       have hov:(ov cells.toList (base+lo*sz') []).toArray=cells:=by simp[ov]
       rw[hov,setRow_self w b cells el (0,0) c3]
       cases a<;>simp[storeCells]
     cases a with
     |none=>
      simp at hcell
      simp[execOp,ho,resolve,hc,invoke,hargs,hct,builtin,Builtin.copy_,hmm,run_underlying hu,hval,hl,hmin,P7 hte,hts,hfirst,<-hcell]
     |some a=>
      simp only at hcell
      simp[execOp,ho,resolve,hc,invoke,hargs,hct,builtin,Builtin.copy_,hmm,run_underlying hu,hval,hl,hmin,P7 hte,hts,hfirst,hcell]
 ·exact h.elim
theorem B1g (hT:W9 P T=true) {t:TypeId} (h:B1h T t=true):∃d,P.underlying t=some d/\∀l,d≠.interface l:=by
 unfold B1h at h
 cases hty:J8 T t with
 |none=>simp[hty] at h
 |some ti=>
  have hk:=cG (H7 hT hty)
  simp only[hty] at h
  cases hu:P.underlying t with
  |none=>cases hkk:ti.kind<;>simp[hkk,kindOk,hu] at hk h
  |some d=>
   refine⟨d,rfl,λl hl=> ?_⟩
   subst hl
   cases hkk:ti.kind<;>simp[hkk,kindOk,hu] at hk h
theorem SN (hT:W9 P T=true) {o:Oper} {xt:TypeId} {x:Operand} (ho:o.op=.makeInterface xt x) {xv:V} {bs:List Blk} {ns:List Nat} {K:V->Prop} (h:A1f T xt xv K):
 ∃v,K v/\OpS P o [xv] ns bs bs v:=by
 unfold A1f at h
 have hargs:F9 o.op=[x]:=by simp[ho,F9]
 split at h
 ·rename_i d
  obtain⟨hc,h⟩:=(J1 _ _).1 h
  obtain⟨u,hu,hn⟩:=B1g hT hc
  refine⟨_,h,lV hargs λρ w S hp β hv=>⟨.iface xt (ρ x),?_,?_⟩⟩
  ·cases u<;>first|exact absurd rfl (hn _)|simp[execOp,ho,Instr.makeInterface,run_underlying hu]
  ·cases hv with
   |d hd=>exact .d (.any xt d _ hd)
 ·exact h.elim
theorem ZS {t:TypeId} (hT:W9 P T=true) (h:A2n T t=true):∃k,P.underlying t=some (.int k):=by
 unfold A2n at h
 cases hh:J8 T t with
 |none=>simp[hh] at h
 |some ti=>
  simp only[hh] at h
  cases hk:ti.kind<;>simp[hk] at h
  exact⟨_,fZ (H7 hT hh) hk⟩
theorem KT (hT:W9 P T=true) {o:Oper} {c:Call} {t t2:TypeId} (ho:o.op=.call c) (hc:c.callee=.builtin .append) (hty:c.argTypes.toList=[t,t2]) (ht2:A2n T t2=true) {s x:V} {nf:Nat} {bs:List Blk} {K:Kt}
 (h:KU T t s x nf bs K) (hbs:∀b,bs[0]? =some b->(dA s x nf)[0]? =some nf->b=.res):∃v bs',K v bs'/\OpS P o [s,x] (dA s x nf) bs bs' v:=by
 obtain⟨k2,hu2⟩:=ZS hT ht2
 have hct:c.argTypes= #[t,t2]:=by cases hh:c.argTypes;simp_all
 unfold KU at h
 cases hh:J8 T t with
 |none=>simp[hh] at h
 |some ti=>
  simp only[hh] at h
  split at h
  ·rename_i e hk
   have hu:=P8 (H7 hT hh) hk
   cases hte:J8 T e with
   |none=>simp[hte] at h
   |some te=>
    simp only[hte] at h
    obtain⟨i,z,hi⟩:=S5 (H7 hT hte)
    replace h:=(J1 _ _).1 h
    obtain⟨hchk,h⟩:=h
    simp only[C8] at hchk
    have hby:=B5 hchk.1
    have hpos:0<te.size:=B5 hchk.2
    split at h
    ·rename_i szx n b0
     replace h:=h.elim
     obtain⟨⟨hn0,hroom⟩,h⟩:=h
     unfold room at hroom
     obtain⟨m,rfl⟩:=Int.eq_ofNat_of_zero_le (show 0<=n by omega)
     refine⟨_,_,h,λρ w S hp β hr hor hb=> ?_⟩
     have hb0:b0=.res:=hbs b0 rfl rfl
     subst hb0
     have hn:hp[nf]? =some .res:=by simpa[dA,Z7] using hb 0 nf rfl
     have hor':OR w S hp β ρ c.args.toList [.d (.sl szx true []),.d (.i .i64 m)]:=by simpa[ho,F9] using hor
     obtain⟨xs',xx,ha,hv1,hv2⟩:∃xs xx,c.args.toList=[xs,xx]/\VR w S hp β (.d (.sl szx true [])) (ρ xs)/\VR w S hp β (.d (.i .i64 m)) (ρ xx):=by
      match hm:c.args.toList,hor'.1 with
      |[y,z],_=>exact⟨y,z,rfl,by rw[hm] at hor';exact hor'.two.1,by rw[hm] at hor';exact hor'.two.2⟩
     have ha':c.args= #[xs',xx]:=by cases hh:c.args;simp_all
     have hx:=W5 hv2
     obtain⟨base,hs⟩:∃base,ρ xs'=.slice base 0 0:=by
      generalize ρ xs'=cw at hv1
      cases hv1 with
      |d hd=>
       cases hd with
       |sl _ _ _ a cap b off uf q1 q2=>
        have:cap=0:=q2 rfl
        subst this
        exact⟨a,rfl⟩
     have hsize:=hi.size
     have hbyt:i.bytes=te.bytes:=hi.bytes
     have hmb:m*te.bytes<=70368744177664:=by
      have h1:m<=1073741824:=by omega
      exact F5 (G6 h1 hby) (by decide)
     have hmi:((m:Int)*(te.bytes:Int))<=70368744177664:=by
      have:((m*te.bytes:Nat):Int)<=((70368744177664:Nat):Int):=Int.ofNat_le.2 hmb
      simpa using this
     have h48:¬(281474976710656<Builtin.nextslicecap m 0*te.bytes):=by
      have:Builtin.nextslicecap m 0=m:=by
       unfold Builtin.nextslicecap
       rw[if_pos (by omega)]
      rw[this];omega
     have hw:IntKind.i64.wrap (m:Int)=m:=EY (by omega)
     have hzs:z.cells.size=te.size:=by
      have:=(gZ hi.zs).1
      rw[hi.zlen] at this
      simpa using this.symm
     have hge:=grownCap_ge w m 0 e
     have hf0:∀w',(Builtin.firstCells te.size 0 (.slice base 0 0)).run P w'=.ok #[] w':=λw'=>by
      cases base<;>simp[Builtin.firstCells,loadCells,loadCellsFrom]
     have hrun:(Builtin.append_ #[t,t2] o.type #[.slice base 0 0,.int .i64 (m:Int)]).run P w=.ok (.slice (some ⟨w.heap.size,0,none⟩) m (grownCap w m 0 e))
      (w.drew.alloc (.cells (Builtin.zeroCells z.cells m++Builtin.zeroCells z.cells (grownCap w m 0 e-m)) e)):=by
      have e1:=hf0 w.drew
      have hm0:¬m=0:=by omega
      have hmt:¬(m*te.size=0):=by
       rw[Nat.mul_eq_zero];omega
      have h1:¬((m:Int)<0):=by omega
      have h2:¬(281474976710656<(m:Int)*(te.bytes:Int)):=by omega
      have h3:¬((9223372036854775807:Int)<(m:Int)):=by omega
      simp[Builtin.append_,run_underlying hu,run_underlying hu2,sizeOf,Z2 hi.info,hsize,hbyt,zeroValue,hi.zero,asInt,asIntOf,hw,h1,h2,h3,hm0,hmt,h48,Question.forced,e1,newRow,grownCap]
     obtain⟨d1,d2⟩:=drawn hr
     obtain⟨β',r1,r2,r3⟩:=CB d1 hn e (Builtin.zeroCells z.cells m++Builtin.zeroCells z.cells (grownCap w m 0 e-m)) te.size m (grownCap w m 0 e) [] hpos (by simp) (by simp)
      (by rw[Array.size_append,size_zeroCells,size_zeroCells,hzs,<-H5];exact D6 _ (by omega)) hge (by simp)
     have J3:J5 hp (dA (.d (.sl szx true [])) (.d (.i .i64 m)) nf) [.row 0 te.size false []]=hp.set nf (.row 0 te.size false []):=by simp[dA,Z7,J5]
     rw[J3]
     refine⟨_,_,S,β',_,?_,.inl rfl,r1,r3,d2.trans r2⟩
     simp[execOp,ho,resolve,hc,invoke,builtin,ha',hct,hs,hx,hrun]
    ·exact h.elim
  ·exact h.elim
theorem A1h (hT:W9 P T=true) {o:Oper} {c:Call} {t:TypeId} (ho:o.op=.call c) (hc:c.callee=.builtin .cap) (hty:c.argTypes.toList=[t]) (ht:vH T t=true) {x:V} {bs:List Blk} {ns:List Nat} {K:V->Prop} (h:aCap x K):
 ∃v,K v/\OpS P o [x] ns bs bs v:=by
 have hct:c.argTypes= #[t]:=by cases hh:c.argTypes;simp_all
 have hu:∃e,P.underlying t=some (.slice e):=by
  unfold vH at ht
  cases hh:J8 T t with
  |none=>simp[hh] at ht
  |some ti=>
   simp only[hh] at ht
   cases hk:ti.kind<;>simp[hk] at ht
   exact⟨_,P8 (H7 hT hh) hk⟩
 obtain⟨e,hu⟩:=hu
 unfold aCap at h
 split at h
 ·rename_i sz xs
  refine⟨_,h.elim,OpS.pure λρ w S hp β _ hor _=> ?_⟩
  have hor':OR w S hp β ρ c.args.toList [.d (.sl sz true xs)]:=by simpa[ho,F9] using hor
  obtain⟨y,ha,hv⟩:∃y,c.args.toList=[y]/\VR w S hp β (.d (.sl sz true xs)) (ρ y):=by
   match hm:c.args.toList,hor'.1 with
   |[y],_=>exact⟨y,rfl,by rw[hm] at hor';exact hor'.one⟩
  have ha':c.args= #[y]:=by cases hh:c.args;simp_all
  generalize hρ:ρ y=cw at hv
  cases hv with
  |d hd=>
   cases hd with
   |sl _ _ _ a cap b off uf q1 q2=>
    have hcap:cap=xs.length:=q2 rfl
    subst hcap
    exact⟨_,_,by simp[execOp,ho,resolve,hc,invoke,builtin,ha',hct,hρ,Builtin.cap_,run_underlying hu,goInt],.inl rfl,.d (.i _ _)⟩
 ·exact h.elim
theorem QY {t:TypeId} (h:QZ T t=true):∃ti,J8 T t=some ti:=by
 unfold QZ at h
 cases hh:J8 T t with
 |none=>simp[hh] at h
 |some ti=>exact⟨ti,rfl⟩
theorem LG {t:TypeId} (h:pJ T t=true):∃ti,J8 T t=some ti/\ti.kind=.string:=by
 unfold pJ at h
 cases hh:J8 T t with
 |none=>simp[hh] at h
 |some ti=>
  simp only[hh] at h
  split at h
  ·exact⟨ti,rfl,by assumption⟩
  ·cases h
theorem ZP {t:TypeId} {v:V} (h:VN T t v=true):∃ti,J8 T t=some ti/\
 match v with| .d (.sl ..)=>∃e,ti.kind=.slice e| .d (.s _)=>ti.kind=.string| .sref .. =>∃e,ti.kind=.slice e| .map _=>∃k e,ti.kind=.map k e|_=>False:=by
 cases hh:J8 T t with
 |none=>simp[VN,hh] at h
 |some ti=>
  refine⟨ti,rfl,?_⟩
  have h':=h
  revert h'
  cases v with
  |d x=>cases x<;>cases hk:ti.kind<;>simp[VN,hh,hk]
  |_=>cases hk:ti.kind<;>simp[VN,hh,hk]
theorem B3i {op:Op} {nf:Nat} {bs:List Blk} (hn:UW op=true) (hl:bs.length=[nf].length) (hres:A8h op [nf] nf bs=true):bs=[Blk.res]:=by
 match bs,hl with
 |[b],_=>
  have hb:Nat.beq nf nf=true:=kJ nf
  simp only[A8h,hn,hb] at hres
  cases b<;>simp_all
theorem A6o (hT:W9 P T=true) {o:Oper} {vs:List V} {nf:Nat} {bs:List Blk} {K:Kt} (h:aOp T o.op vs nf bs K) (hl:bs.length=(opN o.op vs nf).length)
 (hres:A8h o.op (opN o.op vs nf) nf bs=true):∃v bs',K v bs'/\(EK o.op=true->bs'=bs)/\OpS P o vs (opN o.op vs nf) bs bs' v:=by
 generalize hop:o.op=op at h hl hres ⊢
 have ex:∀{ns:List Nat} {K':V->Prop},(∃v,K' v/\OpS P o vs ns bs bs v)->(∀v,K' v->K v bs)->∃v bs',K v bs'/\(EK op=true->bs'=bs)/\OpS P o vs ns bs bs' v:=λ⟨v,h1,h2⟩ hk=>⟨v,bs,hk v h1,λ_=>rfl,h2⟩
 have nw:∀{ns:List Nat},EK op=false->(∃v bs',K v bs'/\OpS P o vs ns bs bs' v)->∃v bs',K v bs'/\(EK op=true->bs'=bs)/\OpS P o vs ns bs bs' v:=λhr ⟨v,bs',h1,h2⟩=>⟨v,bs',h1,λ(hh:EK op=true)=>absurd hh (by simp[hr]),h2⟩
 unfold aOp at h
 split at h
 ·exact⟨_,bs,h,λ_=>rfl,DU (.inl hop)⟩
 ·exact⟨_,bs,h,λ_=>rfl,DU (.inr hop)⟩
 ·split at h
  ·obtain⟨v,h1,h2⟩:=XL (P:=P) (ns:=[]) hop h
   exact⟨v,bs,h1,λ_=>rfl,h2⟩
  ·exact h.elim
 ·obtain rfl:=B3i rfl hl hres
  exact nw rfl (SS hT hop h)
 ·obtain rfl:=B3i rfl hl hres
  exact nw rfl (A1j hop h)
 ·exact ex (SP (ns:=[]) hT hop h) λ_ h=>h
 ·obtain⟨v,h1,h2⟩:=AI hT hop h
  exact⟨v,bs,h1,λ_=>rfl,h2 _ _⟩
 ·obtain⟨v,h1,h2⟩:=XN hT hop hl h
  exact⟨v,bs,h1,λ_=>rfl,h2⟩
 ·exact nw rfl (SG hT hop h)
 ·exact ex (A1k (ns:=[]) hT hop h) λ_ h=>h
 ·exact ex (A6n (ns:=[]) hop h) λ_ h=>h
 ·obtain⟨h1,h⟩:=(J1 _ _).1 h
  exact ex (KQ (ns:=[]) hT hop (QY h1) h) λ_ h=>h
 ·split at h
  ·rename_i hf
   exact⟨_,bs,h,λ_=>rfl,EU hop hf⟩
  ·split at h
   ·rename_i hcap
    rcases CC _ _ _ h with⟨l,rfl,hk⟩|hno
    ·exact⟨_,bs,hk,λ_=>rfl,CH hop hcap⟩
    ·exact hno.elim
   ·exact h.elim
  ·exact h.elim
 ·split at h
  ·split at h
   ·obtain rfl:=B3i rfl hl hres
    exact nw rfl ⟨_,_,h,KN hop⟩
   ·exact h.elim
  ·exact h.elim
 ·obtain rfl:=B3i rfl hl hres
  exact nw rfl (CG hT hop h)
 ·obtain⟨v,h1,h2⟩:=SH hT hop h
  exact⟨v,bs,h1,λ_=>rfl,h2⟩
 ·exact ex (CK (ns:=[]) hT hop h) λ_ h=>h
 ·exact ex (SO (ns:=[]) hT hop h) λ_ h=>h
 ·obtain⟨v,h1,h2⟩:=CJ hT hop h
  exact⟨v,bs,h1,λ_=>rfl,h2⟩
 ·split at h
  ·rename_i h1
   exact ex (SM (ns:=[]) hT hop (LG h1) h) λ_ h=>h
  ·exact ex (EV (ns:=[]) hT hop h) λ_ h=>h
 ·obtain⟨v,h1,h2⟩:=LW hT hop h hl
  exact⟨v,bs,h1,λ_=>rfl,h2⟩
 ·exact nw rfl (qM hT hop h hl)
 ·rename_i _ t m k x mv kv xv
  refine nw rfl ?_
  obtain⟨v,bs',h1,h2⟩:=qM (P:=P) (o:={o with op:=.mapUpdate t m k x}) hT rfl h hl
  refine⟨v,bs',h1,λρ w S hp β hr hor hb=> ?_⟩
  obtain⟨nx,w',S',β',cv,e1,e2⟩:=h2 ρ w S hp β hr (by rw[hop] at hor;exact hor) hb
  exact⟨nx,w',S',β',cv,by rw[<-e1];simp[execOp,hop],e2⟩
 ·exact ex (KO (ns:=[]) hop h) λ_ h=>h
 ·exact ex (ET (ns:=[]) hop h) λ_ h=>h
 ·exact ex (SN (ns:=[]) hT hop h) λ_ h=>h
 ·split at h
  ·rename_i x t hc ht
   obtain⟨h1,h⟩:=(J1 _ _).1 h
   obtain⟨ti,hty,hk⟩:=ZP h1
   obtain⟨v,h1,h2⟩:=A1d hT hop hc (by rw[ht];rfl) hty (by
    cases x with
    |d d=>cases d<;>exact hk
    |_=>exact hk) h
   exact⟨v,bs,h1,λ_=>rfl,by simpa[opN,hc] using h2⟩
  ·rename_i hc ht
   have hN:∀(c:Call) (s x:V),c.callee=.builtin .append->opN (.call c) [s,x] nf=dA s x nf:=λc s x hc=>by simp[opN,hc]
   rw[hN _ _ _ hc] at hl hres ⊢
   have hfree:∀b,bs[0]? =some b->(dA _ _ nf)[0]? =some nf->b=.res:=λb hb hn=>by
    have hnew:∀c:Call,c.callee=.builtin .append->UW (.call c)=true:=λc hc=>by simp[UW,hc]
    have hb':Nat.beq nf nf=true:=kJ nf
    generalize dA _ _ nf=ns at hres hn
    match ns,bs,hn,hb with
    |m::_,b'::_,hn,hb=>
     simp at hn hb;subst hn;subst hb
     simp only[A8h,hnew _ hc,hb'] at hres
     cases b'<;>simp_all
   split at h
   ·rename_i h1
    exact nw (by simp[EK,hc]) (LX hT hop hc ht h1 h hfree)
   ·obtain⟨h1,h⟩:=(J1 _ _).1 h
    exact nw (by simp[EK,hc]) (KT hT hop hc ht h1 h hfree)
  ·rename_i hc ht
   obtain⟨h1,h⟩:=(J1 _ _).1 h
   exact ex (A1h hT hop hc ht h1 h) λ_ h=>h
  ·rename_i hc
   exact ex (xG (mx:=true) hop hc h) λ_ h=>h
  ·rename_i hc
   exact ex (xG (mx:=false) hop hc h) λ_ h=>h
  ·rename_i hc ht
   have hN:∀(c:Call) (m x:V),c.callee=.builtin .copy->opN (.call c) [m,x] nf=zU m:=λc m x hc=>by simp[opN,hc]
   rw[hN _ _ _ hc] at hl ⊢
   exact nw (by simp[EK,hc]) (XP hT hop hc ht h)
  ·exact h.elim
 ·exact h.elim
end Go.PM

/- Contracts of functions. -/
import Derived.Test.YtpgioncclmancaaGreatPK17
set_option linter.unusedVariables false
set_option linter.unusedSimpArgs false
set_option maxHeartbeats 4000000
set_option maxRecDepth 40000
namespace Am
open Go
variable{h h':a9}{b lo qb wb wz:Nat}{W H c pw:Int}{Q:List Int}
theorem anv{k:mm}:Mod b (b+1) h (h.set b k):=⟨by simp,λc a d=>by rw[ag (by omega)]⟩
def CH(lo:Nat)(h:a9)(v:Value)(p:Poly):Prop:=∃s,v=.agg #[I p.1,s]∧Vo h lo h.length cZ s p.2
theorem CH.put{v:Value}{p:Poly}{k:mm}(x:CH lo h v p)(a:b<lo):CH lo (h.set b k) v p:=by obtain⟨s,e,r⟩:=x;exact⟨s,e,(r.mod anv (.inr (by omega))).wide (aa _) (by simp)⟩
theorem CH.v{v:Value}{p:Poly}(x:CH lo h v p):mq h v p:=by obtain⟨s,e,r⟩:=x;exact⟨s,e,r.vr⟩
structure Ej (lo hi qb wb wz:Nat) (W H:Int) (h:a9) (Q:List Int):Prop where
 box:h[qb]?=some ⟨[I W,I H,sl wb 0 Q.length wz],true⟩
 z:wz=1∨wb=0∧Q=[]
 Je:Q=[]∨(h[wb]?=some ⟨ints Q,true⟩∧lo<=wb∧wb<hi∧wb≠qb)
 qlo:lo<=qb∧qb<hi
 i64:∀x∈Q,bK x
theorem Ej.grow{hi:Nat}(x:Ej lo hi qb wb wz W H h Q)(g:ae h h'):Ej lo hi qb wb wz W H h' Q:=
 ⟨g.at x.box,x.z,x.Je.imp id λe=>⟨g.at e.1,e.2⟩,x.qlo,x.i64⟩
theorem Ej.pt{hi:Nat}(x:Ej lo hi qb wb wz W H h Q)(w1:bK W)(w2:bK H)(hl:Q.length<=1000000):gY h (Am.pt qb 0) (W,H,Q):=
 gY.at x.box (Vr.fY x.z (by rw[cH];omega) x.i64 (x.Je.imp id λe=>cI e.1 (by simp[ints]))) w1 w2
theorem Ej.put{hi:Nat}{k:Nat}{y:Int}(x:Ej lo hi qb wb wz W H h Q)(a:k<Q.length)(hy:bK y):wz=1∧storeAt h wb k [I y]=some (h.set wb ⟨ints (Q.set k y),true⟩)∧Ej lo hi qb wb wz W H (h.set wb ⟨ints (Q.set k y),true⟩) (Q.set k y)∧lo<=wb∧wb<hi:=by
 have c:Q≠[]:=by intro e;rw[e]at a;simp at a
 obtain⟨b1,b2,b3,b⟩:=x.Je.resolve_left c;have d:wz=1:=x.z.resolve_right (λe=>c e.2);refine⟨d,iF b1 a,⟨?_,.inl d,.inr ⟨jy b1,b2,b3,b⟩,x.qlo,?_⟩,b2,b3⟩
 ·rw[ag b,x.box,aS]
 ·intro z f;rcases bJ f with q|q
  ·exact x.i64 z q
  ·rw[q];exact hy
theorem aDy(h:a9)(hp:0<h.length)(pv:Value)(X:bW)(pp:gY h pv X)(ok:fg X)(J:(rB X.2.2).length<=8):aN aE 519 [pv] h λr h'=>CI h h' r (TU X):=by
 have w8:=ok.w;have h8:=ok.h;have iJ:=ok.row;have hlen:X.2.2.length<=112:=by obtain⟨W,H,br⟩:=X;exact jH ok
 have iW:bK X.1:=by unfold bK;omega
 have iH:bK X.2.1:=by unfold bK;omega
 have ebr:TU X=Au X (rB X.2.2) (O9 (rB X.2.2).length):=rfl;rw[ebr];have PA:=λw=>Gb ok J w;have Eb:∀w,Au X (rB X.2.2) (w+1)=Eo (Au X (rB X.2.2) w) (pP (oE w (rB X.2.2).length) (BD (bC (X.1,X.2.1,rG X.1.toNat X.2.1.toNat (rB X.2.2) w (rB X.2.2).length X.2.2)-1))):=λw=>rfl;have s0:Au X (rB X.2.2) 0=(0,[]):=rfl;obtain⟨F,eF⟩:=aC (Au X (rB X.2.2));have KW:=ahX h hp pv X pp ok;rw[NR]at KW;have Mw:=λi hi=>aeT (br:=X.2.2) (i:=i) hi;have axr:=λh k pp hk=>aC8 h pv X X.1.toNat X.2.1.toNat k pp (by omega) (by omega) (by omega) (by omega) (by omega) (by omega) hk;have ZB:=λh hp pp=>Jh h pv X hp pp (by omega);obtain⟨cr,ecr⟩:=aC (rB X.2.2);obtain⟨n,en⟩:=aC cr.length;simp only[<-eF]at PA Eb s0 ⊢;simp only[<-ecr]at Eb KW Mw J ⊢;simp only[<-en]at Eb Mw J ⊢;clear eF ebr;have okF:=λw i=>Pz (W:=X.1) (H:=X.2.1) (br:=X.2.2) (cr:=cr) (w:=w) (i:=i) ok;have P:=λw i=>vR (W:=X.1.toNat) (H:=X.2.1.toNat) (cr:=cr) (w:=w) i X.2.2;have over:=λw v=>aj4 (W:=X.1.toNat) (H:=X.2.1.toNat) (cr:=cr) (w:=w) (v:=v) (br:=X.2.2);rw[<-en]at over;obtain⟨c,eQ⟩:∃c:Nat->List Int,c=λw=>match w with|0=>X.2.2|w+1=>rG X.1.toNat X.2.1.toNat cr w n X.2.2:=⟨_,rfl⟩
 have A:c 0=X.2.2:=by rw[eQ]
 have q:∀w,c (w+1)=rG X.1.toNat X.2.1.toNat cr w n X.2.2:=λw=>by rw[eQ]
 have R:∀w,rG X.1.toNat X.2.1.toNat cr w n (c w)=c (w+1):=by
  intro w;rw[q];cases w with
  |zero=>rw[A]
  |succ v=>rw[q];exact over (v+1) v
 have S:∀w,(c w).length=X.2.2.length:=by
  intro w;cases w with
  |zero=>rw[A]
  |succ v=>rw[q];exact P v n
 have ZY:∀w i,(rG X.1.toNat X.2.1.toNat cr w i (c w)).length=X.2.2.length:=λw i=>by rw[vR,S]
 have O:∀w i,rG X.1.toNat X.2.1.toNat cr w (i+1) (c w)=(rG X.1.toNat X.2.1.toNat cr w i (c w)).set (cr.getD i 0) (yK X.1.toNat X.2.1.toNat (cr.getD i 0) (AW w i)):=λw i=>rfl;have fi0:∀w,rG X.1.toNat X.2.1.toNat cr w 0 (c w)=c w:=λw=>rfl;obtain⟨L,Z⟩:∃L:Nat->Nat->List Int,L=λw i=>rG X.1.toNat X.2.1.toNat cr w i (c w):=⟨_,rfl⟩;have Q:∀w i,rG X.1.toNat X.2.1.toNat cr w i (c w)=L w i:=λw i=>by rw[Z]
 simp only[Q]at R ZY O fi0;clear Z Q eQ over P;have p2:=agq J;obtain⟨M,eM⟩:=aC (O9 n);have shl:=Y3 (j:=.u64) J;rw[<-eM]at shl p2 ⊢;have wu:∀i:Nat,i<=1000->IntKind.u64.wrap (i:Int)=i:=λi hi=>awF (by omega) (by omega);have wun:=wu n (by omega);refine afq ?_;refine bg λK d=>?_
 try simp(disch:=omega)
 refine d ?_;refine bg λK d=>?_
 try simp(disch:=omega)
 refine aO KW ?_;rintro cv h1⟨g1,b1⟩;obtain⟨cb,rfl⟩:=b1.nw;have OM:(ints (cP cr)).length=n:=by simp[ints,jh,en]
 have hcr:∀h',ae h1 h'->∀i,i<n->cell h' cb i=some (I (cr.getD i 0:Nat)):=by intro h' g i hi;have:=(b1.grow g).Jc (i:=i) (by rw[OM];exact hi);rw[this];simp only[ints,cP,iP];rw[fR (by omega)]
 rw[OM]
 try simp(disch:=omega)
 refine d ?_;refine bg λK d=>?_
 try simp(disch:=omega)
 refine d ?_;refine bg λK d=>?_
 try simp(disch:=omega)
 refine d ?_;have mT:=aL hp g1;refine bg λK d=>?_
 try simp(disch:=omega)
 refine aO (ZB h1 mT (pp.grow g1)) ?_;rintro qv u⟨g2,o2⟩;obtain⟨s2,rfl,_,_,o3⟩:=o2.dE;obtain⟨wb,wz,rfl,hz,hm,RC,wV⟩:=o3.ints;obtain⟨qb,eqb⟩:=aC u.length;have sbx:storeAt (u++[⟨[I 0,I 0,sl 0 0 0 0],true⟩]) u.length 0 [I X.1,I X.2.1,sl wb 0 X.2.2.length wz]=some (u++[⟨[I X.1,I X.2.1,sl wb 0 X.2.2.length wz],true⟩]):=rH rfl;simp(disch:=omega)[sbx];obtain⟨p,e3⟩:=aC (u++[⟨[I X.1,I X.2.1,sl wb 0 X.2.2.length wz],true⟩]);have g3:ae u p:=⟨_,e3⟩;have lh3:p.length=u.length+1:=by rw[e3];simp
 have l12:=g2.le;have Q0:Ej h1.length p.length qb wb wz X.1 X.2.1 p (c 0):=by rw[A];refine⟨by rw[e3,eqb];simp,hz,wV.imp id λe=>⟨g3.at e.1,e.2.1,by omega,by omega⟩,by omega,RC⟩
 rw[<-e3,<-eqb];refine d ?_;obtain⟨f,eHI⟩:=aC p.length;rw[<-eHI]at Q0;have K0:CH f p (.agg #[I 0,sl 0 0 0 1]) (F 0):=by rw[s0];exact⟨_,rfl,Vo.fY (X:=[]) (.inl rfl) (by simp) (by simp) (.inl rfl)⟩
 have tO:=g2.trans g3;have hH3:f<=p.length:=by omega
 have aL4:0<h1.length:=mT;clear wV RC o3 o2 hz hm sbx;rw[aw];generalize hP:aP aE _ _=PP
 try simp(disch:=omega)
 refine aU (λw σ h'=>w<=M∧ae h1 h'∧f<=h'.length∧CH f h' (σ 5) (F w)∧Ej h1.length f qb wb wz X.1 X.2.1 h' (c w)∧σ 0=pv∧σ 2=.agg #[I 0,sl 0 0 0 0]∧σ 3=sl cb 0 n 1∧σ 4=I n∧σ 6=pt qb 0∧σ 7=I w) (λw=>M-w) 0 ?_ ?_
 ·exact⟨by omega,tO,hH3,by first|exact K0|simpa using K0,Q0,by first|rfl|simp,by first|rfl|simp,by first|rfl|simp,by first|rfl|simp,by first|rfl|simp,by first|rfl|simp⟩
 rintro w σ h'⟨hw,hg,hH,p5,hQ,q0,q2,q3,q4,q6,q7⟩;simp(disch:=omega)[q4,q7,wun,shl];refine aG (λbB=>?_) (λdG=>?_)
 ·have w1:w<M:=by omega
  rw[oQ,pI,aq,aw];generalize BS:aP aE _ _=BB;rw[gJ];generalize vV:eY _ BB=B1;refine bg λK d=>?_
  try simp(disch:=omega)
  refine d ?_;rw[aw];generalize hP2:aP aE _ _=P2
  try simp(disch:=omega)
  refine aU (λi τ l=>i<=n∧ae h1 l∧f<=l.length∧CH f l (τ 5) (F w)∧Ej h1.length f qb wb wz X.1 X.2.1 l (L w i)∧τ 0=pv∧τ 2=.agg #[I 0,sl 0 0 0 0]∧τ 3=sl cb 0 n 1∧τ 4=I n∧τ 6=pt qb 0∧τ 7=I w∧τ 8=I (oE w i)∧τ 9=I i) (λi=>n-i) 0 ?_ ?_
  ·exact⟨by omega,hg,hH,by simpa using p5,by rw[fi0];exact hQ,by simpa using q0,by simpa using q2,by simpa using q3,by simpa using q4,by simpa using q6,by simpa using q7,by simp[oE],by simp⟩
  rintro i τ l⟨hi,gi,hHi,p5i,B,t0,t2,t3,t4,t6,t7,E,G⟩;simp(disch:=omega)[t4,G];refine aG (λbB=>?_) (λdG=>?_)
  ·have i1:i<n:=by omega
   have ci:=hcr l gi i i1;have s:=Mw i i1;have t:=O w i;obtain⟨x,ex⟩:=aC (cr.getD i 0);rw[<-ex]at ci s t;have sh:=Y4 (w:=w) (i:=i) (j:=.u64) (by omega);have an:=Xz (w:=w) (i:=i) (by omega);have wui:=wu i (by omega);have pb:=Cv (w:=w) i;have wp1:=cQ (oE w i+1) (oE w i+1);have wp2:=cQ (oE w i-1) (oE w i-1);have C:oE w (i+1)=if AW w i then oE w i+1 else oE w i-1:=rfl;obtain⟨pw,Q9⟩:=aC (oE w i);rw[<-Q9]at wp1 wp2 C E;have eb:AW w i=decide (((bN w i:Nat):Int)=1):=by unfold AW;exact decide_eq_decide.2 ⟨λh=>by omega,λh=>by omega⟩
   rw[oQ,pI,aq,aw];generalize hC':aP aE _ _=CC;rw[gJ];generalize FD:eY _ CC=C1;refine bg λK d=>?_;simp(disch:=omega)[t7,G,wui,sh,an];rw[<-eb];obtain⟨al,eal⟩:=aC (AW w i);rw[<-eal]at C t ⊢;refine d ?_;have kk:=Vx (W:=X.1.toNat) (H:=X.2.1.toNat) (k:=x) (a:=al);obtain⟨jD,st,hQ5,lw1,lw2⟩:=B.put (k:=x) (y:=yK X.1.toNat X.2.1.toNat x al) (by rw[ZY];exact s) (by unfold bK;omega);rw[<-t]at st hQ5;have bx:=B.box;rw[ZY]at bx;have cbx:=i9 (i:=2) bx (v:=sl wb 0 X.2.2.length wz) (by simp);obtain⟨D,m⟩:=aC (l.set wb ⟨ints (L w (i+1)),true⟩);rw[<-m]at st hQ5;have g5:ae h1 D:=by rw[m];exact gi.put lw1 _
   have p55:CH f D (τ 5) (F w):=by rw[m];exact p5i.put lw2
   have l5:f<=D.length:=by rw[m,aS];exact hHi
   have ppi:=pp.grow (g1.trans gi);refine bg λK d=>?_;simp(disch:=omega)[t0,t3,t6,G,cbx,i1,ci];refine aO (axr l x ppi (by omega)) ?_;rintro _ h6⟨⟨px,py,zM,rfl⟩,rfl⟩;have qK:=zM.bd
   try simp(disch:=omega)
   refine aO (aDA h6 X.1.toNat X.2.1.toNat x px py al zM (by omega)) ?_;rintro _ _⟨rfl,rfl⟩;simp(disch:=omega)[s,st];refine d ?_;rw[aw];generalize d:aP aE _ _=K
   try simp(disch:=omega)
   subst d;simp only[aq];cases al
   ·simp only[ax,if_false]at C;simp(disch:=omega)[E,wp2];subst FD;rw[fk,if_neg (by omega)];subst hC';simp only[aq];simp(disch:=omega)[G,wrap64];refine⟨i+1,?_,by omega⟩;rw[C];and_intros<;>first|assumption|omega|rfl
   ·simp only[if_true]at C;simp(disch:=omega)[E,wp1];subst FD;rw[fk,if_neg (by omega)];subst hC';simp only[aq];simp(disch:=omega)[G,wrap64];refine⟨i+1,?_,by omega⟩;rw[C];and_intros<;>first|assumption|omega|rfl
  ·have:i=n:=by omega
   rw[this]at B E;clear this dG hi G;simp(disch:=omega);subst hP2;simp only[aq];rw[R]at B;have R3:=okF w n;have Md:=Eb w;have qs:=q w;rw[<-qs]at R3 Md;have pb:=Cv (w:=w) n;obtain⟨pw,Q9⟩:=aC (oE w n);rw[<-Q9]at E Md pb;have ppq:=B.pt iW iH (by rw[S];omega);have ah0:=mf R3;have hpi:=aL mT gi;have DV:=HF l hpi (pt qb 0) (X.1,X.2.1,c (w+1)) ppq R3;obtain⟨N,eN⟩:=aC (bC (X.1,X.2.1,c (w+1)));rw[<-eN]at Md ah0 DV;have wN:=cQ ((N:Int)-1) ((N:Int)-1);obtain⟨s5,m,v5⟩:=p5i.v;obtain⟨T,V,U,Y,rfl⟩:∃b o n z,s5=sl b o n z:=by obtain⟨b,o,z,e,_⟩:=v5.ints;exact⟨b,o,_,z,e⟩
   have p5v:mq l (.agg #[I (F w).1,sl T V U Y]) (F w):=⟨_,rfl,v5⟩;have npw:=Fg (N-1);have nsh:=Ir (K:=8) (k:=pw) npw (by omega);rw[cy];simp(disch:=omega)[m,t6];refine aO DV ?_;rintro _ p⟨g3,rfl⟩;simp(disch:=omega)[wN];have Bm:=aL hpi g3;refine aO (aDB p Bm ((N:Int)-1) (N-1) (by omega) (by omega) (by omega)) ?_;rintro _ h4⟨g4,s4,rfl,v4⟩;obtain⟨cb4,co4,cn4,cz4,rfl⟩:∃b o n z,s4=sl b o n z:=by obtain⟨b,o,z,e,_⟩:=v4.ints;exact⟨b,o,_,z,e⟩
   simp(disch:=omega)[E];have Rv:=aL Bm g4;refine aO (aDE h4 Rv _ (BD (N-1)) pw (1+3*(N-1)) ⟨_,rfl,v4⟩ npw (by omega) (by omega)) ?_;rintro _ D⟨g5,s5',rfl,v5'⟩;obtain⟨cb6,co6,cn6,cz6,rfl⟩:∃b o n z,s5'=sl b o n z:=by obtain⟨b,o,z,e,_⟩:=v5'.ints;exact⟨b,o,_,z,e⟩
   try simp(disch:=omega)
   have hp5:=aL Rv g5;have g35:=g3.trans (g4.trans g5);refine aO (axw D hp5 _ _ (F w) (pP pw (BD (N-1))) (p5v.grow g35) ⟨_,rfl,v5'⟩ ((PA w).small (by omega)) (nsh.small (by omega))) ?_;rintro _ h6⟨g6,w6,rfl,r6⟩;rw[<-Md]at r6 ⊢;have r6':=r6.wide (show f<=D.length by have:=g35.le;omega) (aa _);obtain⟨vb,vz,rfl,_⟩:=r6.ints;have g36:=g35.trans g6;have gg:=gi.trans g36;have hH6:f<=h6.length:=by have:=g36.le;omega
   have hQ6:=B.grow g36;have P3:CH f h6 (.agg #[I (F (w+1)).1,sl vb 0 (F (w+1)).2.length vz]) (F (w+1)):=⟨_,rfl,r6'⟩;simp(disch:=omega)[m];subst vV;rw[fk,if_neg (by omega)];subst BS;simp only[aq];simp(disch:=omega)[t7,wrap64];refine⟨w+1,?_,by omega⟩;and_intros<;>first|assumption|omega|rfl
 ·have:w=M:=by omega
  subst this;obtain⟨s5,m,v5⟩:=p5.v;obtain⟨T,V,U,Y,rfl⟩:∃b o n z,s5=sl b o n z:=by obtain⟨b,o,z,e,_⟩:=v5.ints;exact⟨b,o,_,z,e⟩
  simp(disch:=omega);subst hP;simp(disch:=omega)[q2,m];exact⟨g1.trans hg,_,rfl,v5⟩
def xk(cs:List Int):Bool:=decide (∀i,i<cs.length->gZ (cs.getD i 0) (-1000000000000) 1000000000000=true)
def yv(p:Poly):Bool:=if p.2=[]then decide (p.1=0)else if xk p.2 then(decide (p.2.length<=400)&&(gZ p.1 (-1000) 1000&&(decide (p.2.getD 0 0≠0)&&decide (p.2.getD (p.2.length-1) 0≠0))))else false
def Nm(cs:List Int)(k:Nat):Prop:=∀i,i<k->gZ (cs.getD i 0) (-1000000000000) 1000000000000=true
theorem Nm.succ{cs:List Int}{k:Nat}(x:Nm cs k)(h:gZ (cs.getD k 0) (-1000000000000) 1000000000000=true):Nm cs (k+1):=by
 intro i hi;by_cases e:i=k
 ·rw[e];exact h
 ·exact x i (by omega)
theorem aCc(h:a9)(v:Value)(p:Poly)(pv:mq h v p)(hl:p.2.length<=100000):aN aE 141 [v] h λr h'=>r=B (yv p)∧h'=h:=by
 obtain⟨A,L⟩:=aC (yv p);have a:=L;unfold yv at a;rw[<-L];obtain⟨lo,cs⟩:=p;obtain⟨s,rfl,vs⟩:=pv;simp only at vs hl a;obtain⟨b,o,z,rfl,hz,_,hx,hc⟩:=vs.ints;have q:=λk P=>k9 hc (k:=k) P;obtain⟨n,E⟩:=aC cs.length;simp only[<-E]at q hl a ⊢;refine ag8 λK c=>?_;refine c ?_;refine akW λK c=>?_;refine c ?_;rw[aw];generalize c:aP aE _ _=K;by_cases T:n=0
 ·have:cs=[]:=aB.1 (by omega);rw[if_pos this]at a;simp(disch:=omega)[T];subst c;simp(disch:=omega)[a]
 have W:¬(n:Int)=0:=by omega
 have ne:cs≠[]:=by intro e;rw[e]at E;simp at E;omega
 rw[if_neg ne]at a;simp(disch:=omega)[T,W];subst c;simp only[aq];obtain⟨X,d⟩:∃S,S=Value.agg #[I lo,sl b o n z]:=⟨_,rfl⟩;rw[aw];generalize N:aP aE _ _=PP;simp(disch:=omega);refine aU (λk σ h'=>k<=n∧h'=h∧Nm cs k∧σ 1=X∧σ 3=I n∧σ 15=sl b o n z∧σ 16=I n∧σ 17=I k) (λk=>n-k) 0 ?_ ?_
 ·exact⟨by omega,rfl,by intro i hi;omega,by simp[d],by simp,by simp,by simp,by simp⟩
 rintro k σ h'⟨P,rfl,O,q1,t,AK,IS,Fh⟩;simp(disch:=omega)[IS,Fh];refine aG (λbB=>?_) (λdG=>?_)
 ·have R:k<n:=by omega
  have J:=q k R;obtain⟨x,ex⟩:=aC (cs.getD k 0);rw[<-ex]at J;simp(disch:=omega)[AK,Fh,R,J];refine aO (B8 x _ _ h') ?_;rintro _ _⟨rfl,rfl⟩;cases M:gZ x (-1000000000000) 1000000000000
  ·have:xk cs=false:=by unfold xk;rw[decide_eq_false];intro ia;have:=ia k (by omega);rw[<-ex,M]at this;cases this
   rw[this]at a;simp only[ax,if_false]at a;simp(disch:=omega);subst N;simp(disch:=omega)[a]
  ·have yh:=O.succ (by rw[<-ex];exact M);simp(disch:=omega)[Fh,wrap64];refine⟨k+1,?_,by omega⟩;and_intros<;>first|assumption|omega|rfl
 ·have:k=n:=by omega
  subst this;have:xk cs=true:=by unfold xk;exact decide_eq_true λi hi=>O i (by omega)
  rw[this]at a;simp only[if_true]at a;simp(disch:=omega);subst N;simp only[aq];have f:=q 0 (by omega);have c1:=q (k-1) (by omega);rw[bA]at f;obtain⟨x,ex⟩:=aC (cs.getD 0 0);obtain⟨y,ey⟩:=aC (cs.getD (k-1) 0);rw[<-ex]at f a;rw[<-ey]at c1 a;have F:0<k:=by omega
  have D:(0:Int)<k:=by omega
  obtain⟨j,ej⟩:=aC (k-1);rw[<-ej]at c1;have wk:=cQ ((k:Int)-1) j;have Q:j<k:=by omega
  have g:=B8 lo (-1000) 1000 h';obtain⟨w1,H⟩:∃w,w=decide ((k:Int)<=400):=⟨_,rfl⟩;have C:w1=decide (k<=400):=by rw[H];exact decide_eq_decide.2 ⟨λh=>by omega,λh=>by omega⟩
  obtain⟨w2,U⟩:∃w,w=gZ lo (-1000) 1000:=⟨_,rfl⟩;obtain⟨w3,l⟩:∃w,w=decide (x≠0):=⟨_,rfl⟩;obtain⟨V,m⟩:∃w,w=decide (y≠0):=⟨_,rfl⟩;rw[<-C,<-U,<-l,<-m]at a;rw[<-U]at g;have Y:(!decide (x=0))=w3:=by rw[l];simp
  have Z:(!decide (y=0))=V:=by rw[m];simp
  refine bg λK c=>?_;cases w1
  ·simp(disch:=omega)[q1,t,d,<-H,<-C];refine c ?_;simp(disch:=omega)[a]
  simp(disch:=omega)[q1,t,d,<-H,<-C];refine aO g ?_;rintro _ _⟨rfl,rfl⟩;cases w2
  ·simp(disch:=omega);refine c ?_;simp(disch:=omega)[a]
  cases w3
  ·have u:x=0:=by simpa using l
   rw[u]at f;simp(disch:=omega)[q1,d,F,D,f];refine c ?_;simp(disch:=omega)[a]
  have u:¬x=0:=by simpa using l
  cases V
  ·have G:y=0:=by simpa using m
   rw[G]at c1;simp(disch:=omega)[q1,t,d,F,D,f,u,wk,Q,c1];refine c ?_;simp(disch:=omega)[a]
  have G:¬y=0:=by simpa using m
  simp(disch:=omega)[q1,t,d,F,D,f,u,wk,Q,c1,G];refine c ?_;simp(disch:=omega)[a]
theorem aDD(h:a9)(pb:Nat)(s:Value)(p:Poly)(k0:cell h pb 0=some (I p.1))(f:cell h pb 1=some s)(vs:Vr h cZ s p.2)(hl:p.2.length<=100000):aN aE 524 [pt pb 0] h λr h'=>r=B (yv p)∧h'=h:=by
 obtain⟨A,N⟩:=aC (yv p);have a:=N;unfold yv at a;rw[<-N];obtain⟨lo,cs⟩:=p;simp only at vs hl a k0;obtain⟨b,o,z,rfl,hz,_,hx,Y⟩:=vs.ints;have q:=λk R=>k9 Y (k:=k) R;obtain⟨n,E⟩:=aC cs.length;simp only[<-E]at q hl a f;refine ag8 λK c=>?_;refine c ?_;refine bg λK c=>?_;simp(disch:=omega)[f];refine c ?_;rw[aw];generalize c:aP aE _ _=K;by_cases T:n=0
 ·have:cs=[]:=aB.1 (by omega);rw[if_pos this]at a;simp(disch:=omega)[T,k0];subst c;simp(disch:=omega)[a]
 have V:¬(n:Int)=0:=by omega
 have ne:cs≠[]:=by intro e;rw[e]at E;simp at E;omega
 rw[if_neg ne]at a;simp(disch:=omega)[T,V];subst c;simp only[aq];rw[aw];generalize P:aP aE _ _=PP;simp(disch:=omega);refine aU (λk σ h'=>k<=n∧h'=h∧Nm cs k∧σ 0=pt pb 0∧σ 3=I n∧σ 4=I k) (λk=>n-k) 0 ?_ ?_
 ·exact⟨by omega,rfl,by intro i hi;omega,by simp,by simp,by simp⟩
 rintro k σ h'⟨R,rfl,Q,g,m,G⟩;simp(disch:=omega)[m,G];refine aG (λbB=>?_) (λdG=>?_)
 ·have L:k<n:=by omega
  have M:=q k L;obtain⟨x,ex⟩:=aC (cs.getD k 0);rw[<-ex]at M;simp(disch:=omega)[g,G,f,L,M];refine aO (xW x _ _ h') ?_;rintro _ _⟨rfl,rfl⟩;cases O:gZ x (-1000000000000) 1000000000000
  ·have:xk cs=false:=by unfold xk;rw[decide_eq_false];intro Z;have:=Z k (by omega);rw[<-ex,O]at this;cases this
   rw[this]at a;simp only[ax,if_false]at a;simp(disch:=omega);subst P;simp(disch:=omega)[a]
  ·have yh:=Q.succ (by rw[<-ex];exact O);simp(disch:=omega)[G,wrap64];refine⟨k+1,?_,by omega⟩;and_intros<;>first|assumption|omega|rfl
 ·have:k=n:=by omega
  subst this;have:xk cs=true:=by unfold xk;exact decide_eq_true λi hi=>Q i (by omega)
  rw[this]at a;simp only[if_true]at a;simp(disch:=omega);subst P;simp only[aq];have d:=q 0 (by omega);have c1:=q (k-1) (by omega);rw[bA]at d;obtain⟨x,ex⟩:=aC (cs.getD 0 0);obtain⟨y,X⟩:=aC (cs.getD (k-1) 0);rw[<-ex]at d a;rw[<-X]at c1 a;have F:0<k:=by omega
  have D:(0:Int)<k:=by omega
  obtain⟨j,W⟩:=aC (k-1);rw[<-W]at c1;have wk:=cQ ((k:Int)-1) j;have S:j<k:=by omega
  have l:=xW lo (-1000) 1000 h';obtain⟨w1,J⟩:∃w,w=decide ((k:Int)<=400):=⟨_,rfl⟩;have v:w1=decide (k<=400):=by rw[J];exact decide_eq_decide.2 ⟨λh=>by omega,λh=>by omega⟩
  obtain⟨w2,U⟩:∃w,w=gZ lo (-1000) 1000:=⟨_,rfl⟩;obtain⟨w3,u⟩:∃w,w=decide (x≠0):=⟨_,rfl⟩;obtain⟨w4,C⟩:∃w,w=decide (y≠0):=⟨_,rfl⟩;rw[<-v,<-U,<-u,<-C]at a;rw[<-U]at l;refine bg λK c=>?_;cases w1
  ·simp(disch:=omega)[g,m,<-J,<-v];refine c ?_;simp(disch:=omega)[a]
  simp(disch:=omega)[g,m,k0,<-J,<-v];refine aO l ?_;rintro _ _⟨rfl,rfl⟩;cases w2
  ·simp(disch:=omega);refine c ?_;simp(disch:=omega)[a]
  cases w3
  ·have t:x=0:=by simpa using u
   rw[t]at d;simp(disch:=omega)[g,f,F,D,d];refine c ?_;simp(disch:=omega)[a]
  have t:¬x=0:=by simpa using u
  cases w4
  ·have H:y=0:=by simpa using C
   rw[H]at c1;simp(disch:=omega)[g,m,f,F,D,d,t,wk,S,c1];refine c ?_;simp(disch:=omega)[a]
  have H:¬y=0:=by simpa using C
  simp(disch:=omega)[g,m,f,F,D,d,t,wk,S,c1,H];refine c ?_;simp(disch:=omega)[a]
def wQ(X:bW):Int:=if iv X then(if 8<(rB X.2.2).length∨20<X.1*X.2.1 then 5 else 0)else 1
noncomputable def DH(X:bW):Poly×Int:=if wQ X=0 then(TU X,0)else((0,[]),wQ X)
def akj(h h':a9)(r:Value)(A:Poly×Int):Prop:=ae h h'∧∃v,r=.tuple #[v,I A.2]∧mq h' v A.1∧∃s,v=.agg #[I A.1.1,s]∧∃b o n z,s=sl b o n z
theorem Fw{X:bW}(h:wQ X=0):fg X∧(rB X.2.2).length<=8:=by
 unfold wQ at h;cases e:iv X
 ·rw[e]at h;simp at h
 ·rw[e]at h;simp only[if_true]at h;split at h
  ·omega
  ·rename_i q;exact⟨dK.1 e,by omega⟩
theorem aCf(h:a9)(hp:0<h.length)(v:Value)(X:bW)(k:Vr h bU v X):aN aE 146 [v] h λr h'=>r=I (wQ X)∧ae h h':=by
 have q:=k;obtain⟨A,g⟩:=aC (wQ X);have a:=g;unfold wQ at a;rw[<-g];obtain⟨W,H,br⟩:=X;obtain⟨s,rfl,w1,w2,r⟩:=k.dE;refine ag8 λK b=>?_;refine b ?_;rw[aw];generalize b:aP aE _ _=K;simp(disch:=omega);refine aO (B7 _ _ h q) ?_;rintro _ h1⟨rfl,rfl⟩;cases d:iv (W,H,br)
 ·simp only[d,ax,if_false]at a;subst a;simp(disch:=omega);subst b;simp(disch:=omega);exact ae.refl _
 have ok:=dK.1 d;have l:=ok.w;have j:=ok.h;simp only at l j;have hlen:=jH ok;simp only[d,if_true]at a;simp(disch:=omega);subst b;simp only[aq];have f:=c29 h1 hp W H br s ok r;rw[NR]at f;obtain⟨n,i⟩:=aC ((rB br).length);rw[<-i]at a;rw[aw];generalize b:aP aE _ _=K;simp(disch:=omega);refine aO f ?_;rintro cv t⟨g2,b2⟩;obtain⟨cb,rfl⟩:=b2.nw;have p:(ints (cP (rB br))).length=n:=by simp[ints,jh,i]
 rw[p];have e:0<=W*H∧W*H<=64:=⟨gq (by omega) (by omega),by
  have:=iB l.2 j.2 (by omega) (by omega);omega⟩
 obtain⟨m,em⟩:=aC (W*H);have o:IntKind.i64.wrap (W*H)=m:=by rw[<-em];exact wrap64 (by omega) (by omega)
 rw[<-em]at a e;by_cases q1:8<n
 ·have c:(8:Int)<n:=by omega
  rw[if_pos (.inl q1)]at a;subst a;simp(disch:=omega)[q1,c];subst b;simp(disch:=omega);exact g2
 ·have c:¬(8:Int)<n:=by omega
  by_cases q2:20<m
  ·rw[if_pos (.inr q2)]at a;subst a;simp(disch:=omega)[q1,c,o,q2];subst b;simp(disch:=omega);exact g2
  ·rw[if_neg (by omega)]at a;subst a;simp(disch:=omega)[q1,c,o,q2];subst b;simp(disch:=omega);exact g2
theorem aDz(h:a9)(hp:0<h.length)(v:Value)(X:bW)(q:gY h v X):aN aE 520 [v] h λr h'=>r=I (wQ X)∧ae h h':=by
 have k:=q;obtain⟨A,l⟩:=aC (wQ X);have a:=l;unfold wQ at a;rw[<-l];obtain⟨b,o,s,rfl,y,z,E,D,_,_⟩:=q;refine ag8 λK c=>?_;refine c ?_;rw[aw];generalize c:aP aE _ _=K;simp(disch:=omega);refine aO (An _ X h k) ?_;rintro _ h1⟨rfl,rfl⟩;cases e:iv X
 ·simp only[e,ax,if_false]at a;subst a;simp(disch:=omega);subst c;simp(disch:=omega);exact ae.refl _
 have ok:=dK.1 e;have B:=ok.w;have x:=ok.h;simp only[e,if_true]at a;simp(disch:=omega);subst c;simp only[aq];have j:=ahX h1 hp _ X k ok;rw[NR]at j;obtain⟨n,p⟩:=aC ((rB X.2.2).length);rw[<-p]at a;rw[aw];generalize c:aP aE _ _=K;simp(disch:=omega);refine aO j ?_;rintro cv C⟨g2,b2⟩;obtain⟨cb,rfl⟩:=b2.nw;have u:(ints (cP (rB X.2.2))).length=n:=by simp[ints,jh,p]
 rw[u];have g:=g2.cell y;have i:=g2.cell z;have f:0<=X.1*X.2.1∧X.1*X.2.1<=64:=⟨gq (by omega) (by omega),by
  have:=iB B.2 x.2 (by omega) (by omega);omega⟩
 obtain⟨m,em⟩:=aC (X.1*X.2.1);have t:IntKind.i64.wrap (X.1*X.2.1)=m:=by rw[<-em];exact wrap64 (by omega) (by omega)
 rw[<-em]at a f;by_cases q1:8<n
 ·have d:(8:Int)<n:=by omega
  rw[if_pos (.inl q1)]at a;subst a;simp(disch:=omega)[q1,d];subst c;simp(disch:=omega);exact g2
 ·have d:¬(8:Int)<n:=by omega
  by_cases q2:20<m
  ·rw[if_pos (.inr q2)]at a;subst a;simp(disch:=omega)[q1,d,g,i,t,q2];subst c;simp(disch:=omega);exact g2
  ·rw[if_neg (by omega)]at a;subst a;simp(disch:=omega)[q1,d,g,i,t,q2];subst c;simp(disch:=omega);exact g2
theorem c63(h:a9)(hp:0<h.length)(v:Value)(X:bW)(e:Vr h bU v X):aN aE 63 [v] h λr h'=>akj h h' r (DH X):=by
 have k:=e;have c:=aCf h hp v X e;have d:=Fw (X:=X);obtain⟨A,f⟩:=aC (DH X);have a:=f;unfold DH at a;rw[<-f];obtain⟨i,j⟩:=aC (wQ X);rw[<-j]at d c a;obtain⟨W,H,br⟩:=X;obtain⟨s,rfl,w1,w2,r⟩:=e.dE;refine ag8 λK b=>?_;refine b ?_;rw[aw];generalize b:aP aE _ _=K;simp(disch:=omega);refine aO c ?_;rintro _ h1⟨rfl,g1⟩;by_cases q:i=0
 ·obtain⟨ok,g⟩:=d q;rw[if_pos q]at a;simp(disch:=omega)[q];subst b;simp only[aq];refine akW λK b=>?_;refine aO (c25 h1 (aL hp g1) W H br s ok (r.grow g1) g) ?_;rintro _ l⟨g2,s2,rfl,v2⟩;obtain⟨sb,m,n,rfl,_⟩:=v2.ints;simp(disch:=omega);refine b ?_;simp(disch:=omega);rw[a];exact⟨g1.trans g2,_,rfl,⟨_,rfl,v2⟩,_,rfl,_,_,_,_,rfl⟩
 ·rw[if_neg q]at a;simp(disch:=omega)[q];subst b;simp(disch:=omega);rw[a];exact⟨g1,_,rfl,⟨_,rfl,Vr.fY (X:=[]) (.inr ⟨rfl,rfl⟩) (by simp) (by simp) (.inl rfl)⟩,_,rfl,_,_,_,_,rfl⟩
theorem aCC(h:a9)(hp:0<h.length)(v:Value)(X:bW)(p:Vr h bU v X):aN aE 332 [v] h λr h'=>akj h h' r (DH X):=by
 have c:=λh hp pv pp=>aDz h hp pv X pp;have d:=Fw (X:=X);obtain⟨A,g⟩:=aC (DH X);have b:=g;unfold DH at b;rw[<-g];obtain⟨m,j⟩:=aC (wQ X);rw[<-j]at d b;simp only[<-j]at c;have e:=λh hp pv pp ok hn=>aDy h hp pv X pp ok hn;obtain⟨W,H,br⟩:=X;obtain⟨s,rfl,w1,w2,r⟩:=p.dE;refine ag8 λK a=>?_;obtain⟨h1,f⟩:=aC (h++[⟨[I W,I H,s],true⟩]);rw[<-f];have g1:ae h h1:=⟨_,f⟩;have t:h1[h.length]?=some ⟨[I W,I H,s],true⟩:=by rw[f];simp
 have pp:gY h1 (pt h.length 0) (W,H,br):=gY.at t (r.grow g1) w1 w2;obtain⟨pv,l⟩:=aC (pt h.length 0);rw[<-l]at pp ⊢;refine a ?_;have i:=aL hp g1;refine akW λK a=>?_;refine aO (c h1 i pv pp) ?_;rintro _ o⟨rfl,g2⟩
 try simp(disch:=omega)
 refine a ?_;rw[aw];generalize a:aP aE _ _=K;by_cases q:m=0
 ·obtain⟨ok,k⟩:=d q;rw[if_pos q]at b;simp(disch:=omega)[q];subst a;simp only[aq];refine akW λK a=>?_;refine aO (e o (aL i g2) pv (pp.grow g2) ok k) ?_;rintro _ u⟨n,s2,rfl,v2⟩;obtain⟨sb,w,x,rfl,_⟩:=v2.ints;simp(disch:=omega);refine a ?_;simp(disch:=omega);rw[b];exact⟨(g1.trans g2).trans n,_,rfl,⟨_,rfl,v2⟩,_,rfl,_,_,_,_,rfl⟩
 ·rw[if_neg q]at b;simp(disch:=omega)[q];subst a;simp(disch:=omega);rw[b];exact⟨g1.trans g2,_,rfl,⟨_,rfl,Vr.fY (X:=[]) (.inr ⟨rfl,rfl⟩) (by simp) (by simp) (.inl rfl)⟩,_,rfl,_,_,_,_,rfl⟩
def uO(c:Int):Int:=if c<0 then -c else c
def BJ(c pw:Int):List UInt8:=if c≠1∨pw=0 then bE c else[]
def BK(pw:Int):List UInt8:=if pw=0 then[]else[65]
def Ec(pw:Int):List UInt8:=if pw≠0∧pw≠1 then 94::bE pw else[]
def wO(c pw:Int):List UInt8:=BJ c pw++BK pw++Ec pw
theorem KE(a:bK c):(BJ c pw).length<=20:=by
 unfold BJ;split
 ·exact(dW a).2
 ·simp
theorem KF:(BK pw).length<=1:=by unfold BK;split<;>simp
theorem KG(hp:bK pw):(Ec pw).length<=21:=by
 unfold Ec;split
 ·have:=(dW hp).2;simp;omega
 ·simp
theorem KH(a:bK c)(hp:bK pw):(wO c pw).length<=42:=by unfold wO;have:=KE (pw:=pw) a;have:=KF (pw:=pw);have:=KG hp;simp only[af];omega
theorem aj6(b:bK c):wO c pw≠[]:=by
 intro e;have a:=congrArg List.length e;unfold wO at a;simp only[af,aF]at a;by_cases q:pw=0
 ·have:BJ c pw=bE c:=by unfold BJ;rw[if_pos (.inr q)]
  rw[this]at a;have:=(dW b).1;omega
 ·have:BK pw=[65]:=by unfold BK;rw[if_neg q]
  rw[this]at a;simp at a
theorem aDF(h:a9)(hp:0<h.length)(c pw:Int)(F:bK c)(hw:bK pw):aN aE 526 [I c,I pw] h λr h'=>ae h h'∧r=S (wO c pw):=by
 have M:=KE (pw:=pw) F;have N:=KF (pw:=pw);have O:=KG hw;have n:wO c pw=BJ c pw++BK pw++Ec pw:=rfl;have l:BJ c pw=if c≠1∨pw=0 then bE c else[]:=rfl;have s:BK pw=if pw=0 then[]else[65]:=rfl;have m:Ec pw=if pw≠0∧pw≠1 then 94::bE pw else[]:=rfl;obtain⟨T,E⟩:=aC (wO c pw);obtain⟨A,z⟩:=aC (BJ c pw);obtain⟨i,B⟩:=aC (BK pw);obtain⟨C,D⟩:=aC (Ec pw);rw[<-z]at M l n;rw[<-B]at N s n;rw[<-D]at O m n;rw[<-E]at n ⊢;clear E z B D;have H:=dW hw;obtain⟨dc,v⟩:∃d,d=bE c:=⟨_,rfl⟩;obtain⟨k,w⟩:∃d,d=bE pw:=⟨_,rfl⟩;have c1:=λh hp=>pJ c F h hp;have c2:=λh hp=>pJ pw hw h hp;simp only[<-v]at c1 l;simp only[<-w]at c2 m H;refine ag8 λK x=>?_;refine x ?_;refine akW λK x=>?_;refine x ?_;rw[aw];generalize f:aP aE _ _=PP;have post:∀(σ:Nat->Value) (h':a9),ae h h'->σ 1=I pw->σ 4=S []->σ 5=S A->PP 0 σ h':=by
  intro σ h' j q1 g b;subst f;simp only[aq];rw[aw];generalize f:aP aE _ _=PP;have y:∀(σ:Nat->Value),σ 1=I pw->σ 4=S []->σ 5=S (A++i)->PP 0 σ h':=by
   intro σ q1 g b;subst f;simp only[aq];rw[aw];generalize f:aP aE _ _=PP;have p:∀(σ:Nat->Value) (a:a9),ae h a->σ 4=S []->σ 5=S (A++i++C)->PP 0 σ a:=by intro σ a j g b;subst f;simp only[aq];simp(disch:=omega)[g,b];rw[n,cC];exact⟨j,rfl⟩
   clear f;by_cases p0:pw=0
   ·have:C=[]:=by rw[m,if_neg (by simp[p0])]
    simp(disch:=omega)[q1,p0];exact p _ h' j (by simpa using g) (by rw[this];simpa using b)
   ·by_cases o:pw=1
    ·have:C=[]:=by rw[m,if_neg (by simp[o])]
     simp(disch:=omega)[q1,o];exact p _ h' j (by simpa using g) (by rw[this];simpa using b)
    ·have u:C=94::k:=by rw[m,if_pos ⟨p0,o⟩]
     simp(disch:=omega)[q1,b,p0,o];refine aO (c2 h' (aL hp j)) ?_;rintro _ a⟨rfl,g2⟩;have J:1+k.length<=4611686018427387904:=by omega
     have G:k.length+1<=4611686018427387904:=by omega
     have q:A.length+(i.length+(k.length+1))<=4611686018427387904:=by omega
     have L:A.length+i.length+(k.length+1)<=4611686018427387904:=by omega
     simp(disch:=omega)[b,J,G,q,L];exact p _ a (j.trans g2) (by simpa using g) (by rw[u];simp)
  clear f;by_cases p0:pw=0
  ·have:i=[]:=by rw[s,if_pos p0]
   simp(disch:=omega)[q1,p0];exact y _ (by simpa using q1) (by simpa using g) (by rw[this];simpa using b)
  ·have t:i=[65]:=by rw[s,if_neg p0]
   have q:A.length+1<=4611686018427387904:=by omega
   simp(disch:=omega)[q1,b,p0,q];exact y _ (by simpa using q1) (by simpa using g) (by rw[t];simp)
 clear f;by_cases p0:pw=0
 ·have:A=dc:=by rw[l,if_pos (.inr p0)]
  by_cases e:c=1
  ·simp(disch:=omega)[p0,e];rw[e]at c1;refine aO (c1 h hp) ?_;rintro _ a⟨rfl,g2⟩
   try simp(disch:=omega)
   exact post _ a g2 (by simp[p0]) (by simp) (by simp[this])
  ·simp(disch:=omega)[p0,e];refine aO (c1 h hp) ?_;rintro _ a⟨rfl,g2⟩
   try simp(disch:=omega)
   exact post _ a g2 (by simp[p0]) (by simp) (by simp[this])
 ·by_cases e:c=1
  ·have:A=[]:=by rw[l,if_neg (by simp[e,p0])]
   simp(disch:=omega)[p0,e];exact post _ h (ae.refl _) (by simp) (by simp) (by simp[this])
  ·have:A=dc:=by rw[l,if_pos (.inl e)]
   simp(disch:=omega)[p0,e];refine aO (c1 h hp) ?_;rintro _ a⟨rfl,g2⟩
   try simp(disch:=omega)
   exact post _ a g2 (by simp) (by simp) (by simp[this])
theorem aCq(h:a9)(hp:0<h.length)(a pw:Int)(V:-1000000000000<=a∧a<=1000000000000)(hw:bK pw):aN aE 192 [I a,I pw] h λr h'=>ae h h'∧r=S (wO (uO a) pw):=by
 obtain⟨c,x⟩:=aC (uO a);rw[<-x];have L:bK c:=by rw[x];unfold uO bK;split<;>omega
 have wn:=cQ (0-a) (0-a);have D:=cQ (-a) (-a);have B:(if a< -a then -a else a)=c:=by rw[x];unfold uO;split<;>split<;>omega
 have Q:=KE (pw:=pw) L;have R:=KF (pw:=pw);have U:=KG hw;have o:wO c pw=BJ c pw++BK pw++Ec pw:=rfl;have m:BJ c pw=if c≠1∨pw=0 then bE c else[]:=rfl;have u:BK pw=if pw=0 then[]else[65]:=rfl;have n:Ec pw=if pw≠0∧pw≠1 then 94::bE pw else[]:=rfl;obtain⟨T,J⟩:=aC (wO c pw);obtain⟨A,F⟩:=aC (BJ c pw);obtain⟨j,G⟩:=aC (BK pw);obtain⟨C,H⟩:=aC (Ec pw);rw[<-F]at Q m o;rw[<-G]at R u o;rw[<-H]at U n o;rw[<-J]at o ⊢;clear J F G H;have N:=dW hw;obtain⟨dc,y⟩:∃d,d=bE c:=⟨_,rfl⟩;obtain⟨l,z⟩:∃d,d=bE pw:=⟨_,rfl⟩;have c1:=λh hp=>zC c L h hp;have c2:=λh hp=>zC pw hw h hp;simp only[<-y]at c1 m;simp only[<-z]at c2 n N;refine ag8 λK p=>?_;refine p ?_;refine bg λK p=>?_;simp(disch:=omega)[wn,D,Mj]
 try rw[B]
 refine p ?_;refine akW λK p=>?_;refine p ?_;rw[aw];generalize g:aP aE _ _=PP;have post:∀(σ:Nat->Value) (h':a9),ae h h'->σ 1=I pw->σ 4=S []->σ 5=S A->PP 0 σ h':=by
  intro σ h' k q1 i e;subst g;simp only[aq];rw[aw];generalize g:aP aE _ _=PP;have E:∀(σ:Nat->Value),σ 1=I pw->σ 4=S []->σ 5=S (A++j)->PP 0 σ h':=by
   intro σ q1 i e;subst g;simp only[aq];rw[aw];generalize g:aP aE _ _=PP;have s:∀(σ:Nat->Value) (b:a9),ae h b->σ 4=S []->σ 5=S (A++j++C)->PP 0 σ b:=by intro σ b k i e;subst g;simp only[aq];simp(disch:=omega)[i,e];rw[o,cC];exact⟨k,rfl⟩
   clear g;by_cases p0:pw=0
   ·have:C=[]:=by rw[n,if_neg (by simp[p0])]
    simp(disch:=omega)[q1,p0];exact s _ h' k (by simpa using i) (by rw[this];simpa using e)
   ·by_cases q:pw=1
    ·have:C=[]:=by rw[n,if_neg (by simp[q])]
     simp(disch:=omega)[q1,q];exact s _ h' k (by simpa using i) (by rw[this];simpa using e)
    ·have w:C=94::l:=by rw[n,if_pos ⟨p0,q⟩]
     simp(disch:=omega)[q1,e,p0,q];refine aO (c2 h' (aL hp k)) ?_;rintro _ b⟨rfl,g2⟩;have O:1+l.length<=4611686018427387904:=by omega
     have M:l.length+1<=4611686018427387904:=by omega
     have t:A.length+(j.length+(l.length+1))<=4611686018427387904:=by omega
     have P:A.length+j.length+(l.length+1)<=4611686018427387904:=by omega
     simp(disch:=omega)[e,O,M,t,P];exact s _ b (k.trans g2) (by simpa using i) (by rw[w];simp)
  clear g;by_cases p0:pw=0
  ·have:j=[]:=by rw[u,if_pos p0]
   simp(disch:=omega)[q1,p0];exact E _ (by simpa using q1) (by simpa using i) (by rw[this];simpa using e)
  ·have v:j=[65]:=by rw[u,if_neg p0]
   have t:A.length+1<=4611686018427387904:=by omega
   simp(disch:=omega)[q1,e,p0,t];exact E _ (by simpa using q1) (by simpa using i) (by rw[v];simp)
 clear g;by_cases p0:pw=0
 ·have:A=dc:=by rw[m,if_pos (.inr p0)]
  by_cases f:c=1
  ·simp(disch:=omega)[p0,f];rw[f]at c1;refine aO (c1 h hp) ?_;rintro _ b⟨rfl,g2⟩
   try simp(disch:=omega)
   exact post _ b g2 (by simp[p0]) (by simp) (by simp[this])
  ·simp(disch:=omega)[p0,f];refine aO (c1 h hp) ?_;rintro _ b⟨rfl,g2⟩
   try simp(disch:=omega)
   exact post _ b g2 (by simp[p0]) (by simp) (by simp[this])
 ·by_cases f:c=1
  ·have:A=[]:=by rw[m,if_neg (by simp[f,p0])]
   simp(disch:=omega)[p0,f];exact post _ h (ae.refl _) (by simp) (by simp) (by simp[this])
  ·have:A=dc:=by rw[m,if_pos (.inl f)]
   simp(disch:=omega)[p0,f];refine aO (c1 h hp) ?_;rintro _ b⟨rfl,g2⟩
   try simp(disch:=omega)
   exact post _ b g2 (by simp) (by simp) (by simp[this])
def qD(c:Int)(out:List UInt8):List UInt8:=if c<0 then(if out=[]then[45]else out++[32,45,32])else(if out=[]then[]else out++[32,43,32])
def vS(lo:Int)(cs:List Int):Nat->List UInt8
 |0=>[]
 |j+1=>if cs.getD (cs.length-1-j) 0=0 then vS lo cs j else qD (cs.getD (cs.length-1-j) 0) (vS lo cs j)++wO (uO (cs.getD (cs.length-1-j) 0)) (lo+(cs.length-1-j:Nat))
def BA(p:Poly):List UInt8:=if yv p then(if p.2=[]then[48]else vS p.1 p.2 p.2.length)else[]
theorem M0{out:List UInt8}:(qD c out).length<=out.length+3:=by unfold qD;split<;>split<;>simp
theorem PT(h:-1000000000000<=c∧c<=1000000000000):0<=uO c∧uO c<=1000000000000:=by unfold uO;split<;>omega
structure OkT (p:Poly):Prop where
 c:∀i,i<p.2.length->-1000000000000<=p.2.getD i 0∧p.2.getD i 0<=1000000000000
 n:p.2.length<=400
 lo:-1000<=p.1∧p.1<=1000
 last:p.2≠[]->p.2.getD (p.2.length-1) 0≠0
theorem MZ{p:Poly}(h:yv p=true):OkT p:=by
 unfold yv at h;by_cases e:p.2=[]
 ·rw[if_pos e]at h;have:=of_decide_eq_true h;exact⟨by rw[e];simp,by rw[e];simp,by omega,λq=>absurd e q⟩
 ·rw[if_neg e]at h;cases q:xk p.2
  ·rw[q]at h;simp at h
  ·rw[q]at h;simp only[if_true,aH,decide_eq_true_eq]at h;have a:=of_decide_eq_true q;exact⟨λi hi=>fM.1 (a i hi),h.1,fM.1 h.2.1,λ_=>h.2.2.2⟩
theorem Lm{lo:Int}{cs:List Int}(ok:OkT (lo,cs)):∀j,j<=cs.length->(vS lo cs j).length<=45*j
 |0,_=>by simp[vS]
 |j+1,e=>by
  have ih:=Lm ok j (by omega);rw[vS];split
  ·omega
  ·have a:=ok.c (cs.length-1-j) (by simp only;omega);simp only at a;have d:=PT a;have b:=ok.lo;have hn:=ok.n;simp only at b hn;have l1:=M0 (c:=cs.getD (cs.length-1-j) 0) (out:=vS lo cs j);have l2:=KH (c:=uO (cs.getD (cs.length-1-j) 0)) (pw:=lo+(cs.length-1-j:Nat)) (by unfold bK;omega) (by unfold bK;omega);rw[af];omega
theorem ahf{lo:Int}{cs:List Int}(ok:OkT (lo,cs)):∀j,1<=j->j<=cs.length->vS lo cs j≠[]
 |0,h,_=>by omega
 |j+1,_,b=>by
  have a:=ok.c (cs.length-1-j) (by simp only;omega);simp only at a;have f:=PT a;rw[vS];split
  ·rename_i q;by_cases d:j=0
   ·subst d;have:=ok.last (by intro e;simp only at e;rw[e]at b;simp at b);exact absurd q (by simpa using this)
   ·exact ahf ok j (by omega) (by omega)
  ·intro e;have:=(List.append_eq_nil_iff.1 e).2;exact aj6 (by unfold bK;omega) this
theorem aB5(h:a9)(hp:0<h.length)(v:Value)(p:Poly)(pv:mq h v p)(hl:p.2.length<=100000):aN aE 117 [v] h λr h'=>ae h h'∧r=S (BA p):=by
 have R:=pv;obtain⟨A,eA⟩:=aC (BA p);have f:=eA;unfold BA at f;rw[<-eA];have Q:=MZ (p:=p);obtain⟨lo,cs⟩:=p;obtain⟨s,rfl,vs⟩:=pv;simp only at vs hl f;have Zb:=vs;obtain⟨b,o,z,rfl,hz,_,hx,hc⟩:=vs.ints;have db:=λk hk=>k9 hc (k:=k) hk;obtain⟨n,D⟩:=aC cs.length;simp only[<-D]at db hl f Zb ⊢;have C:=aCc h _ (lo,cs) R (by simp only;omega);rw[<-D]at C;refine ag8 λK m=>?_;refine m ?_;rw[aw];generalize m:aP aE _ _=K;simp(disch:=omega);refine aO C ?_;rintro _ H1⟨rfl,rfl⟩;cases H:yv (lo,cs)
 ·rw[H]at f;simp only[ax,if_false]at f;subst f;simp(disch:=omega);subst m;simp(disch:=omega);exact ae.refl _
 have ok:=Q H;rw[H]at f;simp only[if_true]at f;simp(disch:=omega);subst m;simp only[aq];rw[aw];generalize m:aP aE _ _=K;by_cases n0:n=0
 ·have:cs=[]:=aB.1 (by omega);rw[if_pos this]at f;subst f;simp(disch:=omega)[n0];subst m;simp(disch:=omega);exact ae.refl _
 have E5:¬(n:Int)=0:=by omega
 have ne:cs≠[]:=by intro e;rw[e]at D;simp at D;omega
 rw[if_neg ne]at f;simp(disch:=omega)[n0,E5];subst m;simp only[aq];refine akW λK m=>?_;refine m ?_;obtain⟨F,G⟩:∃S,S=Value.agg #[I lo,sl b o n z]:=⟨_,rfl⟩;have T:∀j,vS lo cs (j+1)=if cs.getD (n-1-j) 0=0 then vS lo cs j else qD (cs.getD (n-1-j) 0) (vS lo cs j)++wO (uO (cs.getD (n-1-j) 0)) (lo+(n-1-j:Nat)):=λj=>by rw[D];rfl
 have tl:∀j,j<=n->(vS lo cs j).length<=45*j:=λj hj=>Lm ok j (by omega);have L:∀i,i<n->-1000000000000<=cs.getD i 0∧cs.getD i 0<=1000000000000:=λi hi=>ok.c i (by simp only;omega);have R3:n<=400:=by have:=ok.n;simp only at this;omega
 have P:=ok.lo;simp only at P;have V:=cQ ((n:Int)-1) ((n:Int)-1);have mT:=hp;rw[aw];generalize hP:aP aE _ _=PP;simp(disch:=omega)[V];refine aU (λj σ h'=>j<=n∧ae H1 h'∧σ 1=F∧σ 2=S []∧σ 3=S (vS lo cs j)∧σ 4=I ((n:Int)-1-j)) (λj=>n-j) 0 ?_ ?_
 ·exact⟨by omega,ae.refl _,by simp[G],by simp,by simp[vS],by simp⟩
 rintro j σ h'⟨hj,y,q1,q2,l,d⟩;have OB:=aL mT y;simp(disch:=omega)[d];refine aG (λbB=>?_) (λdG=>?_)
 ·have j1:j<n:=by omega
  have es:=T j;have lt:=tl j (by omega);obtain⟨k,ek⟩:=aC (n-1-j);have M:(n:Int)-1-j=k:=by omega
  rw[M]at d;rw[<-ek]at es;have O:k<n:=by omega
  have Z:=y.cell (db k O);have cb:=L k O;obtain⟨c,ec⟩:=aC (cs.getD k 0);rw[<-ec]at Z es cb;obtain⟨out,J⟩:=aC (vS lo cs j);rw[<-J]at es l lt;have wk:=cQ ((k:Int)-1) ((n:Int)-1-((j+1:Nat):Int));rw[oQ,pI,aq,aw];generalize X:aP aE _ _=w;have fin:∀(σ:Nat->Value) (a:a9),ae H1 a->σ 1=F->σ 2=S []->σ 3=S (vS lo cs (j+1))->σ 4=I k->w 0 σ a:=by intro σ a y q1 q2 l d;subst X;simp only[aq];simp(disch:=omega)[d];rw[wk];refine⟨j+1,?_,by omega⟩;and_intros<;>first|assumption|omega|rfl
  rw[gJ];have f0:∀(σ:Nat->Value) (a:a9),w 0 σ a->eY 1 w 0 σ a:=by intro σ a x;rw[fk,if_neg (by omega)];exact x
  have f3:∀(σ:Nat->Value) (a:a9),w 0 σ a->eY 1 w 3 σ a:=by intro σ a x;rw[fk,if_pos rfl];exact x
  generalize eY 1 w=W at f0 f3 ⊢;clear X;refine bg λK m=>?_;simp(disch:=omega)[q1,G,d,O,Z];refine m ?_;rw[aw];generalize N:aP aE _ _=B;have post:∀(σ:Nat->Value),σ 1=F->σ 2=S []->σ 3=S (qD c out)->σ 4=I k->σ 5=I c->¬c=0->B 0 σ h':=by
   intro σ q1 q2 l d q5 g;rw[if_neg g]at es;have lp:=M0 (c:=c) (out:=out);subst N;simp only[aq];have U:=cQ (lo+k) (lo+k);have l2:=KH (c:=uO c) (pw:=lo+k) (by unfold bK uO;split<;>omega) (by unfold bK;omega);have e2:(qD c out).length+(wO (uO c) (lo+k)).length<=4611686018427387904:=by omega
   simp(disch:=omega)[q1,l,d,q5,G,U];refine aO (aCq h' OB c (lo+k) cb (by unfold bK;omega)) ?_;rintro _ a⟨g2,rfl⟩;simp(disch:=omega)[l,e2];exact f0 _ _ (fin _ a (y.trans g2) (by simpa using q1) (by simpa using q2) (by rw[es];simp) (by simpa using d))
  have Y:∀(σ:Nat->Value),W 3 σ h'->B 3 σ h':=by intro σ x;rw[<-N,QB (by omega)];exact x
  clear N;rw[gJ];have E:∀(σ:Nat->Value),σ 1=F->σ 2=S []->σ 3=S (qD c out)->σ 4=I k->σ 5=I c->¬c=0->eY 2 B 0 σ h':=by intro σ a1 a2 a3 a4 a5 a6;rw[fk,if_neg (by omega)];exact post σ a1 a2 a3 a4 a5 a6
  have cont:∀(σ:Nat->Value),W 3 σ h'->eY 2 B 3 σ h':=by intro σ x;rw[fk,if_neg (by omega)];exact Y σ x
  clear post Y;generalize eY 2 B=C2 at E cont ⊢;by_cases g:c=0
  ·rw[if_pos g]at es;simp(disch:=omega)[g];exact cont _ (f3 _ _ (fin _ h' y (by simpa using q1) (by simpa using q2) (by rw[es];simpa using l) (by simpa using d)))
  ·have e3:out.length+3<=4611686018427387904:=by omega
   by_cases t:c<0
   ·by_cases q:out=[]
    ·have u:qD c out=[45]:=by unfold qD;rw[if_pos t,if_pos q]
     simp(disch:=omega)[g,t,l,q];exact E _ (by simpa using q1) (by simpa using q2) (by rw[u];simp) (by simpa using d) (by simp) g
    ·have u:qD c out=out++[32,45,32]:=by unfold qD;rw[if_pos t,if_neg q]
     simp(disch:=omega)[g,t,l,q,e3];exact E _ (by simpa using q1) (by simpa using q2) (by rw[u];simp) (by simpa using d) (by simp) g
   ·by_cases q:out=[]
    ·have u:qD c out=[]:=by unfold qD;rw[if_neg t,if_pos q]
     simp(disch:=omega)[g,t,l,q];exact E _ (by simpa using q1) (by simpa using q2) (by rw[u];simpa [q]using l) (by simpa using d) (by simp) g
    ·have u:qD c out=out++[32,43,32]:=by unfold qD;rw[if_neg t,if_neg q]
     simp(disch:=omega)[g,t,l,q,e3];exact E _ (by simpa using q1) (by simpa using q2) (by rw[u];simp) (by simpa using d) (by simp) g
 ·have:j=n:=by omega
  subst this;simp(disch:=omega);subst hP;simp(disch:=omega)[q2,l];rw[f];exact⟨y,rfl⟩
theorem aCW(h:a9)(hp:0<h.length)(v:Value)(p:Poly)(pv:mq h v p)(hl:p.2.length<=100000):aN aE 409 [v] h λr h'=>ae h h'∧r=S (BA p):=by
 have pv0:=pv;obtain⟨A,eA⟩:=aC (BA p);have g:=eA;unfold BA at g;rw[<-eA];have U:=MZ (p:=p);obtain⟨lo,cs⟩:=p;obtain⟨s,rfl,vs⟩:=pv;simp only at vs hl g;have Zb:=vs;obtain⟨b,o,z,rfl,hz,_,hx,hc⟩:=vs.ints;have db:=λk hk=>k9 hc (k:=k) hk;obtain⟨n,F⟩:=aC cs.length;simp only[<-F]at db hl g Zb ⊢;refine ag8 λK m=>?_;obtain⟨pb,Z⟩:=aC h.length;obtain⟨H1,E⟩:∃h1,h1=h++[⟨[I lo,sl b o n z],true⟩]:=⟨_,rfl⟩;have g1:ae h H1:=⟨_,E⟩;have k0:cell H1 pb 0=some (I lo):=by rw[E,Z];simp[cell]
 have G:cell H1 pb 1=some (sl b o n z):=by rw[E,Z];simp[cell]
 rw[<-E,<-Z];refine m ?_;have mT:=aL hp g1;have M:=aDD H1 pb (sl b o n z) (lo,cs) k0 G (Zb.grow g1) (by simp only;omega);rw[aw];generalize m:aP aE _ _=K;simp(disch:=omega);refine aO M ?_;rintro _ H1⟨rfl,rfl⟩;cases H:yv (lo,cs)
 ·rw[H]at g;simp only[ax,if_false]at g;subst g;simp(disch:=omega);subst m;simp(disch:=omega);exact g1
 have ok:=U H;rw[H]at g;simp only[if_true]at g;simp(disch:=omega);subst m;simp only[aq];refine akW λK m=>?_;refine m ?_;have W:∀j,vS lo cs (j+1)=if cs.getD (n-1-j) 0=0 then vS lo cs j else qD (cs.getD (n-1-j) 0) (vS lo cs j)++wO (uO (cs.getD (n-1-j) 0)) (lo+(n-1-j:Nat)):=λj=>by rw[F];rfl
 have tl:∀j,j<=n->(vS lo cs j).length<=45*j:=λj hj=>Lm ok j (by omega);have V:∀j,1<=j->j<=n->vS lo cs j≠[]:=λj h1 d=>ahf ok j h1 (by omega);have N:∀i,i<n->-1000000000000<=cs.getD i 0∧cs.getD i 0<=1000000000000:=λi hi=>ok.c i (by simp only;omega);have R3:n<=400:=by have:=ok.n;simp only at this;omega
 have T:=ok.lo;simp only at T;have X:=cQ ((n:Int)-1) ((n:Int)-1);rw[aw];generalize hP:aP aE _ _=PP;simp(disch:=omega)[G,X];refine aU (λj σ h'=>j<=n∧ae H1 h'∧σ 1=pt pb 0∧σ 2=S []∧σ 3=S (vS lo cs j)∧σ 4=I ((n:Int)-1-j)) (λj=>n-j) 0 ?_ ?_
 ·exact⟨by omega,ae.refl _,by simp,by simp,by simp[vS],by simp⟩
 rintro j σ h'⟨hj,t,q1,q2,a,f⟩;have OB:=aL mT t;simp(disch:=omega)[f];refine aG (λbB=>?_) (λdG=>?_)
 ·have j1:j<n:=by omega
  have es:=W j;have lt:=tl j (by omega);obtain⟨k,ek⟩:=aC (n-1-j);have O:(n:Int)-1-j=k:=by omega
  rw[O]at f;rw[<-ek]at es;have R:k<n:=by omega
  have ck:=t.cell (g1.cell (db k R));have cb:=N k R;obtain⟨c,ec⟩:=aC (cs.getD k 0);rw[<-ec]at ck es cb;obtain⟨out,L⟩:=aC (vS lo cs j);rw[<-L]at es a lt;have wk:=cQ ((k:Int)-1) ((n:Int)-1-((j+1:Nat):Int));rw[oQ,pI,aq,aw];generalize BS:aP aE _ _=y;have fin:∀(σ:Nat->Value) (d:a9),ae H1 d->σ 1=pt pb 0->σ 2=S []->σ 3=S (vS lo cs (j+1))->σ 4=I k->y 0 σ d:=by intro σ d t q1 q2 a f;subst BS;simp only[aq];simp(disch:=omega)[f];rw[wk];refine⟨j+1,?_,by omega⟩;and_intros<;>first|assumption|omega|rfl
  rw[gJ];have f0:∀(σ:Nat->Value) (d:a9),y 0 σ d->eY 1 y 0 σ d:=by intro σ d x;rw[fk,if_neg (by omega)];exact x
  have f3:∀(σ:Nat->Value) (d:a9),y 0 σ d->eY 1 y 3 σ d:=by intro σ d x;rw[fk,if_pos rfl];exact x
  generalize eY 1 y=B1 at f0 f3 ⊢;clear BS;refine bg λK m=>?_;simp(disch:=omega)[q1,t.cell G,f,R,ck];refine m ?_;rw[aw];generalize P:aP aE _ _=B;have post:∀(σ:Nat->Value),σ 1=pt pb 0->σ 2=S []->σ 3=S (qD c out)->σ 4=I k->σ 5=I c->¬c=0->B 0 σ h':=by
   intro σ q1 q2 a f q5 l;rw[if_neg l]at es;have lp:=M0 (c:=c) (out:=out);subst P;simp only[aq];have D:=cQ (lo+k) (lo+k);have l2:=KH (c:=uO c) (pw:=lo+k) (by unfold bK uO;split<;>omega) (by unfold bK;omega);have e2:(qD c out).length+(wO (uO c) (lo+k)).length<=4611686018427387904:=by omega
   have ab:=PT cb;have Y:=cQ (0-c) (0-c);have J:=cQ (-c) (-c);have Q:=t.cell k0;have SY:aN aE 433 [I c,I (-c)] h' λr d=>r=I (uO c)∧d=h':=by
    have e:(if -c<c then c else -c)=uO c:=by unfold uO;split<;>split<;>omega
    rw[<-e];exact Zy h' c (-c)
   simp(disch:=omega)[q1,a,f,q5,D,Y,J];refine aO SY ?_;rintro _ _⟨rfl,rfl⟩;simp(disch:=omega)[q1,a,f,q5,D,Q];refine aO (aDF _ OB (uO c) (lo+k) (by unfold bK;omega) (by unfold bK;omega)) ?_;rintro _ d⟨g2,rfl⟩;simp(disch:=omega)[a,e2];exact f0 _ _ (fin _ d (t.trans g2) (by simpa using q1) (by simpa using q2) (by rw[es];simp) (by simpa using f))
  have FD:∀(σ:Nat->Value),B1 3 σ h'->B 3 σ h':=by intro σ x;rw[<-P,QB (by omega)];exact x
  clear P;rw[gJ];have C:∀(σ:Nat->Value),σ 1=pt pb 0->σ 2=S []->σ 3=S (qD c out)->σ 4=I k->σ 5=I c->¬c=0->eY 2 B 0 σ h':=by intro σ a1 a2 a3 a4 a5 a6;rw[fk,if_neg (by omega)];exact post σ a1 a2 a3 a4 a5 a6
  have cont:∀(σ:Nat->Value),B1 3 σ h'->eY 2 B 3 σ h':=by intro σ x;rw[fk,if_neg (by omega)];exact FD σ x
  clear post FD;generalize eY 2 B=C2 at C cont ⊢;by_cases l:c=0
  ·rw[if_pos l]at es;simp(disch:=omega)[l];exact cont _ (f3 _ _ (fin _ h' t (by simpa using q1) (by simpa using q2) (by rw[es];simpa using a) (by simpa using f)))
  ·have e3:out.length+3<=4611686018427387904:=by omega
   by_cases u:c<0
   ·by_cases q:out=[]
    ·have w:qD c out=[45]:=by unfold qD;rw[if_pos u,if_pos q]
     simp(disch:=omega)[l,u,a,q];exact C _ (by simpa using q1) (by simpa using q2) (by rw[w];simp) (by simpa using f) (by simp) l
    ·have w:qD c out=out++[32,45,32]:=by unfold qD;rw[if_pos u,if_neg q]
     simp(disch:=omega)[l,u,a,q,e3];exact C _ (by simpa using q1) (by simpa using q2) (by rw[w];simp) (by simpa using f) (by simp) l
   ·by_cases q:out=[]
    ·have w:qD c out=[]:=by unfold qD;rw[if_neg u,if_pos q]
     simp(disch:=omega)[l,u,a,q];exact C _ (by simpa using q1) (by simpa using q2) (by rw[w];simpa [q]using a) (by simpa using f) (by simp) l
    ·have w:qD c out=out++[32,43,32]:=by unfold qD;rw[if_neg u,if_neg q]
     simp(disch:=omega)[l,u,a,q,e3];exact C _ (by simpa using q1) (by simpa using q2) (by rw[w];simp) (by simpa using f) (by simp) l
 ·have:j=n:=by omega
  subst this;simp(disch:=omega);subst hP;simp only[aq];rw[aw];generalize m:aP aE _ _=K;by_cases n0:j=0
  ·subst n0;have:cs=[]:=aB.1 (by omega);rw[if_pos this]at g;have e0:vS lo cs 0=[]:=rfl;rw[e0]at a;simp(disch:=omega)[a];subst m;simp(disch:=omega);rw[g];exact⟨g1.trans t,rfl⟩
  ·have ne:cs≠[]:=by intro e;rw[e]at F;simp at F;omega
   rw[if_neg ne]at g;have t0:=V j (by omega) (by omega);rw[<-g]at t0 a;simp(disch:=omega)[a,t0];subst m;simp(disch:=omega)[q2,a];exact g1.trans t
end Am

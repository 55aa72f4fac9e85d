/- Contracts of functions. -/
import Derived.Test.YtpgioncclmancaaGreatPK16
set_option linter.unusedVariables false
set_option linter.unusedSimpArgs false
set_option maxHeartbeats 4000000
set_option maxRecDepth 40000
namespace Am
open Go
variable{A br:List Int}{off y b C i:Nat}{h:a9}{W H:Int}{cr:List Nat}
theorem arR(a b c d:Value):uk 1002002 (.agg #[a,b,c,d]) (I 0)=some (.agg #[a,b]):=rfl
theorem arS(a b c d:Value):uk 1002002 (.agg #[a,b,c,d]) (I 1)=some (.agg #[c,d]):=rfl
theorem HA{L:List Int}{k:Nat}:mD A off (k+1) L=(mD A off k L).set (off+k) (IntKind.i64.wrap ((mD A off k L).getD (off+k) 0+A.getD k 0)):=rfl
theorem aCe(h:a9)(hp:0<h.length)(M O:Value)(a b:Poly)(pa:mq h M a)(pb:mq h O b)(sa:Small a)(sb:Small b):aN aE 145 [M,O] h λr h'=>CI h h' r (Eo a b):=by
 obtain⟨d,A⟩:=a;obtain⟨lb,B⟩:=b;obtain⟨s1,rfl,M⟩:=pa;obtain⟨s2,rfl,O⟩:=pb;obtain⟨Ky,Pv⟩:=sa;obtain⟨Hf,Hg⟩:=sb;simp only at M O Ky Pv Hf Hg ⊢;obtain⟨P,eP⟩:=aC (Eo (d,A) (lb,B));have l:=eP;unfold Eo Zi at l;rw[<-eP];have Gd:=M;have WK:=O;obtain⟨b1,o1,z1,rfl,jD,_,lS,uE⟩:=M.ints;obtain⟨b2,o2,z2,rfl,DO,_,Bo,mA⟩:=O.ints;obtain⟨m,em⟩:=aC A.length;obtain⟨n,en⟩:=aC B.length;simp only[<-em,<-en]at uE mA Ky Hf Gd WK l ⊢;have hA:∀h',ae h h'->∀k,k<m->cell h' b1 (o1+k)=some (I (A.getD k 0)):=λh' g k hk=>g.cell (k9 (em▸uE) (by omega));have hB:∀h',ae h h'->∀k,k<n->cell h' b2 (o2+k)=some (I (B.getD k 0)):=λh' g k hk=>g.cell (k9 (en▸mA) (by omega));refine afq ?_;rw[aw,cy];generalize c:aP aE _ _ 0=K;simp(disch:=omega);subst c;simp only[aq];rw[aw];generalize c:aP aE _ _=K;by_cases m0:m=0
 ·have:A=[]:=aB.1 (by omega);simp only[this,if_true]at l;simp(disch:=omega)[m0];refine aO (Zu h hp lb _ B WK (by omega) (by omega)) ?_;rintro r h2⟨g2,w,rfl,u⟩;obtain⟨wb,wo,wz,rfl,_⟩:=u.ints;simp(disch:=omega);subst c;simp(disch:=omega);rw[l];exact⟨g2,_,rfl,u⟩
 have EZ:¬(m:Int)=0:=by omega
 have No:A≠[]:=by intro e;rw[e]at em;simp at em;omega
 simp only[No,if_false]at l;simp(disch:=omega)[m0,EZ];subst c;simp only[aq];rw[aw];generalize c:aP aE _ _=K;by_cases n0:n=0
 ·have:B=[]:=aB.1 (by omega);simp only[this,if_true]at l;simp(disch:=omega)[n0];refine aO (Zu h hp d _ A Gd (by omega) (by omega)) ?_;rintro r h2⟨g2,w,rfl,u⟩;obtain⟨wb,wo,wz,rfl,_⟩:=u.ints;simp(disch:=omega);subst c;simp(disch:=omega);rw[l];exact⟨g2,_,rfl,u⟩
 have E5:¬(n:Int)=0:=by omega
 have Nq:B≠[]:=by intro e;rw[e]at en;simp at en;omega
 simp only[Nq,if_false]at l;simp(disch:=omega)[n0,E5];subst c;simp only[aq];obtain⟨lo,Q8⟩:=aC (min d lb);obtain⟨hi,GL⟩:=aC (max (d+m) (lb+n));rw[<-Q8,<-GL]at l;have wa:=cQ (d+m) (d+m);have SB:=cQ (lb+n) (lb+n);have ZV:(if lb<d then lb else d)=lo:=by rw[Q8];split<;>omega
 have ZU:(if d+m<lb+n then lb+n else d+m)=hi:=by rw[GL];split<;>omega
 have S8:(if lb+n<d+m then d+m else lb+n)=hi:=by rw[GL];split<;>omega
 have lo1:lo<=d∧lo<=lb:=by omega
 have Bh:d+m<=hi∧lb+n<=hi∧hi-lo<=50000:=by omega
 obtain⟨N,eN⟩:=aC ((hi-lo).toNat);obtain⟨i,Z⟩:∃f,f=(d-lo).toNat:=⟨_,rfl⟩;obtain⟨fb,efb⟩:∃f,f=(lb-lo).toNat:=⟨_,rfl⟩;rw[<-eN,<-Z,<-efb]at l;have fN:i+m<=N∧fb+n<=N∧N<=50000∧-10000<=lo∧lo<=10000:=by omega
 have wN:=cQ (hi-lo) N;have wfa:=cQ (d-lo) i;have KN:=cQ (lb-lo) fb;obtain⟨j,U⟩:∃L,L=mD A i m (List.replicate N 0):=⟨_,rfl⟩;obtain⟨W,V⟩:∃L,L=mD B fb n j:=⟨_,rfl⟩;have fL1:=U;have fL2:=V;rw[<-U,<-V]at l;have GY:=λk=>Ak (A:=A) (off:=i) k (List.replicate N 0);have l1:j.length=N:=by rw[U,GY];simp
 have VC:=λk=>Ak (A:=B) (off:=fb) k j;have l2:W.length=N:=by rw[V,VC,l1]
 have i2:∀x∈W,bK x:=by rw[V,U];exact Aj _ _ (Aj _ _ Gg)
 simp only[fU,l1]at GY VC;rw[aw,cy];generalize c:aP aE _ _ 0=K;simp(disch:=omega)[I4];rw[ZV];subst c;simp only[aq];rw[aw,cy];generalize c:aP aE _ _ 0=K;simp(disch:=omega)[Mj,wa,SB];rw[ZU];subst c;simp only[aq];rw[aw,cy];generalize c:aP aE _ _ 0=K;simp(disch:=omega)[wN];rw[GZ (by omega)];simp only[bI];obtain⟨ob,vB⟩:=aC h.length;obtain⟨h1,e1⟩:=aC (h++[⟨ints (List.replicate N 0),true⟩]);rw[<-e1,<-vB];have g1:ae h h1:=⟨_,e1⟩;have F:h1[ob]?=some ⟨ints (List.replicate N 0),true⟩:=by rw[e1,vB];simp
 have zL:h.length<=ob:=by omega
 clear Q8 GL Z efb eN ZV ZU S8 lo1 Bh Pv Hg wa SB wN U V jD DO lS Bo uE mA Gd WK M O eP No Nq m0 EZ n0 E5 vB e1
 try simp(disch:=omega)
 subst c;simp only[aq];obtain⟨S7,Q⟩:∃S,S=Value.agg #[I lo,sl ob 0 N 1]:=⟨_,rfl⟩;obtain⟨z,X⟩:∃S,S=Value.agg #[I d,sl b1 o1 m z1,I lb,sl b2 o2 n z2]:=⟨_,rfl⟩;obtain⟨LT,E⟩:∃LT:Nat->List Int,LT=λt=>if t=0 then List.replicate N 0 else if t=1 then j else W:=⟨_,rfl⟩;have T0:LT 0=List.replicate N 0:=by rw[E];rfl
 have T1:LT 1=j:=by rw[E];rfl
 have T2:LT 2=W:=by rw[E];rfl
 rw[aw];generalize hP:aP aE _ _=PP;simp(disch:=omega);refine aU (λt σ h'=>t<=2∧ae h h'∧h'[ob]?=some ⟨ints (LT t),true⟩∧σ 4=.agg #[I 0,sl 0 0 0 0]∧σ 5=I lo∧σ 7=S7∧σ 50=z∧σ 51=I t) (λt=>2-t) 0 ?_ ?_
 ·exact⟨by omega,g1,by rw[T0];exact F,by simp,by simp,by simp[Q],by simp[X],by simp⟩
 rintro t σ h'⟨ht,hg,R,q4,q5,q7,V9,Sf⟩;simp(disch:=omega)[Sf];refine aG (λbB=>?_) (λdG=>?_)
 ·rw[oQ,pI,aq,aw];generalize BS:aP aE _ _=BB;rw[gJ];generalize vV:eY _ BB=B1;rw[aw,cy];have tt:t=0∨t=1:=by omega
  rcases tt with rfl|rfl
  ·rw[T0]at R;generalize c:aP aE _ _ 0=K;simp(disch:=omega)[V9,Sf,X,arR,arS];subst c;simp only[aq];rw[aw,cy];generalize c:aP aE _ _ 0=K;simp(disch:=omega);subst c;simp only[aq];rw[gJ];have e0:mD A i 0 (List.replicate N 0)=(List.replicate N 0):=rfl;have ee:mD A i m (List.replicate N 0)=j:=fL1.symm;obtain⟨S9,C⟩:∃S,S=Value.agg #[I d,sl b1 o1 m z1]:=⟨_,rfl⟩;refine aU (λk τ o=>k<=m∧ae h o∧o[ob]?=some ⟨ints (mD A i k (List.replicate N 0)),true⟩∧τ 4=.agg #[I 0,sl 0 0 0 0]∧τ 5=I lo∧τ 7=S7∧τ 9=S9∧τ 50=z∧τ 51=I 0∧τ 55=sl b1 o1 m z1∧τ 56=I m∧τ 57=I k) (λk=>m-k) 0 ?_ ?_
   ·exact⟨by omega,hg,by rw[e0];exact R,by simpa using q4,by simpa using q5,by simpa using q7,by simp[C],by simpa [X]using V9,by simpa using Sf,by simp,by simp,by simp⟩
   rintro k τ o⟨hk,gk,p,t4,t5,t7,t9,t50,G,H,J,Lz⟩;simp(disch:=omega)[J,Lz];refine aG (λbB=>?_) (λdG=>?_)
   ·have F:k<m:=by omega
    have Y:=hA o gk k F;have lK:=GY k;have s:=HA (A:=A) (L:=(List.replicate N 0)) (off:=i) (k:=k);obtain⟨y,ey⟩:=aC (A.getD k 0);rw[<-ey]at s Y;obtain⟨L,eL⟩:=aC (mD A i k (List.replicate N 0));rw[<-eL]at s lK p;have ik:i+k<L.length:=by omega
    have co:=ints_at p ik;obtain⟨v,ev⟩:=aC (L.getD (i+k) 0);rw[<-ev]at co s;have st:=iF (x:=IntKind.i64.wrap (v+y)) p (k:=i+k) ik;rw[<-s]at st;obtain⟨h5,D⟩:=aC (o.set ob ⟨ints (mD A i (k+1) (List.replicate N 0)),true⟩);rw[<-D]at st;have g5:ae h h5:=by rw[D];exact gk.put zL _
    have IJ:h5[ob]?=some ⟨ints (mD A i (k+1) (List.replicate N 0)),true⟩:=by rw[D];exact jy p
    have T:=cQ ((i:Int)+k) (((i+k:Nat):Int));obtain⟨q,eq⟩:=aC (i+k);rw[<-eq]at T co st;have qN:q<N:=by omega
    simp(disch:=omega)[t5,t7,t9,H,Lz,Q,C,F,Y,wfa,T,qN,co,st]
    try simp(disch:=omega)[Lz,wrap64]
    refine⟨k+1,?_,by omega⟩;and_intros<;>first|assumption|omega|(rw[<-Q];assumption)|(rw[<-C];assumption)|rfl
   ·have:k=m:=by omega
    subst this;rw[ee,<-T1]at p;simp(disch:=omega);subst vV;rw[fk,if_neg (by omega)];subst BS;simp only[aq];simp(disch:=omega)[G,wrap64];refine⟨1,?_,by omega⟩;and_intros<;>first|assumption|omega|rfl
  ·rw[T1]at R;generalize c:aP aE _ _ 0=K;simp(disch:=omega)[V9,Sf,X,arR,arS];subst c;simp only[aq];rw[aw,cy];generalize c:aP aE _ _ 0=K;simp(disch:=omega);subst c;simp only[aq];rw[gJ];have e0:mD B fb 0 j=j:=rfl;have ee:mD B fb n j=W:=fL2.symm;obtain⟨S9,C⟩:∃S,S=Value.agg #[I lb,sl b2 o2 n z2]:=⟨_,rfl⟩;refine aU (λk τ o=>k<=n∧ae h o∧o[ob]?=some ⟨ints (mD B fb k j),true⟩∧τ 4=.agg #[I 0,sl 0 0 0 0]∧τ 5=I lo∧τ 7=S7∧τ 9=S9∧τ 50=z∧τ 51=I 1∧τ 55=sl b2 o2 n z2∧τ 56=I n∧τ 57=I k) (λk=>n-k) 0 ?_ ?_
   ·exact⟨by omega,hg,by rw[e0];exact R,by simpa using q4,by simpa using q5,by simpa using q7,by simp[C],by simpa [X]using V9,by simpa using Sf,by simp,by simp,by simp⟩
   rintro k τ o⟨hk,gk,p,t4,t5,t7,t9,t50,G,H,J,Lz⟩;simp(disch:=omega)[J,Lz];refine aG (λbB=>?_) (λdG=>?_)
   ·have F:k<n:=by omega
    have Y:=hB o gk k F;have lK:=VC k;have s:=HA (A:=B) (L:=j) (off:=fb) (k:=k);obtain⟨y,ey⟩:=aC (B.getD k 0);rw[<-ey]at s Y;obtain⟨L,eL⟩:=aC (mD B fb k j);rw[<-eL]at s lK p;have ik:fb+k<L.length:=by omega
    have co:=ints_at p ik;obtain⟨v,ev⟩:=aC (L.getD (fb+k) 0);rw[<-ev]at co s;have st:=iF (x:=IntKind.i64.wrap (v+y)) p (k:=fb+k) ik;rw[<-s]at st;obtain⟨h5,D⟩:=aC (o.set ob ⟨ints (mD B fb (k+1) j),true⟩);rw[<-D]at st;have g5:ae h h5:=by rw[D];exact gk.put zL _
    have IJ:h5[ob]?=some ⟨ints (mD B fb (k+1) j),true⟩:=by rw[D];exact jy p
    have T:=cQ ((fb:Int)+k) (((fb+k:Nat):Int));obtain⟨q,eq⟩:=aC (fb+k);rw[<-eq]at T co st;have qN:q<N:=by omega
    simp(disch:=omega)[t5,t7,t9,H,Lz,Q,C,F,Y,KN,T,qN,co,st]
    try simp(disch:=omega)[Lz,wrap64]
    refine⟨k+1,?_,by omega⟩;and_intros<;>first|assumption|omega|(rw[<-Q];assumption)|(rw[<-C];assumption)|rfl
   ·have:k=n:=by omega
    subst this;rw[ee,<-T2]at p;simp(disch:=omega);subst vV;rw[fk,if_neg (by omega)];subst BS;simp only[aq];simp(disch:=omega)[G,wrap64];refine⟨2,?_,by omega⟩;and_intros<;>first|assumption|omega|rfl
 ·have:t=2:=by omega
  subst this;rw[T2]at R;simp(disch:=omega);subst hP;simp only[aq];have hv:=BN R i2 (by omega);rw[l2]at hv;rw[aw,cy];generalize c:aP aE _ _ 0=K;simp(disch:=omega)[q4,q7,Q];refine aO (Zu h' (aL hp hg) lo _ _ hv (by omega) (by omega)) ?_;rintro r h2⟨g2,w,rfl,u⟩;obtain⟨wb,wo,wz,rfl,_⟩:=u.ints;simp(disch:=omega)[q4];subst c;simp(disch:=omega);rw[l];exact⟨hg.trans g2,_,rfl,u⟩
theorem axw(h:a9)(hp:0<h.length)(E F:Value)(a b:Poly)(pa:mq h E a)(pb:mq h F b)(sa:Small a)(sb:Small b):aN aE 518 [E,F] h λr h'=>SW h h' r (Eo a b):=by
 obtain⟨c,A⟩:=a;obtain⟨lb,B⟩:=b;obtain⟨s1,rfl,E⟩:=pa;obtain⟨s2,rfl,F⟩:=pb;obtain⟨Ky,Pv⟩:=sa;obtain⟨Hf,Hg⟩:=sb;simp only at E F Ky Pv Hf Hg ⊢;obtain⟨P,eP⟩:=aC (Eo (c,A) (lb,B));have p:=eP;unfold Eo Zi at p;rw[<-eP];have Gd:=E;have WK:=F;obtain⟨b1,o1,z1,rfl,jD,_,lS,uE⟩:=E.ints;obtain⟨b2,o2,z2,rfl,DO,_,Bo,mA⟩:=F.ints;obtain⟨m,em⟩:=aC A.length;obtain⟨n,en⟩:=aC B.length;simp only[<-em,<-en]at uE mA Ky Hf Gd WK p ⊢;have hA:∀h',ae h h'->∀k,k<m->cell h' b1 (o1+k)=some (I (A.getD k 0)):=λh' g k hk=>g.cell (k9 (em▸uE) (by omega));have hB:∀h',ae h h'->∀k,k<n->cell h' b2 (o2+k)=some (I (B.getD k 0)):=λh' g k hk=>g.cell (k9 (en▸mA) (by omega));refine ag8 λK i=>?_;refine i ?_;rw[aw];generalize i:aP aE _ _=K;by_cases m0:m=0
 ·have:A=[]:=aB.1 (by omega);simp only[this,if_true]at p;simp(disch:=omega)[m0];refine aO (SZ h hp lb _ B WK (by omega) (by omega)) ?_;rintro r h2⟨g2,w,rfl,u⟩;obtain⟨wb,wz,rfl,_⟩:=u.ints;simp(disch:=omega);subst i;simp(disch:=omega);rw[p];exact⟨g2,_,rfl,u⟩
 have EZ:¬(m:Int)=0:=by omega
 have No:A≠[]:=by intro e;rw[e]at em;simp at em;omega
 simp only[No,if_false]at p;simp(disch:=omega)[m0,EZ];subst i;simp only[aq];rw[aw];generalize i:aP aE _ _=K;by_cases n0:n=0
 ·have:B=[]:=aB.1 (by omega);simp only[this,if_true]at p;simp(disch:=omega)[n0];refine aO (SZ h hp c _ A Gd (by omega) (by omega)) ?_;rintro r h2⟨g2,w,rfl,u⟩;obtain⟨wb,wz,rfl,_⟩:=u.ints;simp(disch:=omega);subst i;simp(disch:=omega);rw[p];exact⟨g2,_,rfl,u⟩
 have E5:¬(n:Int)=0:=by omega
 have Nq:B≠[]:=by intro e;rw[e]at en;simp at en;omega
 simp only[Nq,if_false]at p;simp(disch:=omega)[n0,E5];subst i;simp only[aq];obtain⟨lo,Q8⟩:=aC (min c lb);obtain⟨hi,GL⟩:=aC (max (c+m) (lb+n));rw[<-Q8,<-GL]at p;have wa:=cQ (c+m) (c+m);have SB:=cQ (lb+n) (lb+n);have ZV:(if lb<c then lb else c)=lo:=by rw[Q8];split<;>omega
 have ZU:(if c+m<lb+n then lb+n else c+m)=hi:=by rw[GL];split<;>omega
 have S8:(if lb+n<c+m then c+m else lb+n)=hi:=by rw[GL];split<;>omega
 have lo1:lo<=c∧lo<=lb:=by omega
 have Bh:c+m<=hi∧lb+n<=hi∧hi-lo<=50000:=by omega
 obtain⟨N,eN⟩:=aC ((hi-lo).toNat);obtain⟨d,R⟩:∃f,f=(c-lo).toNat:=⟨_,rfl⟩;obtain⟨fb,T⟩:∃f,f=(lb-lo).toNat:=⟨_,rfl⟩;rw[<-eN,<-R,<-T]at p;have fN:d+m<=N∧fb+n<=N∧N<=50000∧-10000<=lo∧lo<=10000:=by omega
 have wN:=cQ (hi-lo) N;have wfa:=cQ (c-lo) d;have KN:=cQ (lb-lo) fb;obtain⟨l,M⟩:∃L,L=mD A d m (List.replicate N 0):=⟨_,rfl⟩;obtain⟨L2,O⟩:∃L,L=mD B fb n l:=⟨_,rfl⟩;have fL1:=M;have fL2:=O;rw[<-M,<-O]at p;have GY:=λk=>Ak (A:=A) (off:=d) k (List.replicate N 0);have l1:l.length=N:=by rw[M,GY];simp
 have VC:=λk=>Ak (A:=B) (off:=fb) k l;have l2:L2.length=N:=by rw[O,VC,l1]
 have i2:∀x∈L2,bK x:=by rw[O,M];exact Aj _ _ (Aj _ _ Gg)
 simp only[fU,l1]at GY VC;have aDQ:aN aE 434 [I c,I lb] h λr h'=>r=I lo∧h'=h:=by rw[Q8];exact aoL h c lb
 have aDP:aN aE 433 [I (c+m),I (lb+n)] h λr h'=>r=I hi∧h'=h:=by rw[<-S8];exact Zy h (c+m) (lb+n)
 refine akW λK i=>?_;refine aO aDQ ?_;rintro _ _⟨rfl,rfl⟩
 try simp(disch:=omega)
 refine i ?_;refine bg λK i=>?_;simp(disch:=omega)[wa,SB];refine aO aDP ?_;rintro _ h⟨rfl,rfl⟩
 try simp(disch:=omega)
 refine i ?_;refine bg λK i=>?_;simp(disch:=omega)[wN];rw[GZ (by omega)];simp only[bI];obtain⟨ob,vB⟩:=aC h.length;obtain⟨h1,e1⟩:=aC (h++[⟨ints (List.replicate N 0),true⟩]);rw[<-e1,<-vB];have g1:ae h h1:=⟨_,e1⟩;have C:h1[ob]?=some ⟨ints (List.replicate N 0),true⟩:=by rw[e1,vB];simp
 have zL:h.length<=ob:=by omega
 clear Q8 GL R T eN ZV ZU S8 lo1 Bh Pv Hg wa SB wN M O jD DO lS Bo uE mA Gd WK E F eP No Nq m0 EZ n0 E5 vB e1
 try simp(disch:=omega)
 refine i ?_;obtain⟨S2,G⟩:∃S,S=Value.agg #[I c,sl b1 o1 m z1]:=⟨_,rfl⟩;obtain⟨S3,H⟩:∃S,S=Value.agg #[I lb,sl b2 o2 n z2]:=⟨_,rfl⟩;have e0:mD A d 0 (List.replicate N 0)=(List.replicate N 0):=rfl;have ee:mD A d m (List.replicate N 0)=l:=fL1.symm;rw[aw];generalize hP:aP aE _ _=PP;simp(disch:=omega);refine aU (λk τ o=>k<=m∧ae h o∧o[ob]?=some ⟨ints (mD A d k (List.replicate N 0)),true⟩∧τ 2=S2∧τ 3=S3∧τ 4=.agg #[I 0,sl 0 0 0 0]∧τ 5=I lo∧τ 7=sl ob 0 N 1∧τ 8=I k) (λk=>m-k) 0 ?_ ?_
 ·exact⟨by omega,g1,by rw[e0];exact C,by simp[G],by simp[H],by simp,by simp,by simp,by simp⟩
 rintro k τ o⟨hk,s,j,W,X,t4,Y,Z,D⟩;simp(disch:=omega)[W,D,G];refine aG (λbB=>?_) (λdG=>?_)
 ·have C:k<m:=by omega
  have Q:=hA o s k C;have lK:=GY k;have t:=HA (A:=A) (L:=(List.replicate N 0)) (off:=d) (k:=k);obtain⟨y,ey⟩:=aC (A.getD k 0);rw[<-ey]at t Q;obtain⟨L,eL⟩:=aC (mD A d k (List.replicate N 0));rw[<-eL]at t lK j;have V:d+k<L.length:=by omega
  have co:=ints_at j V;obtain⟨v,ev⟩:=aC (L.getD (d+k) 0);rw[<-ev]at co t;have st:=iF (x:=IntKind.i64.wrap (v+y)) j (k:=d+k) V;rw[<-t]at st;obtain⟨U,z⟩:=aC (o.set ob ⟨ints (mD A d (k+1) (List.replicate N 0)),true⟩);rw[<-z]at st;have g5:ae h U:=by rw[z];exact s.put zL _
  have IJ:U[ob]?=some ⟨ints (mD A d (k+1) (List.replicate N 0)),true⟩:=by rw[z];exact jy j
  have J:=cQ ((d:Int)+k) (((d+k:Nat):Int));obtain⟨q,eq⟩:=aC (d+k);rw[<-eq]at J co st;have qN:q<N:=by omega
  simp(disch:=omega)[W,X,Y,Z,D,G,H,C,Q,wfa,J,qN,co,st]
  try simp(disch:=omega)[D,wrap64]
  refine⟨k+1,?_,by omega⟩;and_intros<;>first|assumption|omega|(rw[<-G];assumption)|(rw[<-H];assumption)|rfl
 have:k=m:=by omega
 subst this;rw[ee]at j;rw[oQ,Mp];simp(disch:=omega);subst hP;simp only[aq];clear e0 ee
 rename a9=>h'
 have hg:=s;have hO:=j
 rename Nat->Value=>σ
 have q2:=W;have q3:=X;have q4:=t4;have q5:=Y;have q7:=Z;have e0:mD B fb 0 l=l:=rfl;have ee:mD B fb n l=L2:=fL2.symm;rw[aw];generalize hP:aP aE _ _=PP;simp(disch:=omega);refine aU (λk τ o=>k<=n∧ae h o∧o[ob]?=some ⟨ints (mD B fb k l),true⟩∧τ 2=S2∧τ 3=S3∧τ 4=.agg #[I 0,sl 0 0 0 0]∧τ 5=I lo∧τ 7=sl ob 0 N 1∧τ 9=I k) (λk=>n-k) 0 ?_ ?_
 ·exact⟨by omega,hg,by rw[e0];exact hO,by simpa using q2,by simpa using q3,by simpa using q4,by simpa using q5,by simpa using q7,by simp⟩
 rintro k τ o⟨hk,s,j,W,X,t4,Y,Z,D⟩;simp(disch:=omega)[X,D,H];refine aG (λbB=>?_) (λdG=>?_)
 ·have C:k<n:=by omega
  have Q:=hB o s k C;have lK:=VC k;have t:=HA (A:=B) (L:=l) (off:=fb) (k:=k);obtain⟨y,ey⟩:=aC (B.getD k 0);rw[<-ey]at t Q;obtain⟨L,eL⟩:=aC (mD B fb k l);rw[<-eL]at t lK j;have V:fb+k<L.length:=by omega
  have co:=ints_at j V;obtain⟨v,ev⟩:=aC (L.getD (fb+k) 0);rw[<-ev]at co t;have st:=iF (x:=IntKind.i64.wrap (v+y)) j (k:=fb+k) V;rw[<-t]at st;obtain⟨U,z⟩:=aC (o.set ob ⟨ints (mD B fb (k+1) l),true⟩);rw[<-z]at st;have g5:ae h U:=by rw[z];exact s.put zL _
  have IJ:U[ob]?=some ⟨ints (mD B fb (k+1) l),true⟩:=by rw[z];exact jy j
  have J:=cQ ((fb:Int)+k) (((fb+k:Nat):Int));obtain⟨q,eq⟩:=aC (fb+k);rw[<-eq]at J co st;have qN:q<N:=by omega
  simp(disch:=omega)[W,X,Y,Z,D,G,H,C,Q,KN,J,qN,co,st]
  try simp(disch:=omega)[D,wrap64]
  refine⟨k+1,?_,by omega⟩;and_intros<;>first|assumption|omega|(rw[<-G];assumption)|(rw[<-H];assumption)|rfl
 have:k=n:=by omega
 subst this;rw[ee]at j;rw[oQ,Mp];simp(disch:=omega);subst hP;simp only[aq];have hv:=BN j i2 (by omega);rw[l2]at hv;refine bg λK i=>?_;simp(disch:=omega)[t4,Y,Z];refine aO (SZ o (aL hp s) lo _ _ hv (by omega) (by omega)) ?_;rintro r h2⟨g2,w,rfl,u⟩;obtain⟨wb,wz,rfl,_⟩:=u.ints;simp(disch:=omega)[t4];refine i ?_;simp(disch:=omega);rw[p];exact⟨s.trans g2,_,rfl,u.wide s.le (aa _)⟩
open Classical in
noncomputable def ajG(W H k:Nat):Bool:=decide (∃x y,zd W H k x y∧x%2=1)
open Classical in
theorem YA{W H k x:Nat}(a:zd W H k x y):ajG W H k=decide (x%2=1):=by
 unfold ajG;by_cases q:x%2=1
 ·rw[decide_eq_true q,decide_eq_true ⟨x,y,a,q⟩]
 ·rw[decide_eq_false q,decide_eq_false];rintro⟨x',y',b,c⟩;obtain⟨e,_⟩:=a.uniq b;rw[e]at q;exact q c
noncomputable def yK(W H k:Nat)(a:Bool):Int:=if ajG W H k==a then 1 else 2
theorem c26(h:a9)(hp:0<h.length)(v:Value)(W H:Int)(br:List Int)(k:Nat)(x:Int)(j:Vr h bU v (W,H,br))(b:k<br.length)(w:br.length<=1000)(hx:bK x):aN aE 26 [v,I k,I x] h λr h'=>ae h h'∧Vo h' h.length h'.length bU r (W,H,br.set k x):=by
 have p:=j;obtain⟨s,rfl,w1,w2,r⟩:=j.dE;obtain⟨n,i⟩:=aC br.length;refine ag8 λK a=>?_;refine a ?_;refine akW λK a=>?_;refine aO (Mr h _ _ hp p (by simp only;omega)) ?_;rintro _ u⟨g2,o2⟩;obtain⟨s2,rfl,_,_,o3⟩:=o2.dE;obtain⟨wb,wz,rfl,A,hm,o,C⟩:=o3.ints;have B:wz=1:=by
  rcases A with e|⟨_,e⟩
  ·exact e
  ·rw[e]at b;simp at b
 obtain⟨l,g,f⟩:=C.resolve_left (by intro e;rw[e]at b;simp at b);subst B;rw[<-i]at b w ⊢;simp(disch:=omega);refine a ?_;have st:=iF (x:=x) l (k:=k) (by omega);have t:=g2.put g ⟨ints (br.set k x),true⟩;have m:=jy (d:=⟨ints (br.set k x),true⟩) l;refine bg λK a=>?_;simp(disch:=omega)[b,st];refine a ?_;refine akW λK a=>?_;refine a ?_;simp(disch:=omega);refine⟨t,?_⟩;have c:=Vo.fY (lo:=h.length) (hi:=(u.set wb ⟨ints (br.set k x),true⟩).length) (z:=1) (X:=br.set k x) (.inl rfl) (by rw[aS,cH];omega) (λy hy=>by
  rcases bJ hy with q|q
  ·exact o y q
  ·rw[q];exact hx) (.inr ⟨m,g,by rw[aS];exact f⟩)
 rw[show(br.set k x).length=n by rw[aS,i]]at c;exact Vo.jF w1 w2 c
theorem ags{k:Nat}{l:List (Nat×Nat)}(d:h[b]?=some ⟨tE l,true⟩)(g:k<l.length):cell h b (k*2)=some (I (l[k].1:Nat)):=by have e:=P7 (f:=Pc) (z:=2) (λ_=>rfl) (l:=l) g;have hl:=By l;have c:=fB (o:=k*2) (n:=2) d (by simp only;omega);have a:((tE l).drop (k*2)).take 2=Pc l[k]:=e;simp only[a]at c;have:=(fQ (i:=0) c (by omega)).1;simpa [Pc]using this
theorem c53(h:a9)(hp:0<h.length)(v:Value)(X:bW)(k:Nat)(c:Bool)(D:Vr h bU v X)(ok:fg X)(C:k<X.2.2.length):aN aE 53 [v,I k,B c] h λr h'=>ae h h'∧Vr h' bU r (X.1,X.2.1,X.2.2.set k (yK X.1.toNat X.2.1.toNat k c)):=by
 have w8:=ok.w;have T:=ok.h;have U:=ok.row;have hlen:X.2.2.length<=112:=by obtain⟨W,H,br⟩:=X;exact jH ok
 obtain⟨A,y⟩:=aC (yK X.1.toNat X.2.1.toNat k c);have a:=y;unfold yK at a;rw[<-y];obtain⟨W,H,br⟩:=X;simp only at w8 T U hlen C a ⊢;have M:=D;obtain⟨s,rfl,w1,w2,r⟩:=D.dE;obtain⟨sb,J,G,L,rfl⟩:∃b o n z,s=sl b o n z:=by obtain⟨b,o,z,e,_⟩:=r.ints;exact⟨b,o,_,z,e⟩
 have R:W=(W.toNat:Int):=by omega
 have Q:H=(H.toNat:Int):=by omega
 have t:=c49 h W.toNat H.toNat (sl sb J G L) hp (by omega) (by omega) (by omega) (by omega);rw[<-R,<-Q]at t;refine afq ?_;rw[aw,cy];generalize d:aP aE _ _ 0=K;simp(disch:=omega);subst d;simp only[aq];rw[aw,cy];generalize d:aP aE _ _ 0=K;simp(disch:=omega);subst d;simp only[aq];rw[aw];generalize d:aP aE _ _=K;have post:∀(σ:Nat->Value) (h':a9),ae h h'->σ 1=I k->σ 3=.agg #[I W,I H,sl sb J G L]->σ 6=.agg #[I 0,I 0,sl 0 0 0 0]->σ 7=I A->K 0 σ h':=by
  intro σ h' i q1 Y F Z;subst d;simp only[aq];rw[aw,cy];generalize d:aP aE _ _ 0=K;simp(disch:=omega)[q1,Y,F,Z];refine aO (c26 h' (aL hp i) _ W H br k A (M.grow i) C (by omega) (by unfold bK;rw[a];split<;>omega)) ?_;rintro _ h3⟨S,g⟩;have g:=g.vr;obtain⟨s3,rfl,_,_,p⟩:=g.dE;obtain⟨tb,to,tn,tz,rfl⟩:∃b o n z,s3=sl b o n z:=by obtain⟨b,o,z,e,_⟩:=p.ints;exact⟨b,o,_,z,e⟩
  simp(disch:=omega)[F];subst d;simp(disch:=omega);exact⟨i.trans S,g⟩
 clear d;simp(disch:=omega);refine aO t ?_;rintro pv f⟨g2,l,m,pl,b2⟩;have j:k<l.length:=by omega
 have pk:=m k j;have od:=YA pk;rw[od]at a;obtain⟨pb,rfl,V⟩:∃pb,pv=sl pb 0 l.length 2∧f[pb]?=some ⟨tE l,true⟩:=by
  rcases b2 with⟨e,_⟩|⟨b,n,N,O,e3,P⟩
  ·have:=congrArg List.length e;rw[By]at this;simp only[aF]at this;omega
  ·rw[By]at O;exact⟨b,by rw[N];congr 1;omega,P⟩
 have u:=ags V j;obtain⟨x,ex⟩:=aC (l[k].1);rw[<-ex]at u a;have tm:Int.tmod (x:Int) 2=((x%2:Nat):Int):=by rw[cj (by omega)];omega
 simp(disch:=omega)[j,u];rw[tm];by_cases q:x%2=1
 ·rw[decide_eq_true q]at a;cases c
  ·have:A=2:=by rw[a];rfl
   simp(disch:=omega)[q];exact post _ f g2 (by simp) (by simp) (by simp) (by simp[this])
  ·have:A=1:=by rw[a];rfl
   simp(disch:=omega)[q];exact post _ f g2 (by simp) (by simp) (by simp) (by simp[this])
 ·rw[decide_eq_false q]at a;have E:x%2=0:=by omega
  cases c
  ·have:A=1:=by rw[a];rfl
   simp(disch:=omega)[E];exact post _ f g2 (by simp) (by simp) (by simp) (by simp[this])
  ·have:A=2:=by rw[a];rfl
   simp(disch:=omega)[E];exact post _ f g2 (by simp) (by simp) (by simp) (by simp[this])
theorem aDA(h:a9)(W H k x y:Nat)(a:Bool)(f:zd W H k x y)(hx:x<=100):aN aE 521 [.agg #[I x,I y],B a] h λr h'=>r=I (yK W H k a)∧h'=h:=by
 obtain⟨A,d⟩:=aC (yK W H k a);have b:=d;unfold yK at b;rw[YA f]at b;rw[<-d];have tm:Int.tmod (x:Int) 2=((x%2:Nat):Int):=by rw[cj (by omega)];omega
 refine ag8 λK c=>?_;refine c ?_;rw[aw];generalize c:aP aE _ _=K;simp(disch:=omega);rw[tm];by_cases q:x%2=1
 ·rw[decide_eq_true q]at b;cases a
  ·have:A=2:=by rw[b];rfl
   simp(disch:=omega)[q];subst c;simp(disch:=omega)[this]
  ·have:A=1:=by rw[b];rfl
   simp(disch:=omega)[q];subst c;simp(disch:=omega)[this]
 ·rw[decide_eq_false q]at b;have e:x%2=0:=by omega
  cases a
  ·have:A=1:=by rw[b];rfl
   simp(disch:=omega)[e];subst c;simp(disch:=omega)[this]
  ·have:A=2:=by rw[b];rfl
   simp(disch:=omega)[e];subst c;simp(disch:=omega)[this]
theorem sU.mono{B:Nat}{p:Poly}(x:sU B p)(h:B<=C):sU C p:=⟨x.ends,λe=>by have:=x.bd e;omega,x.i64⟩
theorem sU.small{B:Nat}{p:Poly}(x:sU B p)(h:B<=1000):Small p:=by
 by_cases e:p.2=[]
 ·rcases x.ends with⟨a,b⟩|⟨a,_⟩
  ·exact⟨by rw[e];simp,by omega⟩
  ·exact absurd e a
 ·have:=x.bd e;exact⟨by omega,by omega⟩
theorem Ir{B:Nat}{k:Int}{K:Nat}{p:Poly}(x:sU B p)(h:-(K:Int)<=k∧k<=K):sU (B+K) (pP k p):=by
 unfold pP;by_cases e:p.2=[]
 ·rw[if_pos e];exact⟨.inl ⟨rfl,rfl⟩,by simp,by simp⟩
 ·rw[if_neg e];refine⟨.inr ⟨e,(x.ends.resolve_left (λq=>e q.1)).2⟩,λ_=>?_,x.i64⟩;have:=x.bd e;simp only;omega
theorem ahi:sU 1 Tl:=⟨.inr ⟨by decide,⟨by decide,by decide,λi h1 a=>by omega,.inr ⟨by decide,by decide⟩⟩⟩,by decide,λx hx=>by simp[Tl]at hx;unfold bK;omega⟩
theorem Fg:∀k,sU (1+3*k) (BD k)
 |0=>ahi
 |k+1=>by
  have:=ajz (Fg k) J0;exact this.mono (by omega)
theorem ajW{p:Int}(hp:-8<=p∧p<=8)(k:Nat):sU (9+3*k) (Pn p k):=by rw[V8];exact(Ir (K:=8) (Fg k) (by omega)).mono (by omega)
theorem aDE(h:a9)(hp:0<h.length)(v:Value)(p:Poly)(k:Int)(B:Nat)(pv:mq h v p)(C:sU B p)(hB:B<=900)(hk:-100<=k∧k<=100):aN aE 525 [v,I k,I 1] h λr h'=>CI h h' r (pP k p):=by
 have sm:=C.small (by omega);have b:uN (p.1+k) p.2=pP k p:=by rw[PH,Su C]
 obtain⟨Q,V⟩:=aC (pP k p);rw[<-V]at b ⊢;obtain⟨lo,A⟩:=p;obtain⟨s,rfl,T⟩:=pv;obtain⟨n,D⟩:=sm;simp only at T n D b ⊢;have hx:=C.i64;simp only at hx;obtain⟨b1,o1,z1,rfl,jD,_,lS,O⟩:=T.ints;obtain⟨m,em⟩:=aC A.length;simp only[<-em]at O n ⊢;have hA:∀h',ae h h'->∀k,k<m->cell h' b1 (o1+k)=some (I (A.getD k 0)):=λh' g k hk=>g.cell (k9 (em▸O) (by omega));have wk:=cQ (lo+k) (lo+k);obtain⟨F,c⟩:∃F:Nat->List Int,F=λi=>A.take i++List.replicate (m-i) 0:=⟨_,rfl⟩;have fl:∀i,i<=m->(F i).length=m:=λi hi=>by rw[c];simp;omega
 have Z:∀i,i<m->(F i).set i (A.getD i 0)=F (i+1):=λi hi=>by
  rw[c];simp only;have l1:(A.take i).length=i:=by rw[bu];omega
  rw[m9 _ _ (by omega),l1,gN];obtain⟨j,W⟩:∃j,m-i=j+1:=⟨m-i-1,by omega⟩;have tk:A.take (i+1)=A.take i++[A[i]'(by omega)]:=by rw[jT,ah (by omega)];rfl
  rw[W,fJ,oq,tk,show m-(i+1)=j by omega,fR (by omega),cC];rfl
 have f0:F 0=List.replicate m 0:=by rw[c];simp
 have Y:F m=A:=by rw[c];simp[em]
 clear c;refine ag8 λK f=>?_;refine f ?_;refine akW λK f=>?_;rw[GZ (by omega)];simp only[bI];obtain⟨ob,R⟩:=aC h.length;obtain⟨h1,u⟩:=aC (h++[⟨ints (List.replicate m 0),true⟩]);rw[<-u,<-R];have g1:ae h h1:=⟨_,u⟩;have k1:h1[ob]?=some ⟨ints (F 0),true⟩:=by rw[u,R,f0];simp
 have zL:h.length<=ob:=by omega
 try simp(disch:=omega)
 refine f ?_;obtain⟨U,o⟩:∃S,S=Value.agg #[I lo,sl b1 o1 m z1]:=⟨_,rfl⟩;rw[aw];generalize hP:aP aE _ _=PP;simp(disch:=omega);refine aU (λi τ l=>i<=m∧ae h l∧l[ob]?=some ⟨ints (F i),true⟩∧τ 1=I k∧τ 2=I 1∧τ 3=U∧τ 6=.agg #[I 0,sl 0 0 0 0]∧τ 7=sl ob 0 m 1∧τ 8=I i) (λi=>m-i) 0 ?_ ?_
 ·exact⟨by omega,g1,k1,by simp,by simp,by simp[o],by simp,by simp,by simp⟩
 rintro i τ l⟨hi,q,t,t1,t2,E,M,N,G⟩;simp(disch:=omega)[E,G,o];refine aG (λbB=>?_) (λdG=>?_)
 ·have z:i<m:=by omega
  have ci:=hA l q i z;have L:=Z i z;have li:=fl i hi;have a:=hx (A.getD i 0) (by rw[fR (by omega)];exact aD _);obtain⟨y,X⟩:=aC (A.getD i 0);rw[<-X]at ci L a;have wy:IntKind.i64.wrap (y*1)=y:=by rw[Int.mul_one];exact wrap64 a.1 (by have:=a.2;omega)
  have H:IntKind.i64.wrap y=y:=wrap64 a.1 (by have:=a.2;omega);have st:=iF (x:=y) t (k:=i) (by omega);rw[L]at st;have g5:=q.put zL ⟨ints (F (i+1)),true⟩;have IJ:=jy (d:=⟨ints (F (i+1)),true⟩) t;simp(disch:=omega)[t2,E,N,G,o,z,ci,wy,H,st]
  try simp(disch:=omega)[G,wrap64]
  refine⟨i+1,?_,by omega⟩;and_intros<;>first|assumption|omega|(rw[<-o];assumption)|rfl
 ·have:i=m:=by omega
  subst this;rw[Y]at t;simp(disch:=omega);subst hP;simp only[aq];have J:=BN t hx (by omega);rw[<-em]at J;refine bg λK f=>?_;simp(disch:=omega)[t1,E,M,N,o,wk];refine aQ (ao3 l (aL hp q) (lo+k) _ _ J (by omega) (by omega)) ?_;rw[b];rintro r h2⟨g2,w,rfl,P⟩
  try refine⟨λe=>(by first|exact g2|cases e),?_⟩
  obtain⟨wb,wo,wz,rfl,_⟩:=P.ints;simp(disch:=omega)[M];refine f ?_;simp(disch:=omega);exact⟨q.trans g2,_,rfl,P⟩
theorem OU(h:a9):aW 1 5 h [(0,.agg #[I 0,I 0,I 0,I 0,I 0]),(1,I (-1)),(1001,I 0),(2001,I 0),(3001,I 0),(4001,I (-1))]=some (sl h.length 0 5 1,h++[⟨ints [-1,0,0,0,-1],true⟩]):=by simp[aW,ints]
theorem PK(h:a9):aW 1 1 h [(0,.agg #[I 0]),(1,I 1)]=some (sl h.length 0 1 1,h++[⟨ints [1],true⟩]):=by simp[aW,ints]
theorem aDB(h:a9)(hp:0<h.length)(N:Int)(n:Nat)(hn:n<=256)(Y:N=n∨(N<0∧n=0))(hN:-10<=N):aN aE 522 [I N] h λr h'=>CI h h' r (BD n):=by
 refine ag8 λK g=>?_;refine g ?_;refine akW λK g=>?_;rw[PK];simp only[bI];obtain⟨h1,q⟩:=aC (h++[⟨ints [1],true⟩]);have g1:ae h h1:=⟨_,q⟩;have y:h1[h.length]?=some ⟨ints [1],true⟩:=by rw[q];simp
 rw[<-q];simp(disch:=omega);refine g ?_;refine akW λK g=>?_;rw[OU];simp only[bI];obtain⟨f,s⟩:=aC (h1++[⟨ints [-1,0,0,0,-1],true⟩]);have g2:ae h1 f:=⟨_,s⟩;have L:f[h1.length]?=some ⟨ints [-1,0,0,0,-1],true⟩:=by rw[s];simp
 rw[<-s];simp(disch:=omega);refine g ?_;have m:mq f (.agg #[I 0,sl h.length 0 1 1]) (BD 0):=⟨_,rfl,BN (l:=[1]) (g2.at y) (λx hx=>by simp at hx;unfold bK;omega) (by simp)⟩;have v:mq f (.agg #[I (-2),sl h1.length 0 5 1]) CR:=⟨_,rfl,BN (l:=[-1,0,0,0,-1]) L (λx hx=>by simp at hx;unfold bK;omega) (by simp)⟩;obtain⟨E,c⟩:∃S,S=Value.agg #[I (-2),sl h1.length 0 5 1]:=⟨_,rfl⟩;obtain⟨lb,C⟩:=aC h1.length;obtain⟨ub,t⟩:=aC h.length;rw[<-c]at v;rw[<-C]at c ⊢;rw[<-t]at m ⊢;have gT:=g1.trans g2;rw[aw];generalize J:aP aE _ _=PP;simp(disch:=omega);refine aU (λk σ h'=>k<=n∧ae f h'∧mq h' (σ 3) (BD k)∧σ 0=I N∧σ 2=.agg #[I 0,sl 0 0 0 0]∧σ 4=E∧σ 5=I k) (λk=>n-k) 0 ?_ ?_
 ·exact⟨by omega,ae.refl _,by first|exact m|simpa using m,by first|rfl|simp,by first|rfl|simp,by first|rfl|simp[c],by first|rfl|simp⟩
 rintro k σ h'⟨hk,j,a,O,q2,P,A⟩;have M:=Fg k;have p:=a;obtain⟨Q,i,B⟩:=p;obtain⟨wb,wo,wn,wz,rfl⟩:∃b o n z,Q=sl b o n z:=by obtain⟨b,o,z,e,_⟩:=B.ints;exact⟨b,o,_,z,e⟩
 rw[i]at a;have D:=aL hp (gT.trans j);simp(disch:=omega)[O,A];refine aG (λV=>?_) (λX=>?_)
 ·have y:k<n:=by omega
  have d:=v.grow j;rw[c]at d;have W:=aoA;simp(disch:=omega)[i,P,c];refine aO (aDC h' D _ _ (BD k) CR a d (M.small (by omega)) (J0.small (by omega))) ?_;rintro r H⟨G,w,rfl,u⟩;have F:Ar (BD k) CR=BD (k+1):=rfl;rw[F]at u ⊢;obtain⟨R,vo,T,rfl,_⟩:=u.ints;have Z:=j.trans G;have U:mq H (.agg #[I (BD (k+1)).1,sl R vo (BD (k+1)).2.length T]) (BD (k+1)):=⟨_,rfl,u⟩;simp(disch:=omega)[i,A,wrap64];refine⟨k+1,?_,by omega⟩;and_intros<;>first|assumption|omega|(rw[<-c];assumption)|rfl
 ·have:k=n:=by omega
  subst this;simp(disch:=omega);subst J;simp(disch:=omega)[q2,i];exact⟨gT.trans j,_,rfl,B⟩
def qN(w i:Nat):Nat:=w/2^i
def bN(w i:Nat):Nat:=qN w i%2
def O9(n:Nat):Nat:=2^n
def AW(w i:Nat):Bool:=decide (bN w i=1)
theorem Y4{w:Nat}{j:IntKind}(hi:i<=60):AR .shr 0 (I w) (.int j i)=some (I (qN w i:Nat)):=by
 have e:min (i:Int).toNat 64=i:=by omega
 show(if(0:Int)<=i then some (Value.int .i64 ((w:Int).fdiv (2^(min (i:Int).toNat 64))))else none)=_
 rw[if_pos (by omega),e,Int.fdiv_eq_ediv_of_nonneg _ (Int.pow_nonneg (by omega))];unfold qN
 congr 2
theorem aoo:∀q,q<256->IntKind.i64.wrap (((BitVec.ofInt 64 (q:Nat)) &&& (BitVec.ofInt 64 1)).toNat:Int)=((q%2:Nat):Int):=by decide+kernel
theorem Xz{w:Nat}(hw:w<256):AR .and 0 (I (qN w i:Nat)) (I 1)=some (I (bN w i:Nat)):=by have:qN w i<256:=mo (pD _ _) hw;unfold bN;rw[<-aoo _ this];rfl
theorem ayj:∀n,n<9->IntKind.i64.wrap (1*2^(min n 64))=((O9 n:Nat):Int):=by decide
theorem Y3{n:Nat}{j:IntKind}(hn:n<=8):AR .shl 0 (I 1) (.int j n)=some (I (O9 n:Nat)):=by
 rw[<-ayj n (by omega)]
 show(if(0:Int)<=n then some (Value.int .i64 (IntKind.i64.wrap (1*2^(min (n:Int).toNat 64))))else none)=_
 rw[if_pos (by omega)];simp
theorem agq{n:Nat}(hn:n<=8):O9 n<=256:=by
 have:n=0∨n=1∨n=2∨n=3∨n=4∨n=5∨n=6∨n=7∨n=8:=by omega
 rcases this with rfl|rfl|rfl|rfl|rfl|rfl|rfl|rfl|rfl<;>decide
def rB(br:List Int):List Nat:=(List.range br.length).filter λj=>decide (fi br j=0)
theorem NR(br:List Int):uu br br.length=cP (rB br):=rfl
theorem aeT(hi:i<(rB br).length):(rB br).getD i 0<br.length:=by rw[fR hi];have:=aD hi;exact da.1 (List.mem_filter.1 this).1
noncomputable def rG(W H:Nat)(cr:List Nat)(w:Nat):Nat->List Int->List Int
 |0,br=>br
 |i+1,br=>(rG W H cr w i br).set (cr.getD i 0) (yK W H (cr.getD i 0) (AW w i))
theorem vR{W H:Nat}{cr:List Nat}{w:Nat}:∀(i:Nat) (br:List Int),(rG W H cr w i br).length=br.length
 |0,_=>rfl
 |i+1,br=>by rw[rG,aS,vR i]
theorem Vx{W H k:Nat}{a:Bool}:1<=yK W H k a∧yK W H k a<=2:=by unfold yK;split<;>omega
theorem ag4{W H:Nat}{cr:List Nat}{w:Nat}:∀(i:Nat) (br:List Int),(∀x∈br,0<=x∧x<=2)->∀x∈rG W H cr w i br,0<=x∧x<=2
 |0,_,h=>h
 |i+1,br,h=>by
  intro x hx;rcases bJ hx with q|q
  ·exact ag4 i br h x q
  ·have:=Vx (W:=W) (H:=H) (k:=cr.getD i 0) (a:=AW w i);rw[q];omega
theorem Pz{w:Nat}(ok:fg (W,H,br)):fg (W,H,rG W.toNat H.toNat cr w i br):=by refine⟨ok.w,ok.h,?_,ag4 i br ok.b⟩;have:=ok.n;simp only at this ⊢;rw[vR];exact this
theorem Wx{W H:Nat}{cr:List Nat}{w:Nat}{L M:List Int}(hl:L.length=M.length):∀(i:Nat),∀j,j<L.length->(L.getD j 0=M.getD j 0∨∃t,t<i∧cr.getD t 0=j)->(rG W H cr w i L).getD j 0=(rG W H cr w i M).getD j 0
 |0,j,_,h=>by
  rcases h with h|⟨t,b,_⟩
  ·exact h
  ·omega
 |i+1,j,a,h=>by
  rw[rG,rG];have e:∀(A:List Int) (k:Nat) (x:Int),j<A.length->(A.set k x).getD j 0=if k=j then x else A.getD j 0:=by
   intro A k x a;rw[aA,aA,afz];by_cases q:k=j
   ·subst q;simp[a]
   ·simp[q]
  rw[e _ _ _ (by rw[vR];exact a),e _ _ _ (by rw[vR,<-hl];exact a)];by_cases q:cr.getD i 0=j
  ·rw[if_pos q,if_pos q]
  ·rw[if_neg q,if_neg q];refine Wx hl i j a ?_;rcases h with h|⟨t,b,e⟩
   ·exact .inl h
   ·exact .inr ⟨t,by
     by_cases q2:t=i
     ·rw[q2]at e;exact absurd e q
     ·omega,e⟩
theorem Ww{W H:Nat}{cr:List Nat}{w:Nat}:∀(i:Nat) (L:List Int) (j:Nat),(∀t,t<i->cr.getD t 0≠j)->(rG W H cr w i L).getD j 0=L.getD j 0
 |0,_,_,_=>rfl
 |i+1,L,j,h=>by
  rw[rG,aA,ag (h i (by omega)),<-aA];exact Ww i L j λt a=>h t (by omega)
theorem aj4{W H:Nat}{w v:Nat}:rG W H cr w cr.length (rG W H cr v cr.length br)=rG W H cr w cr.length br:=by
 have hl:(rG W H cr v cr.length br).length=br.length:=vR _ _;apply gz (by rw[vR,hl,vR]);intro j h1 a;have b:j<br.length:=by rw[vR]at a;exact a
 have:=Wx (W:=W) (H:=H) (cr:=cr) (w:=w) hl cr.length j (by rw[hl];exact b) (by
  by_cases q:∃t,t<cr.length∧cr.getD t 0=j
  ·exact .inr q
  ·left;exact Ww cr.length br j λt c e=>q ⟨t,c,e⟩)
 rw[fR h1,fR a]at this;exact this
def oE(w:Nat):Nat->Int
 |0=>0
 |i+1=>if AW w i then oE w i+1 else oE w i-1
theorem Cv{w:Nat}:∀i:Nat,-(i:Int)<=oE w i∧oE w i<=i
 |0=>by simp[oE]
 |i+1=>by
  have:=Cv (w:=w) i;unfold oE;split<;>omega
noncomputable def Au(X:bW)(cr:List Nat):Nat->Poly
 |0=>(0,[])
 |w+1=>Eo (Au X cr w) (pP (oE w cr.length) (BD (bC (X.1,X.2.1,rG X.1.toNat X.2.1.toNat cr w cr.length X.2.2)-1)))
noncomputable def TU(X:bW):Poly:=Au X (rB X.2.2) (O9 (rB X.2.2).length)
theorem Gb{X:bW}{cr:List Nat}(ok:fg X)(hn:cr.length<=8):∀w,sU 800 (Au X cr w)
 |0=>⟨.inl ⟨rfl,rfl⟩,by simp[Au],by simp[Au]⟩
 |w+1=>by
  have b:=Cv (w:=w) cr.length;have c:bC (X.1,X.2.1,rG X.1.toNat X.2.1.toNat cr w cr.length X.2.2)<=256:=mf (Pz (W:=X.1) (H:=X.2.1) (br:=X.2.2) ok);have n1:=Fg (bC (X.1,X.2.1,rG X.1.toNat X.2.1.toNat cr w cr.length X.2.2)-1);have n2:=Ir (K:=8) (k:=oE w cr.length) n1 (by omega);exact ahD (Gb ok hn w) (n2.mono (by omega))
theorem c25(h:a9)(hp:0<h.length)(W H:Int)(br:List Int)(s:Value)(ok:fg (W,H,br))(hr:Vr h cZ s br)(L:(rB br).length<=8):aN aE 25 [.agg #[I W,I H,s]] h λr h'=>CI h h' r (TU (W,H,br)):=by
 obtain⟨sb,so,sn,sz,rfl⟩:∃b o n z,s=sl b o n z:=by obtain⟨b,o,z,e,_⟩:=hr.ints;exact⟨b,o,_,z,e⟩
 have hlen:=jH ok;have R:TU (W,H,br)=Au (W,H,br) (rB br) (O9 (rB br).length):=rfl;rw[R];have PA:=λw=>Gb ok L w;have Eb:∀w,Au (W,H,br) (rB br) (w+1)=Eo (Au (W,H,br) (rB br) w) (pP (oE w (rB br).length) (BD (bC (W,H,rG W.toNat H.toNat (rB br) w (rB br).length br)-1))):=λw=>rfl;have s0:Au (W,H,br) (rB br) 0=(0,[]):=rfl;obtain⟨F,eF⟩:=aC (Au (W,H,br) (rB br));have PW:=c29 h hp W H br (sl sb so sn sz) ok hr;rw[NR]at PW;have Mw:=λi hi=>aeT (br:=br) (i:=i) hi;obtain⟨cr,ecr⟩:=aC (rB br);obtain⟨n,en⟩:=aC cr.length;simp only[<-eF]at PA Eb s0 ⊢;simp only[<-ecr]at Eb PW Mw L ⊢;simp only[<-en]at Eb Mw L ⊢;clear eF R;have p2:=agq L;obtain⟨M,eM⟩:=aC (O9 n);have shl:=Y3 (j:=.i64) L;rw[<-eM]at shl p2 ⊢;refine afq ?_;refine bg λK a=>?_
 try simp(disch:=omega)
 refine a ?_;refine bg λK a=>?_
 try simp(disch:=omega)
 refine aO PW ?_;rintro cv h1⟨g1,b1⟩;obtain⟨cb,rfl⟩:=b1.nw;have OM:(ints (cP cr)).length=n:=by simp[ints,jh,en]
 have hcr:∀h',ae h1 h'->∀i,i<n->cell h' cb i=some (I (cr.getD i 0:Nat)):=by intro h' g i hi;have:=(b1.grow g).Jc (i:=i) (by rw[OM];exact hi);rw[this];simp only[ints,cP,iP];rw[fR (by omega)]
 rw[OM]
 try simp(disch:=omega)
 refine a ?_;refine bg λK a=>?_
 try simp(disch:=omega)
 rw[OU];simp only[bI];obtain⟨V,e2⟩:=aC (h1++[⟨ints [-1,0,0,0,-1],true⟩]);have g2:ae h1 V:=⟨_,e2⟩;have k2:V[h1.length]?=some ⟨ints [-1,0,0,0,-1],true⟩:=by rw[e2];simp
 rw[<-e2]
 try simp(disch:=omega)
 refine a ?_;have PL:mq V (.agg #[I (-2),sl h1.length 0 5 1]) CR:=⟨_,rfl,BN (l:=[-1,0,0,0,-1]) k2 (λx hx=>by simp at hx;unfold bK;omega) (by simp)⟩;obtain⟨SL,q⟩:∃S,S=Value.agg #[I (-2),sl h1.length 0 5 1]:=⟨_,rfl⟩;obtain⟨lb,FB⟩:=aC h1.length;rw[<-q]at PL;rw[<-FB]at q ⊢;have gT:=g1.trans g2;refine bg λK a=>?_
 try simp(disch:=omega)
 refine a ?_;obtain⟨SP,C⟩:∃S,S=Value.agg #[I W,I H,sl sb so sn sz]:=⟨_,rfl⟩;have P0:mq V (.agg #[I 0,sl 0 0 0 0]) (F 0):=by rw[s0];exact⟨_,rfl,Vr.fY (.inr ⟨rfl,rfl⟩) (by simp) (by simp) (.inl rfl)⟩
 rw[aw];generalize hP:aP aE _ _=PP;simp(disch:=omega)[shl];refine aU (λw σ h'=>w<=M∧ae V h'∧mq h' (σ 5) (F w)∧σ 1=SP∧σ 2=.agg #[I 0,sl 0 0 0 0]∧σ 3=sl cb 0 n 1∧σ 4=SL∧σ 20=I M∧σ 21=I w) (λw=>M-w) 0 ?_ ?_
 ·exact⟨by omega,ae.refl _,by first|exact P0|simpa using P0,by first|rfl|simp[C],by first|rfl|simp,by first|rfl|simp,by first|rfl|simp[q],by first|rfl|simp,by first|rfl|simp⟩
 rintro w σ h'⟨hw,G,p5,q1,q2,q3,q4,zU,LZ⟩;simp(disch:=omega)[zU,LZ];refine aG (λbB=>?_) (λdG=>?_)
 ·have w1:w<M:=by omega
  have pg:=aL hp (gT.trans G);have G1:=gT.trans G;rw[oQ,pI,aq,aw];generalize BS:aP aE _ _=BB;rw[gJ];generalize vV:eY _ BB=B1;refine bg λK a=>?_;simp(disch:=omega)[LZ];refine a ?_;refine bg λK a=>?_;simp(disch:=omega)[q1,C];refine a ?_;have V0:Vr h' bU SP (W,H,rG W.toNat H.toNat cr w 0 br):=by rw[C];exact Vr.jF (by have:=ok.w;simp only at this;unfold bK;omega) (by have:=ok.h;simp only at this;unfold bK;omega) (hr.grow G1)
  rw[aw];generalize y:aP aE _ _=P2;simp(disch:=omega)[q3];refine aU (λi τ d=>i<=n∧ae h' d∧Vr d bU (τ 7) (W,H,rG W.toNat H.toNat cr w i br)∧τ 1=SP∧τ 2=.agg #[I 0,sl 0 0 0 0]∧τ 3=sl cb 0 n 1∧τ 4=SL∧τ 5=σ 5∧τ 6=I w∧τ 8=I (oE w i)∧τ 20=I M∧τ 21=I w∧τ 25=sl cb 0 n 1∧τ 26=I n∧τ 27=I i) (λi=>n-i) 0 ?_ ?_
  ·refine⟨by omega,ae.refl _,?_,by simpa [C]using q1,by simpa using q2,by simpa using q3,by simpa using q4,by simp,by simp,by simp[oE],by simpa using zU,by simpa using LZ,by simp,by simp,by simp⟩;rw[C]at V0;simpa using V0
  rintro i τ d⟨hi,m,v7,t1,t2,t3,t4,t5,t6,J,t20,td,t25,t26,oj⟩;simp(disch:=omega)[t26,oj];refine aG (λbB=>?_) (λdG=>?_)
  ·have i1:i<n:=by omega
   have ci:=hcr d (g2.trans (G.trans m)) i i1;have clt:=Mw i i1;have oki:=Pz (cr:=cr) (w:=w) (i:=i) ok;have nw:=vR (W:=W.toNat) (H:=H.toNat) (cr:=cr) (w:=w) i br;have es:(rG W.toNat H.toNat cr w i br).set (cr.getD i 0) (yK W.toNat H.toNat (cr.getD i 0) (AW w i))=rG W.toNat H.toNat cr w (i+1) br:=rfl;have Q:=c53 d (aL pg m) (τ 7) (W,H,rG W.toNat H.toNat cr w i br) (cr.getD i 0) (AW w i) v7 oki (by simp only;rw[nw];exact clt);simp only[es]at Q;obtain⟨x,ex⟩:=aC (cr.getD i 0);rw[<-ex]at ci Q;obtain⟨s7,t,_,_,i7⟩:=v7.dE;obtain⟨b7,o7,n7,z7,rfl⟩:∃b o n z,s7=sl b o n z:=by obtain⟨b,o,z,e,_⟩:=i7.ints;exact⟨b,o,_,z,e⟩
   rw[t]at Q;have sh:=Y4 (w:=w) (i:=i) (j:=.i64) (by omega);have an:=Xz (w:=w) (i:=i) (by omega);have pb:=Cv (w:=w) i;have pb2:=Cv (w:=w) (i+1);have wp1:=cQ (oE w i+1) (oE w i+1);have wp2:=cQ (oE w i-1) (oE w i-1);have E:oE w (i+1)=if AW w i then oE w i+1 else oE w i-1:=rfl;obtain⟨pw,Q9⟩:=aC (oE w i);rw[<-Q9]at wp1 wp2 E J;have eb:AW w i=decide (((bN w i:Nat):Int)=1):=by unfold AW;exact decide_eq_decide.2 ⟨λh=>by omega,λh=>by omega⟩
   rw[oQ,pI,aq,aw];generalize Y:aP aE _ _=CC;rw[gJ];generalize FD:eY _ CC=C1;refine bg λK a=>?_;simp(disch:=omega)[t25,oj,i1,ci];refine a ?_;refine bg λK a=>?_;simp(disch:=omega)[t6,sh,an];rw[<-eb];obtain⟨al,eal⟩:=aC (AW w i);rw[<-eal]at E Q ⊢;refine a ?_;refine bg λK a=>?_;simp(disch:=omega)[t];refine aO Q ?_;rintro r u⟨T,v3⟩;have v3':=v3;obtain⟨s8,rfl,_,_,i8⟩:=v3.dE;obtain⟨b8,o8,n8,z8,rfl⟩:∃b o n z,s8=sl b o n z:=by obtain⟨b,o,z,e,_⟩:=i8.ints;exact⟨b,o,_,z,e⟩
   simp(disch:=omega)[t];refine a ?_;have gg:=m.trans T;rw[aw];generalize a:aP aE _ _=K
   try simp(disch:=omega)
   subst a;simp only[aq];cases al
   ·simp only[ax,if_false]at E;simp(disch:=omega)[J,wp2];subst FD;rw[fk,if_neg (by omega)];subst Y;simp only[aq];simp(disch:=omega)[oj,wrap64];refine⟨i+1,?_,by omega⟩;rw[E];and_intros<;>first|assumption|omega|rfl
   ·simp only[if_true]at E;simp(disch:=omega)[J,wp1];subst FD;rw[fk,if_neg (by omega)];subst Y;simp only[aq];simp(disch:=omega)[oj,wrap64];refine⟨i+1,?_,by omega⟩;rw[E];and_intros<;>first|assumption|omega|rfl
  ·have:i=n:=by omega
   rw[this]at v7 J;clear this dG hi oj
   try simp(disch:=omega)
   subst y;simp only[aq];have R3:=Pz (cr:=cr) (w:=w) (i:=n) ok;have O:=Eb w;have pb:=Cv (w:=w) n;obtain⟨s7,t,_,_,i7⟩:=v7.dE;obtain⟨b7,o7,n7,z7,rfl⟩:∃b o n z,s7=sl b o n z:=by obtain⟨b,o,z,e,_⟩:=i7.ints;exact⟨b,o,_,z,e⟩
   obtain⟨pw,Q9⟩:=aC (oE w n);rw[<-Q9]at J O pb;have yF:=λu Bm v=>Ms u Bm (τ 7) _ v R3;have ah0:=mf R3;rw[t]at yF;obtain⟨N,eN⟩:=aC (bC (W,H,rG W.toNat H.toNat cr w n br));rw[<-eN]at O ah0;simp only[<-eN]at yF;rw[<-V8]at O;have psn:=λk=>ajW (p:=pw) (by omega) k;have pss:∀k,Ar (Pn pw k) CR=Pn pw (k+1):=λk=>rfl;have ps0:Pn pw 0=(pw,[1]):=rfl;obtain⟨D,eD⟩:=aC (Pn pw);simp only[<-eD]at psn pss ps0 O;clear eD Q9;refine bg λK a=>?_;simp(disch:=omega)[J];rw[PK];simp only[bI];obtain⟨u,e3⟩:=aC (d++[⟨ints [1],true⟩]);have T:ae d u:=⟨_,e3⟩;have k3:u[d.length]?=some ⟨ints [1],true⟩:=by rw[e3];simp
   have P1:mq u (.agg #[I pw,sl d.length 0 1 1]) (D 0):=by rw[ps0];exact⟨_,rfl,BN (l:=[1]) k3 (λx hx=>by simp at hx;unfold bK;omega) (by simp)⟩
   rw[<-e3]
   try simp(disch:=omega)
   refine a ?_;have Bm:=aL pg (m.trans T);rw[aw];generalize y:aP aE _ _=P2;simp(disch:=omega)[t];refine aO (yF u Bm (t▸v7.grow T)) ?_;rintro _ h4⟨g4,rfl⟩;have wN:=cQ ((N:Int)-1) ((N:Int)-1);have g34:=T.trans g4;simp(disch:=omega)[wN];refine aU (λk c X=>k<=N-1∧ae d X∧mq X (c 12) (D k)∧c 1=SP∧c 2=.agg #[I 0,sl 0 0 0 0]∧c 3=sl cb 0 n 1∧c 4=SL∧c 5=σ 5∧c 20=I M∧c 21=I w∧c 52=I ((N:Int)-1)∧c 53=I k) (λk=>N-1-k) 0 ?_ ?_
   ·exact⟨by omega,g34,by simpa using P1.grow g4,by simpa using t1,by simpa using t2,by simpa using t3,by simpa using t4,by simpa using t5,by simpa using t20,by simpa using td,by simp,by simp⟩
   rintro k c X⟨hk,U,f,u1,u2,u3,u4,u5,u20,u21,u52,u53⟩;have aFa:=f;obtain⟨s12,Q4,v12⟩:=aFa;obtain⟨wb,wo,wn,wz,rfl⟩:∃b o n z,s12=sl b o n z:=by obtain⟨b,o,z,e,_⟩:=v12.ints;exact⟨b,o,_,z,e⟩
   rw[Q4]at f;have nk:=psn k;have Z:=aL (aL pg m) U;simp(disch:=omega)[u52,u53];refine aG (λbB=>?_) (λdG=>?_)
   ·have k1:k<N-1:=by omega
    have P:=PL.grow (G.trans (m.trans U));rw[q]at P;simp(disch:=omega)[Q4,u4,q];refine aO (aoA X Z _ _ (D k) CR f P (nk.small (by omega)) (J0.small (by omega))) ?_;rintro r h6⟨g6,w6,rfl,B⟩;rw[pss]at B ⊢;obtain⟨vb,vo,vz,rfl,_⟩:=B.ints;have gg:=U.trans g6;have P3:mq h6 (.agg #[I (D (k+1)).1,sl vb vo (D (k+1)).2.length vz]) (D (k+1)):=⟨_,rfl,B⟩;simp(disch:=omega)[Q4,u53,wrap64];refine⟨k+1,?_,by omega⟩;and_intros<;>first|assumption|omega|(rw[<-q];assumption)|rfl
   ·have:k=N-1:=by omega
    subst this
    try simp(disch:=omega)
    subst y;simp only[aq];have A:=p5.grow (m.trans U);have aFb:=A;obtain⟨s5,e5,v5⟩:=aFb;obtain⟨cb5,co5,cn5,cz5,rfl⟩:∃b o n z,s5=sl b o n z:=by obtain⟨b,o,z,e,_⟩:=v5.ints;exact⟨b,o,_,z,e⟩
    rw[e5]at A u5;rw[cy];simp(disch:=omega)[u5,Q4];refine aO (aCe X Z _ _ (F w) (D (N-1)) A f ((PA w).small (by omega)) (nk.small (by omega))) ?_;rintro r h6⟨g6,w6,rfl,B⟩;rw[<-O]at B ⊢;obtain⟨vb,vo,vz,rfl,_⟩:=B.ints;have gg:=G.trans (m.trans (U.trans g6));have P3:mq h6 (.agg #[I (F (w+1)).1,sl vb vo (F (w+1)).2.length vz]) (F (w+1)):=⟨_,rfl,B⟩;simp(disch:=omega)[u5];subst vV;rw[fk,if_neg (by omega)];subst BS;simp only[aq];simp(disch:=omega)[u21,wrap64];refine⟨w+1,?_,by omega⟩;and_intros<;>first|assumption|omega|(rw[<-q];assumption)|(rw[<-C];assumption)|rfl
 ·have:w=M:=by omega
  subst this;obtain⟨s5,e5,v5⟩:=p5;obtain⟨cb5,co5,cn5,cz5,rfl⟩:∃b o n z,s5=sl b o n z:=by obtain⟨b,o,z,e,_⟩:=v5.ints;exact⟨b,o,_,z,e⟩
  try simp(disch:=omega)
  subst hP;simp(disch:=omega)[q2,e5];exact⟨gT.trans G,_,rfl,v5⟩
end Am

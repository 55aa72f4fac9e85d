/- Contracts of functions. -/
import Derived.Test.YtpgioncclmancaaGreatPK10
set_option linter.unusedVariables false
set_option linter.unusedSimpArgs false
set_option maxHeartbeats 4000000
set_option maxRecDepth 40000
namespace Am
open Go
variable{h h' h0:a9}{b i N a j lo tu iY:Nat}{x c:Int}{br:List Int}{R:List Nat}{K:Value->a9->Prop}
structure Gi (h:a9) (b:Nat) (D:xw):Prop where
 ov:h[b]?=some ⟨mQ D.ov,true⟩
 un:h[b+1]?=some ⟨mQ D.un,true⟩
theorem Gi.grow{D:xw}(d:Gi h b D)(g:ae h h'):Gi h' b D:=⟨g.at d.ov,g.at d.un⟩
theorem adm{α β:Type}(f:β->α->β)(b:β)(l:List α)(a:α):(l++[a]).foldl f b=f (l.foldl f b) a:=by rw[ju];rfl
theorem ao1(h:a9)(hp:0<h.length)(v:Value)(X:bW)(T:gY h v X)(ok:fg X):aN aE 513 [v] h λr h'=>ae h h'∧∃b,r=.tuple #[sl b 0 (dM X.2.2) 4,sl (b+1) 0 (dM X.2.2) 4]∧h.length<=b∧Gi h' b (ir X):=by
 have A:=xR (W:=X.1.toNat) (H:=X.2.1.toNat) (br:=X.2.2) (by have:=ok.w;omega) (by have:=ok.h;omega);have hN:=mf ok;have Be:∀c,c<bC X->sj X.1.toNat X.2.1.toNat (my X c):=λc q=>yf ok q;have hcw:∀c,fq X c=nP (fK X.1.toNat X.2.1.toNat X.2.2) (my X c) (im (fK X.1.toNat X.2.1.toNat X.2.2) (my X c)):=λc=>rfl;have OD:∀c:Nat,c<bC X->uL X c=(my X c,true):=λc q=>by simp[uL,q]
 have UZ:∀k,k<=bC X->uY (dM X.2.2) (rS X k):=λk hk=>AA ok hk;have zH:∀k,rS X (k+1)=(fq X k).foldl (tX X.1.toNat X.2.1.toNat X.2.2 k) (rS X k):=λ_=>rfl;have V:∀x y:Int,Lq X.1.toNat X.2.1.toNat x y->kU X.1.toNat X.2.1.toNat X.2.2 x y=true->lU X.2.2 (jd X.1.toNat x.toNat y.toNat)<dM X.2.2:=λx y hn q=>by
  obtain⟨_,_,e⟩:=Lt hn ok.row (by have:=ok.w;omega) (by have:=ok.h;omega) q;exact e
 have mh:dM X.2.2<=112:=by obtain⟨W,H,br⟩:=X;exact rE ok
 have hb8:X.1.toNat<=8∧X.2.1.toNat<=8:=⟨by have:=ok.w;omega,by have:=ok.h;omega⟩;have eD:ir X=rS X (bC X):=rfl;rw[eD];obtain⟨f,Z⟩:=aC (fK X.1.toNat X.2.1.toNat X.2.2);rw[<-Z]at A;simp only[<-Z]at hcw;refine afq ?_;rw[aw,cy];generalize s:aP aE _ _ 0=K;simp(disch:=omega);subst s;simp only[aq];rw[aw,cy];generalize s:aP aE _ _ 0=K;simp(disch:=omega);refine aO (ahX h hp v X T ok) ?_;rintro r1 h1⟨g1,bf⟩;obtain⟨lb,rfl⟩:=bf.nw;have iC:(ints (uu X.2.2 X.2.2.length)).length=dM X.2.2:=by simp[ints,A0 (aa _),dM]
 rw[iC];obtain⟨n,hn⟩:=aC (dM X.2.2);simp only[<-hn]at mh UZ V ⊢
 try simp(disch:=omega)
 subst s;simp only[aq];rw[aw,cy];generalize s:aP aE _ _ 0=K;simp(disch:=omega);rw[H5 (by omega)];simp only[bI]
 try simp(disch:=omega)
 subst s;simp only[aq];rw[aw,cy];generalize s:aP aE _ _ 0=K;simp(disch:=omega);rw[H5 (by omega)];simp only[bI]
 try simp(disch:=omega)
 subst s;simp only[aq];obtain⟨b0,kf⟩:=aC h1.length;have l1:=g1.le;obtain⟨kz,Yg⟩:∃kz:mm,kz=⟨mQ (List.replicate n (0,0,0,0)),true⟩:=⟨_,rfl⟩;obtain⟨hm,U⟩:=aC (h1++[kz,kz]);rw[<-Yg,<-U,<-kf];have gm:ae h1 hm:=⟨_,U⟩;have lm:hm.length=b0+2:=by rw[U,kf];simp
 have dm:Gi hm b0 (rS X 0):=by
  show Gi hm b0 (A6 (dM X.2.2))
  rw[<-hn,kf,U,Yg];exact⟨by simp[A6],by simp[A6]⟩
 clear U Yg;have g1m:=g1.trans gm;rw[aw,cy];generalize s:aP aE _ _ 0=K;simp(disch:=omega);refine aO (HF hm (by omega) v X (T.grow g1m) ok) ?_;rintro _ J⟨g2,rfl⟩
 try simp(disch:=omega)
 subst s;simp only[aq];have dm:=dm.grow g2;have gT:=g1m.trans g2;have l2:=g2.le;obtain⟨N,eN⟩:=aC (bC X);simp only[<-eN]at hN Be OD UZ ⊢;rw[aw];generalize hP:aP aE _ _=PP;simp(disch:=omega);refine aU (λk σ h'=>k<=N∧Mod b0 (b0+2) J h'∧Gi h' b0 (rS X k)∧σ 0=v∧σ 5=sl b0 0 n 4∧σ 6=sl (b0+1) 0 n 4∧σ 7=I N∧σ 8=I k) (λk=>N-k) 0 ?_ ?_
 ·exact⟨by omega,⟨aa _,λ_ _ _=>rfl⟩,dm,by simp,by simp,by simp,by simp,by simp⟩
 rintro k σ h'⟨hk,md,d,q0,q5,q6,q7,q8⟩;simp(disch:=omega)[q7,q8];refine aG (λbB=>?_) (λdG=>?_)
 ·have k1:k<N:=by omega
  have gh:ae h h':=md.kR gT (by omega);have dk:=UZ k (by omega);have A7:=zH k;rw[hcw k]at A7;have F:=Be k k1;have mU:=OD k k1;obtain⟨w0,Vm⟩:=aC (my X k);rw[<-Vm]at A7 F mU;obtain⟨P1,P2,P3,P4⟩:=A.Bz F;obtain⟨Bz,aEF⟩:=aC (im f w0);rw[<-aEF]at A7 P1 P2 P3 P4;have aLl:Bz<=256:=a7 P2 (Li ok);simp(disch:=omega)[q0,q8];refine aO (ao0 h' (aL hp gh) v X k (T.grow gh) ok) ?_;rintro _ h3⟨g3,rfl⟩;rw[mU];have md3:Mod b0 (b0+2) J h3:=md.trans g3.mod;have d3:=d.grow g3;obtain⟨o,p,l,m⟩:=w0;simp(disch:=omega)[wv];refine aU (λj τ S=>j<=Bz∧Mod b0 (b0+2) J S∧Gi S b0 ((nP f (o,p,l,m) j).foldl (tX X.1.toNat X.2.1.toNat X.2.2 k) (rS X k))∧τ 0=v∧τ 5=sl b0 0 n 4∧τ 6=sl (b0+1) 0 n 4∧τ 7=I N∧τ 8=I k∧τ 9=.agg #[I o,I p,I l,I m]∧τ 11=wv (dP f j (o,p,l,m))∧τ 12=B (decide (j=0))) (λj=>Bz-j) 0 ?_ ?_
  ·exact⟨by omega,md3,by simpa [nP]using d3,by simpa using q0,by simpa using q5,by simpa using q6,by simpa using q7,by simpa using q8,by simp,by simp[wv,dP],by simp⟩
  rintro j τ S⟨hj,E,L,r0,r5,r6,r7,r8,r9,G,O⟩;have P:=A.vi F j;have hos:=Kp (f:=f) (w:=(o,p,l,m)) (n:=j);have pf:uY n ((nP f (o,p,l,m) j).foldl (tX X.1.toNat X.2.1.toNat X.2.2 k) (rS X k)):=KX dk λu hu=>by
   unfold nP at hu;obtain⟨i,_,rfl⟩:=bj.1 hu;exact A.vi F i
  have t:=adm (tX X.1.toNat X.2.1.toNat X.2.2 k) (rS X k) (nP f (o,p,l,m) j) (dP f j (o,p,l,m));rw[<-hos]at t;obtain⟨D,hD⟩:=aC ((nP f (o,p,l,m) j).foldl (tX X.1.toNat X.2.1.toNat X.2.2 k) (rS X k));rw[<-hD]at L t pf;obtain⟨u,eu⟩:=aC (dP f j (o,p,l,m));rw[<-eu]at G P t;have X5:ae h S:=E.kR gT (by omega);rw[aw];generalize s:aP aE _ _=K;have key:j<Bz->∀g:Nat->Value,g 0=v->g 5=sl b0 0 n 4->g 6=sl (b0+1) 0 n 4->g 7=I N->g 8=I k->g 9=.agg #[I o,I p,I l,I m]->g 11=wv u->K 0 g S:=by
   intro hjn g t0 t5 t6 t7 t8 t9 M;subst s;simp only[aq];have xK:=λq=>Iv (br:=X.2.2) P q;rw[<-Z]at xK;obtain⟨x,y,dx,dy⟩:=u;simp only[wv]at M;have vW:=P.nxp;have aE9:=P;obtain⟨d1,d2,p1,p2,p3,p4,p5⟩:=aE9;simp only at d1 d2 p1 p2 p3 p4 p5 vW xK;rw[Uo]at t;obtain⟨a,b,c,d',yI⟩:∃a b c d,fK X.1.toNat X.2.1.toNat X.2.2 (x,y,dx,dy)=(a,b,c,d):=⟨_,_,_,_,rfl⟩;have Q:dP f (j+1) (o,p,l,m)=(a,b,c,d'):=by show f (dP f j _)=_;rw[<-eu,Z];exact yI
   rw[Z,yI]at xK;simp(disch:=omega)[M];refine aO (T5 S x y dx dy (by omega) (by omega) (by omega) (by omega)) ?_;rintro _ C⟨rfl,rfl⟩;simp(disch:=omega)[t0,M];refine aO (ZG C v X x y dx dy (T.grow X5) ok P) ?_;rintro _ C⟨rfl,rfl⟩;rw[yI];simp(disch:=omega)[wv,t0];refine aO (aoX C v X _ _ (T.grow X5) ok vW) ?_;rintro _ C⟨rfl,rfl⟩;cases Y:kU X.1.toNat X.2.1.toNat X.2.2 (x+dx) (y+dy)
   ·rw[Y]at t;simp only[ax,if_false]at t;simp(disch:=omega)[M];rw[<-t]at L;refine⟨j+1,?_,by omega⟩;and_intros<;>first|assumption|exact E.1|exact E.2|omega|(simp[Q];done)|(simp[wv,Q];done)
   ·rw[Y,if_pos rfl]at t;have tQ:=V _ _ vW Y;have BT:=xK Y;unfold Ae at BT;simp only[cF]at BT;obtain⟨ha,hb,q,hd⟩:=BT;have q:=q.symm;have hd:=hd.symm;have ha:=ha.symm;have hb:=hb.symm;subst ha;subst hb;subst q;subst hd;simp(disch:=omega)[t0];refine aO (aoW C v X _ _ (T.grow X5) ok vW (Ao Y)) ?_;rintro _ C⟨rfl,rfl⟩;obtain⟨K,s⟩:=aC (lU X.2.2 (jd X.1.toNat (x+dx).toNat (y+dy).toNat));rw[<-s]at tQ t ⊢;simp(disch:=omega)[M];refine aO (aoZ C X.1.toNat X.2.1.toNat x y dx dy P hb8) ?_;rintro _ C⟨rfl,rfl⟩;have l4:∀i,i<2->b0+i<C.length:=λi hi=>by have:=E.1;omega
    have z0:=l4 0 (by omega);have z1:=l4 1 (by omega);cases R:uI (x,y,dx,dy)
    ·have Uw:¬dx*dy=lX (x+dx):=by unfold uI at R;simpa using R
     rw[R]at t;simp only[ax,if_false]at t;have s1:=Gf (k:=K) (x:=x+dx) (y:=y+dy) (dx:=dx) (dy:=dy) L.un (by rw[pf.ul];exact tQ);simp(disch:=omega)[Uw,t6,M,tQ,s1];obtain⟨hA,z⟩:=aC (C.set (b0+1) ⟨mQ (D.un.set K (x+dx,y+dy,dx,dy)),true⟩);rw[<-z];have dB:Gi hA b0 ⟨D.ov,D.un.set K (x+dx,y+dy,dx,dy),D.oc,D.uc.set K k⟩:=
      ⟨by rw[z,ag (by omega)];exact L.ov,by rw[z,dr (by omega)]⟩
     have mB:Mod b0 (b0+2) J hA:=⟨by rw[z,aS];exact E.1,λc q hn=>by
      rw[z,ag (by omega)];exact E.2 c q hn⟩
     rw[<-t]at dB;refine⟨j+1,?_,by omega⟩;and_intros<;>first|assumption|exact mB.1|exact mB.2|omega|(simp[Q];done)|(simp[wv,Q];done)
    ·have Uw:dx*dy=lX (x+dx):=by unfold uI at R;simpa using R
     rw[R,if_pos rfl]at t;have s1:=Gf (k:=K) (x:=x+dx) (y:=y+dy) (dx:=dx) (dy:=dy) L.ov (by rw[pf.ol];exact tQ);simp(disch:=omega)[Uw,t5,M,tQ,s1];obtain⟨hA,z⟩:=aC (C.set b0 ⟨mQ (D.ov.set K (x+dx,y+dy,dx,dy)),true⟩);rw[<-z];have dB:Gi hA b0 ⟨D.ov.set K (x+dx,y+dy,dx,dy),D.un,D.oc.set K k,D.uc⟩:=
      ⟨by rw[z,dr (by omega)],by rw[z,ag (by omega)];exact L.un⟩
     have mB:Mod b0 (b0+2) J hA:=⟨by rw[z,aS];exact E.1,λc q hn=>by
      rw[z,ag (by omega)];exact E.2 c q hn⟩
     rw[<-t]at dB;refine⟨j+1,?_,by omega⟩;and_intros<;>first|assumption|exact mB.1|exact mB.2|omega|(simp[Q];done)|(simp[wv,Q];done)
  by_cases e0:j=0
  ·simp(disch:=omega)[r9,G,O,e0];exact key (by omega) _ (by simp[r0]) (by simp[r5]) (by simp[r6]) (by simp[r7]) (by simp[r8]) (by simp[r9]) (by simp[G])
  ·by_cases e1:j<Bz
   ·have ne:u≠(o,p,l,m):=by rw[eu];exact P4 j (by omega) e1
    obtain⟨ux,uy,jK,jY⟩:=u;simp only[wv]at G;have en:Ah .neq 4 [I ux,I uy,I jK,I jY] [I o,I p,I l,I m]=some (.bool true):=by by_cases h1:ux=o<;>by_cases J:uy=p<;>by_cases h3:jK=l<;>by_cases h4:jY=m<;>simp[Ah,gF,h1,J,h3,h4];subst h1;subst J;subst h3;subst h4;exact absurd rfl ne
    simp(disch:=omega)[r9,G,O,e0,en];exact key (by omega) _ (by simp[r0]) (by simp[r5]) (by simp[r6]) (by simp[r7]) (by simp[r8]) (by simp[r9]) (by simp[G,wv])
   ·have e:j=Bz:=by omega
    have eq:u=(o,p,l,m):=by rw[eu,e];exact P3
    subst eq;simp only[wv]at G;have en:Ah .neq 4 [I o,I p,I l,I m] [I o,I p,I l,I m]=some (.bool false):=by simp[Ah,gF]
    simp(disch:=omega)[r9,G,O,e0,en];subst s;rw[e,<-A7]at hD;rw[hD]at L;simp(disch:=omega)[r8,wrap64];refine⟨k+1,?_,by omega⟩;and_intros<;>first|assumption|exact E.1|exact E.2|omega
 ·have:k=N:=by omega
  subst this;simp(disch:=omega);subst hP;simp(disch:=omega)[q5,q6];exact⟨md.kR gT (by omega),b0,by rw[hn];simp,by omega,d⟩
theorem ao2(h:a9)(f g a b i j c d:Int)(l:-1<=a∧a<=1)(m:-1<=b∧b<=1)(y1:-1<=c∧c<=1)(y2:-1<=d∧d<=1):aN aE 514 [.agg #[I f,I g,I a,I b],.agg #[I i,I j,I c,I d]] h λr h'=>r=I (u9 (f,g,a,b) (i,j,c,d))∧h'=h:=by
 have n:=Ld l y2;have o:=Ld m y1;have w1:=cQ (a*d) (a*d);have w2:=cQ (b*c) (b*c);have w3:=cQ (a*d-b*c) (a*d-b*c);have e:u9 (f,g,a,b) (i,j,c,d)=if 0<a*d-b*c then 1 else -1:=rfl;rw[e];refine afq ?_;simp(disch:=omega)[w1,w2,w3];refine aG (λk=>?_) (λk=>?_)
 ·simp(disch:=omega);omega
 ·simp(disch:=omega);omega
theorem aDv(h:a9)(hp:0<h.length)(v:Value)(X:bW)(A:gY h v X)(ok:fg X):aN aE 515 [v] h λr h'=>ae h h'∧bP h h' r 1 (ints (lE X)):=by
 have E:dM X.2.2<=112:=by obtain⟨W,H,br⟩:=X;exact rE ok
 have a:uY (dM X.2.2) (ir X):=AA ok (aa _);rw[Py];refine ag8 λK e=>?_;refine e ?_;refine akW λK e=>?_;refine e ?_;refine akW λK e=>?_;refine aO (ao1 h hp v X A ok) ?_;rintro _ h1⟨g1,b,rfl,U,d⟩;obtain⟨n,hn⟩:=aC (dM X.2.2);simp only[<-hn]at a E ⊢;obtain⟨D,t⟩:=aC (ir X);have f:=Ma X;have F:=BF X;rw[<-t]at a d;simp only[<-t]at f;simp(disch:=omega);refine e ?_;obtain⟨wb,O,c,oc⟩:=AM d.ov;simp[sl]at c;obtain⟨rfl,rfl⟩:=c;obtain⟨wb,O,c,uc⟩:=AM d.un;simp[sl]at c;obtain⟨rfl,rfl⟩:=c;rw[aw];generalize z:aP aE _ _=PP;simp(disch:=omega);refine aU (λk σ h'=>k<=n∧ae h1 h'∧bP h1 h' (σ 3) 1 (ints (xg X k))∧σ 5=sl (b+1) 0 n 4∧σ 4=sl b 0 n 4∧σ 6=I k) (λk=>n-k) 0 ?_ ?_
 ·exact⟨by omega,ae.refl _,by simpa [xg,ints]using bP.nil,by simp,by simp,by simp⟩
 ·rintro k σ h'⟨V,g,b3,x,m,o⟩;simp(disch:=omega)[m,o];refine aG (λR=>?_) (λT=>?_)
  ·have j:k<n:=by omega
   have ko:k<D.ov.length:=by rw[a.ol];exact j
   have l:k<D.un.length:=by rw[a.ul];exact j
   have c1:=g.aZ (oc k ko);have c2:=g.aZ (uc k l);obtain⟨p,q⟩:=a.od _ (aD ko);obtain⟨y1,y2⟩:=a.ud _ (aD l);have i:=f k;rw[fR ko,fR l]at i;obtain⟨u,hu⟩:=aC (D.ov[k]);obtain⟨w,hw⟩:=aC (D.un[k]);rw[<-hu]at c1 p q i;rw[<-hw]at c2 y1 y2 i;obtain⟨M,N,B,C⟩:=u;obtain⟨P,Q,J,L⟩:=w;simp only[dt]at c1 c2 p q y1 y2;simp(disch:=omega)[m,x,o,j,c1,c2];refine aO (ao2 h' M N B C P Q J L p q y1 y2) ?_;rintro _ y⟨rfl,rfl⟩
   try simp(disch:=omega)
   refine oa (aL hp g1) g (by rw[F];omega) b3 λY y g2 G=>?_;rw[<-i]at G;simp(disch:=omega)[m,x,o,wrap64];refine⟨k+1,?_,by omega⟩;and_intros<;>first|assumption|omega|rfl
  ·have:k=n:=by omega
   subst this;obtain⟨S,s⟩:=b3.nw;rw[s]at b3;simp(disch:=omega);subst z;simp(disch:=omega)[s];exact⟨g1.trans g,by rw[<-hn];exact b3.base g1.le⟩
theorem aDw(h:a9)(v:Value)(L:List Int)(s:Rw h v 1 (ints L))(hl:L.length<=1000)(hx:∀x∈L,-1000<=x∧x<=1000):aN aE 516 [v] h λr h'=>r=I L.sum∧h'=h:=by
 obtain⟨b,o,n,y,rfl,hn,f⟩:=s;have l:n=L.length:=by simpa [ints]using hn
 subst l;simp only[dn]at f;have t:L=[]∨aZ h b o L.length=some (ints L):=f.imp (λe=>aB.1 e) id;refine ag8 λK c=>?_;refine c ?_;refine akW λK c=>?_;refine c ?_;rw[aw];generalize m:aP aE _ _=PP;simp(disch:=omega);refine aU (λk σ h'=>h'=h∧k<=L.length∧σ 3=I (L.take k).sum∧σ 0=sl b o L.length y∧σ 4=I k) (λk=>L.length-k) 0 ?_ ?_
 ·exact⟨rfl,by omega,by simp,by simp,by simp⟩
 ·rintro k σ h'⟨rfl,p,d,g,i⟩;simp(disch:=omega)[g,i];refine aG (λu=>?_) (λw=>?_)
  ·have a:k<L.length:=by omega
   have j:=eG t a;have s1:=PG hx k p;have s2:=hx _ (aD a);have q:(L.take (k+1)).sum=(L.take k).sum+L[k]:=by rw[aj a,rz];simp
   have w1:IntKind.i64.wrap ((L.take k).sum+L[k])=(L.take (k+1)).sum:=by rw[wrap64 (by omega) (by omega),q]
   simp(disch:=omega)[d,g,i,a,j,w1,wrap64];refine⟨k+1,?_,by omega⟩;and_intros<;>first|assumption|omega|rfl
  ·have:k=L.length:=by omega
   subst this;rw[aK]at d;simp(disch:=omega);subst m;simp(disch:=omega)[d]
theorem aC3(h:a9)(hp:0<h.length)(v:Value)(X:bW)(i:Vr h bU v X):aN aE 430 [v] h λr h'=>ae h h'∧r=.tuple #[I (lY X).1,I (lY X).2]:=by
 obtain⟨W,H,br⟩:=X;obtain⟨s,rfl,w1,w2,r⟩:=i.dE;refine afq ?_;rw[aw,cy];generalize a:aP aE _ _ 0=K;simp(disch:=omega);obtain⟨h0,c⟩:=aC (h++[⟨[I W,I H,s],true⟩]);rw[<-c];have b:ae h h0:=⟨_,c⟩;have l0:=b.le;have j:h0[h.length]?=some ⟨[I W,I H,s],true⟩:=by rw[c];simp
 have pp:gY h0 (pt h.length 0) (W,H,br):=gY.at j (r.grow b) w1 w2;subst a;simp only[aq];rw[aw];generalize a:aP aE _ _=K;simp(disch:=omega);refine aO (An _ (W,H,br) h0 pp) ?_;rintro _ h1⟨rfl,rfl⟩;cases d:iv (W,H,br)
 ·have e:lY (W,H,br)=(0,1):=by simp[lY,d]
  rw[e]at a;simp(disch:=omega);subst a;simp(disch:=omega);exact b
 have ok:=dK.1 d;have e:lY (W,H,br)=((lE (W,H,br)).sum,0):=by simp[lY,d]
 rw[e]at a;simp(disch:=omega);subst a;simp only[aq];simp(disch:=omega);refine aO (aDv h1 (by omega) _ (W,H,br) pp ok) ?_;rintro k g⟨g2,b2⟩;have n:(lE (W,H,br)).length=dM br:=BF _ _;have f:∀x∈lE (W,H,br),x=1∨x=-1:=KA _ _;have m:=rE ok
 try simp(disch:=omega)
 refine aO (aDw g k (lE (W,H,br)) b2.rw (by omega) λx hx=>by have:=f x hx;omega) ?_;rintro _ l⟨rfl,rfl⟩;simp(disch:=omega);exact b.trans g2
theorem lH.cover{α:Type}{f R:α->α}{seg:α->Nat}{V:α->Prop}{N:Nat}(a:lH f R seg V N){wk:Nat->α}(hw:∀k,k<N->V (wk k))(r:∀k,k<N->seg (wk k)=k):∀k,k<=N->∀s,s<N->0<=fi (dg f seg wk N k).1 s->∃i,∃hi:i<(gW f seg wk N k).length,fi (dg f seg wk N k).1 s=i∧∃m,seg (dP f m (wk (gW f seg wk N k)[i]))=s
 |0,_=>by
  intro s h h0;simp[dg,fi,aA,jZ,h]at h0
 |k+1,t=>by
  have ih:=lH.cover a hw r k (by omega);obtain⟨s1,s2,u⟩:=a.st hw k (by omega);have hl:=zY f seg wk N k;by_cases h0:0<=fi (dg f seg wk N k).1 k
  ·have d:dg f seg wk N (k+1)=dg f seg wk N k:=by simp only[dg];rw[if_pos h0]
   have b:gW f seg wk N (k+1)=gW f seg wk N k:=by simp only[gW];rw[if_pos h0]
   simp only[d,b];exact ih
  ·obtain⟨O,e⟩:=aC ((dg f seg wk N k).1);obtain⟨c,l⟩:=aC ((dg f seg wk N k).2);have d:dg f seg wk N (k+1)=(oY f seg (wk k) c O (im f (wk k)),c+1):=by simp only[dg];rw[if_neg h0,e,l]
   have b:gW f seg wk N (k+1)=gW f seg wk N k++[k]:=by simp only[gW];rw[if_neg h0]
   rw[<-e]at h0 s1 ih;rw[<-l]at hl;obtain⟨S,g⟩:=aC (gW f seg wk N k);rw[<-g]at hl b;simp only[<-g]at ih;simp only[d,b];intro s h h1;rw[yu (by rw[s1];exact h)]at h1 ⊢;by_cases q:∃j,j<im f (wk k)∧seg (dP f j (wk k))=s
   ·rw[if_pos q];obtain⟨j,_,p⟩:=q;refine⟨c,by rw[af,hl];simp,rfl,j,?_⟩;rw[fG (by omega)];simp only[hl,gN,gG];exact p
   ·rw[if_neg q]at h1 ⊢;obtain⟨i,hi,n,m,o⟩:=ih s h h1;refine⟨i,by rw[af];omega,n,m,?_⟩;rw[dY hi];exact o
theorem aeW{X:bW}(ok:fg X){u:Wk}(hu:sj X.1.toNat X.2.1.toNat u):∃c,c<bC X∧(u∈fq X c∨zZ u∈fq X c):=by
 have A:=xR (W:=X.1.toNat) (H:=X.2.1.toNat) (br:=X.2.2) (by have:=ok.w;omega) (by have:=ok.h;omega);have g:=A.lt _ hu;have h0:=(FV ok).all _ g;obtain⟨i,hi,_,m,hm⟩:=A.cover (λk f=>Dr (by have:=ok.h;omega) f) (λk f=>Hr (by have:=ok.h;omega) f) _ (aa _) _ g h0;have d:i<bC X:=by rw[<-BI];exact hi
 have b:my X i=qw X.2.1.toNat (jA X)[i]:=by have e:(jA X).getD i 0=(jA X)[i]:=fR hi;unfold my;rw[e]
 have j:kY X.2.1.toNat (dP (fK X.1.toNat X.2.1.toNat X.2.2) m (my X i))=kY X.2.1.toNat u:=by rw[b];exact hm
 have P:=A.Bz (yf ok d);rw[Ys P.2.2.1]at j;have a:dP (fK X.1.toNat X.2.1.toNat X.2.2) (m%im (fK X.1.toNat X.2.1.toNat X.2.2) (my X i)) (my X i)∈fq X i:=by unfold fq nP;exact bj.2 ⟨_,da.2 (kL _ P.1),rfl⟩
 refine⟨i,d,?_⟩;rcases(A.sg _ _ (A.vi (yf ok d) _) hu).1 j with e|e
 ·rw[e]at a;exact .inl a
 ·rw[e]at a;exact .inr a
theorem aeX{X:bW}(ok:fg X){c:Nat}(b:c<bC X){w:Wk}(hw:w∈fq X c):∃p∈fq X c,fK X.1.toNat X.2.1.toNat X.2.2 p=w:=by
 have A:=xR (W:=X.1.toNat) (H:=X.2.1.toNat) (br:=X.2.2) (by have:=ok.w;omega) (by have:=ok.h;omega);have P:=A.Bz (yf ok b);unfold fq nP at hw ⊢;obtain⟨j,a,rfl⟩:=bj.1 hw;have a:=da.1 a;cases j with
 |zero=>
  refine⟨_,bj.2 ⟨im (fK X.1.toNat X.2.1.toNat X.2.2) (my X c)-1,da.2 (by omega),rfl⟩,?_⟩;have:dP (fK X.1.toNat X.2.1.toNat X.2.2) (im (fK X.1.toNat X.2.1.toNat X.2.2) (my X c)-1+1) (my X c)=my X c:=by rw[show im (fK X.1.toNat X.2.1.toNat X.2.2) (my X c)-1+1=im (fK X.1.toNat X.2.1.toNat X.2.2) (my X c)by omega];exact P.2.2.1
  exact this
 |succ j=>exact⟨_,bj.2 ⟨j,da.2 (by omega),rfl⟩,rfl⟩
theorem ZS{X:bW}(ok:fg X){c:Nat}(b:c<bC X){w:Wk}(hw:w∈fq X c):sj X.1.toNat X.2.1.toNat (fK X.1.toNat X.2.1.toNat X.2.2 w)∧fi (tZ X) (kY X.2.1.toNat (fK X.1.toNat X.2.1.toNat X.2.2 w))=c:=by
 have A:=xR (W:=X.1.toNat) (H:=X.2.1.toNat) (br:=X.2.2) (by have:=ok.w;omega) (by have:=ok.h;omega);have hl:c<(jA X).length:=by rw[BI];exact b
 have a:my X c=qw X.2.1.toNat (jA X)[c]:=by have e:(jA X).getD c 0=(jA X)[c]:=fR hl;unfold my;rw[e]
 unfold fq nP at hw;obtain⟨j,d,rfl⟩:=bj.1 hw;refine⟨A.vi (yf ok b) (j+1),?_⟩;have:=(FV ok).on c hl (j+1);rw[a];exact this
theorem aeU{X:bW}(ok:fg X){y:Int}(n:Lq X.1.toNat X.2.1.toNat x y)(i:kU X.1.toNat X.2.1.toNat X.2.2 x y=true)(o:Bool):∃c,c<bC X∧∃w∈fq X c,w.1+w.2.2.1=x∧w.2.1+w.2.2.2=y∧uI w=o:=by
 have he:=Ao i;unfold gr at he;simp only[not_or]at he;obtain⟨hx,hy,hp⟩:=n;have fin:∀dy:Int,dy=1∨dy=-1->(∀e:Int,e=1∨e=-1->uI (x-e,y-e*dy,e,e*dy)=o)->∃c,c<bC X∧∃w∈fq X c,w.1+w.2.2.1=x∧w.2.1+w.2.2.2=y∧uI w=o:=by
  intro dy l j;have hu:sj X.1.toNat X.2.1.toNat (x-1,y-dy,1,dy):=by refine⟨.inl rfl,l,?_,?_,?_,?_,?_⟩<;>simp only<;>omega
  obtain⟨c,d,q|q⟩:=aeW ok hu
  ·refine⟨c,d,_,q,by simp only;omega,by simp only;omega,?_⟩;have:=j 1 (.inl rfl);simpa using this
  ·obtain⟨p,k,b⟩:=aeX ok d q;refine⟨c,d,p,k,?_⟩;have m:=Ca ok d p k;obtain⟨px,py,f,a⟩:=p;have b1:px+f=x:=by have:=congrArg (λw:Wk=>w.1) b;simp only[fK,zZ]at this;omega
   have b2:py+a=y:=by have:=congrArg (λw:Wk=>w.2.1) b;simp only[fK,zZ]at this;omega
   have b3:=Iv (W:=X.1.toNat) (H:=X.2.1.toNat) (br:=X.2.2) m (by simp only[b1,b2];exact i);rw[b3]at b;simp only[Ae,zZ,cF]at b;obtain⟨_,_,r,u⟩:=b;refine⟨b1,b2,?_⟩;have:=j (-1) (.inr rfl);have s:px=x- -1:=by omega
   have g:py=y- -1*dy:=by omega
   have t:-1*dy=a:=by omega
   rw[t]at this g;rw[s,g,r];exact this
 have sl:lX x=1∨lX x=-1:=by unfold lX;split<;>simp
 have ov:∀dy e:Int,e=1∨e=-1->uI (x-e,y-e*dy,e,e*dy)=decide (dy=lX x):=by
  intro dy e h;unfold uI;simp only;have:x-e+e=x:=by omega
  rw[this]
  congr 1
  rcases h with rfl|rfl<;>simp<;>omega
 cases o
 ·refine fin (-lX x) (by omega) λe h=>?_;rw[ov _ _ h,decide_eq_false_iff_not];omega
 ·refine fin (lX x) (by omega) λe h=>?_;rw[ov _ _ h,decide_eq_true_iff]
theorem Ue{br:List Int}:∀m,m<=br.length->∀k,k<lU br m->∃j,∃b:j<br.length,br[j]=0∧lU br j=k
 |0,_=>by intro k a;have:=B9 br 0;omega
 |m+1,hm=>by
  intro k a;rw[Ay (by omega)]at a;by_cases q:k<lU br m
  ·exact Ue m (by omega) k q
  ·by_cases e:br[m]=0
   ·rw[if_pos e]at a;exact⟨m,by omega,e,by omega⟩
   ·rw[if_neg e]at a;omega
theorem ah7{X:bW}(ok:fg X){k:Nat}(b:k<dM X.2.2):∃x y:Int,Lq X.1.toNat X.2.1.toNat x y∧kU X.1.toNat X.2.1.toNat X.2.2 x y=true∧lU X.2.2 (jd X.1.toNat x.toNat y.toNat)=k:=by
 obtain⟨j,a,h0,h1⟩:=Ue _ (aa _) k b;have e:=ok.row;obtain⟨x,y,hp⟩:=zd.ex (W:=X.1.toNat) (H:=X.2.1.toNat) (k:=j) (by have:=ok.w;omega) (by have:=ok.h;omega) (by omega);obtain⟨b1,b2,b3⟩:=hp.bd;have c:=hp.y1;have d:=hp.y2;have hn:=hp.num;refine⟨x,y,⟨by omega,by omega,by omega⟩,?_,by simp only[aM];rw[hn];exact h1⟩;have ne:¬gr X.1.toNat X.2.1.toNat (x:Int) (y:Int):=by unfold gr;omega
 unfold kU;simp only[aM,aH,fp,decide_eq_false_iff_not,decide_eq_true_eq];exact⟨ne,by rw[hn,ng a];exact h0⟩
def vE(o:Bool)(D:xw)(k:Nat):Wk:=if o then D.ov.getD k (0,0,0,0)else D.un.getD k (0,0,0,0)
def cE(o:Bool)(D:xw)(k:Nat):Int:=if o then D.oc.getD k 0 else D.uc.getD k 0
theorem AE{α:Type}{l:List α}{k:Nat}{a d:α}(b:k<l.length):(l.set i a).getD k d=if i=k then a else l.getD k d:=by rw[fR (by rw[aS];exact b),iQ,fR b]
theorem apr{W H n:Nat}{D:xw}{w:Wk}(d:uY n D){k:Nat}(a:k<n)(o:Bool):(vE o (tX W H br c D w) k=vE o D k∧cE o (tX W H br c D w) k=cE o D k∧¬(kU W H br (w.1+w.2.2.1) (w.2.1+w.2.2.2)=true∧uI w=o∧AZ W br w=k))∨(kU W H br (w.1+w.2.2.1) (w.2.1+w.2.2.2)=true∧vE o (tX W H br c D w) k=Ae w∧cE o (tX W H br c D w) k=c):=by
 unfold tX;cases i:kU W H br (w.1+w.2.2.1) (w.2.1+w.2.2.2)
 ·left;simp
 ·simp only[if_true];have e:k<D.ov.length:=by rw[d.ol];exact a
  have f:k<D.un.length:=by rw[d.ul];exact a
  have g:k<D.oc.length:=by rw[d.cl];exact a
  have h:k<D.uc.length:=by rw[d.dl];exact a
  cases j:uI w<;>cases o<;>by_cases b:AZ W br w=k<;>simp[vE,cE,afz,e,f,g,h,b]
def Hw(X:bW)(o:Bool)(D:xw)(k:Nat):Prop:=sj X.1.toNat X.2.1.toNat (vE o D k)∧fi (tZ X) (kY X.2.1.toNat (vE o D k))=cE o D k∧0<=cE o D k∧cE o D k<bC X
theorem aeY{X:bW}(ok:fg X){c:Nat}(g:c<bC X){k:Nat}(l:k<dM X.2.2)(o:Bool):∀(ws:List Wk) (D:xw),uY (dM X.2.2) D->(∀w∈ws,w∈fq X c)->(Hw X o D k∨∃w∈ws,kU X.1.toNat X.2.1.toNat X.2.2 (w.1+w.2.2.1) (w.2.1+w.2.2.2)=true∧uI w=o∧AZ X.1.toNat X.2.2 w=k)->Hw X o (ws.foldl (tX X.1.toNat X.2.1.toNat X.2.2 c) D) k
 |[],D,d,_,h=>by
  rcases h with h|⟨w,hw,_⟩
  ·exact h
  ·simp at hw
 |w::ws,D,d,hw,h=>by
  simp only[gI];have a:=hw w (by simp);have j:=Ca ok g w a;refine aeY ok g l o ws _ (XJ d j) (λu hu=>hw u (by simp[hu])) ?_;rcases apr (W:=X.1.toNat) (H:=X.2.1.toNat) (br:=X.2.2) (c:=c) (w:=w) d l o with⟨b,e,f⟩|⟨b,e,f⟩
  ·rcases h with h|⟨u,hu,q1,q2,i⟩
   ·left;unfold Hw at h ⊢;rw[b,e];exact h
   ·rcases bR.1 hu with q|q
    ·rw[q]at q1 q2 i;exact absurd ⟨q1,q2,i⟩ f
    ·exact .inr ⟨u,q,q1,q2,i⟩
  ·left;obtain⟨n1,n2⟩:=ZS ok g a;rw[Iv j b]at n1 n2;unfold Hw;rw[e,f];exact⟨n1,n2,by omega,by omega⟩
theorem aeZ{X:bW}(ok:fg X){k:Nat}(d:k<dM X.2.2)(o:Bool){c:Nat}(f:c<bC X){w:Wk}(hw:w∈fq X c)(h1:kU X.1.toNat X.2.1.toNat X.2.2 (w.1+w.2.2.1) (w.2.1+w.2.2.2)=true)(a:uI w=o)(b:AZ X.1.toNat X.2.2 w=k):∀m,c<m->m<=bC X->Hw X o (rS X m) k
 |0,h,_=>by omega
 |m+1,h,hm=>by
  show Hw X o ((fq X m).foldl (tX X.1.toNat X.2.1.toNat X.2.2 m) (rS X m)) k
  refine aeY ok (by omega) d o _ _ (AA ok (by omega)) (λu hu=>hu) ?_;by_cases e:c=m
  ·subst e;exact .inr ⟨w,hw,h1,a,b⟩
  ·exact .inl (aeZ ok d o f hw h1 a b m (by omega) (by omega))
theorem KY{X:bW}(ok:fg X){k:Nat}(f:k<dM X.2.2)(o:Bool):Hw X o (ir X) k:=by obtain⟨x,y,n,d,e⟩:=ah7 ok f;obtain⟨c,g,w,hw,a,b,h⟩:=aeU ok n d o;exact aeZ ok f o g hw (by rw[a,b];exact d) h (by unfold AZ;rw[a,b];exact e) _ g (aa _)
def vq(T:List (List Int))(a b:Nat)(s:Int):List (List Int):=T.set a ((T.getD a []).set b ((T.getD a []).getD b 0+s))
def CQ(T:List (List Int))(a b:Nat)(s:Int):List (List Int):=if a=b then T else vq (vq T a b s) b a s
def zP(T:List (List Int))(a b:Nat)(s:Int):List (List Int):=if a=b then vq T a b s else vq (vq T a b s) b a s
def HZ(N:Nat):List (List Int):=List.replicate N (List.replicate N 0)
structure rf (N:Nat) (m:Int) (T:List (List Int)):Prop where
 len:T.length=N
 row:∀i (hi:i<T.length),T[i].length=N∧∀x∈T[i],-m<=x∧x<=m
theorem VB(N:Nat):rf N 0 (HZ N):=by refine⟨by simp[HZ],λi hi=>?_⟩;simp only[HZ,List.getElem_replicate,fU,true_and];intro x hx;have:=jf hx;omega
theorem rf.mono{m a:Int}{T:List (List Int)}(t:rf N m T)(h:m<=a):rf N a T:=
 ⟨t.len,λi hi=>⟨(t.row i hi).1,λx hx=>by have:=(t.row i hi).2 x hx;omega⟩⟩
theorem rf.at{m:Int}{T:List (List Int)}(t:rf N m T)(c:a<N)(d:b<N):-m<=(T.getD a []).getD b 0∧(T.getD a []).getD b 0<=m:=by
 have h1:a<T.length:=by rw[t.len];exact c
 rw[fR h1];obtain⟨e,f⟩:=t.row a h1;rw[fR (by rw[e];exact d)];exact f _ (aD _)
theorem yB{m:Int}{T:List (List Int)}{s:Int}(t:rf N m T)(e:a<N)(f:b<N)(h:-1<=s∧s<=1):rf N (m+1) (vq T a b s):=by
 have h1:a<T.length:=by rw[t.len];exact e
 have hx:=t.at e f;refine⟨by simp[vq,t.len],λi hi=>?_⟩;simp only[vq,iQ];split
 ·obtain⟨c,d⟩:=t.row a h1;rw[fR h1]at hx ⊢;refine⟨by rw[aS];exact c,λx g=>?_⟩;rcases bJ g with q|q
  ·have:=d x q;omega
  ·omega
 ·have iY:i<T.length:=by simpa [vq]using hi
  obtain⟨c,d⟩:=t.row i iY;exact⟨c,λx hx=>by have:=d x hx;omega⟩
theorem GC{m:Int}{T:List (List Int)}{s:Int}(t:rf N m T)(f:a<N)(hi:i<N)(d:j<N):((vq T a b s).getD i []).getD j 0=if a=i∧b=j then(T.getD i []).getD j 0+s else(T.getD i []).getD j 0:=by
 have h1:i<T.length:=by rw[t.len];exact hi
 unfold vq;rw[AE h1];by_cases e:a=i
 ·subst e;rw[if_pos rfl];have hl:j<(T.getD a []).length:=by rw[fR h1,(t.row a h1).1];exact d
  rw[AE hl];by_cases c:b=j
  ·subst c;simp
  ·simp[c]
 ·simp[e]
def Tp(N:Nat)(T U:List (List Int)):Prop:=∀i j,i<N->j<N->i≠j->(T.getD i []).getD j 0=(U.getD i []).getD j 0
theorem ajs{m:Int}{T:List (List Int)}{s:Int}(t:rf N m T)(c:a<N)(d:b<N)(e:-1<=s∧s<=1):rf N (m+2) (CQ T a b s):=by
 unfold CQ;split
 ·exact t.mono (by omega)
 ·exact(yB (yB t c d e) d c e).mono (by omega)
theorem af0{m:Int}{T:List (List Int)}{s:Int}(t:rf N m T)(c:a<N)(d:b<N)(e:-1<=s∧s<=1):rf N (m+2) (zP T a b s):=by
 unfold zP;split
 ·exact(yB t c d e).mono (by omega)
 ·exact(yB (yB t c d e) d c e).mono (by omega)
theorem ajr{m:Int}{T U:List (List Int)}{s:Int}(t:rf N m T)(u:rf N m U)(d:a<N)(f:b<N)(h:-1<=s∧s<=1)(e:Tp N T U):Tp N (CQ T a b s) (zP U a b s):=by
 intro i j hi c k;have g:=e i j hi c k;unfold CQ zP;by_cases q:a=b
 ·subst q;rw[if_pos rfl,if_pos rfl,GC u d hi c,if_neg (by omega)];exact g
 ·rw[if_neg q,if_neg q,GC (yB t d f h) f hi c,GC (yB u d f h) f hi c,GC t d hi c,GC u d hi c,g]
noncomputable def xM(X:bW):Nat->List (List Int)
 |0=>HZ (bC X)
 |k+1=>CQ (xM X k) (cE true (ir X) k).toNat (cE false (ir X) k).toNat (u9 (vE true (ir X) k) (vE false (ir X) k))
noncomputable def ym(X:bW):Nat->List (List Int)
 |0=>HZ (bC X)
 |k+1=>zP (ym X k) (cE true (ir X) k).toNat (cE false (ir X) k).toNat (u9 (vE true (ir X) k) (vE false (ir X) k))
theorem Na(a b:Wk):-1<=u9 a b∧u9 a b<=1:=by unfold u9;split<;>omega
theorem Cl{X:bW}(ok:fg X):∀k,k<=dM X.2.2->rf (bC X) (2*k) (xM X k)∧rf (bC X) (2*k) (ym X k)∧Tp (bC X) (xM X k) (ym X k)
 |0,_=>⟨VB _,VB _,λ_ _ _ _ _=>rfl⟩
 |k+1,h=>by
  obtain⟨b,c,d⟩:=Cl ok k (by omega);obtain⟨_,_,f,g⟩:=KY ok (show k<dM X.2.2 by omega) true;obtain⟨_,_,b1,b2⟩:=KY ok (show k<dM X.2.2 by omega) false;have a:=Na (vE true (ir X) k) (vE false (ir X) k);have e:(2:Int)*((k+1:Nat):Int)=2*k+2:=by omega
  rw[e];exact⟨ajs b (by omega) (by omega) a,af0 c (by omega) (by omega) a,ajr b c (by omega) (by omega) a d⟩
noncomputable def tK(X:bW)(a b:Int):Int×Int:=if ke X [a,b]≠0 then(0,ke X [a,b])else if a=b then(0,6)else((((xM X (dM X.2.2)).getD a.toNat []).getD b.toNat 0).tdiv 2,0)
structure mX (lo hi:Nat) (h:a9) (v:Value) (N:Nat) (R:List Nat) (T:List (List Int)):Prop where
 tl:R.length=T.length
 Je:(R=[]∧v=sl 0 0 0 1)∨∃b,v=sl b 0 R.length 1∧lo<=b∧b<hi∧h[b]?=some ⟨R.map λr=>sl r 0 N 1,true⟩∧∀r∈R,r≠b
 rl:∀i (hi:i<T.length),T[i].length=N
 row:∀i (iY:i<T.length),∃r,R[i]?=some r∧lo<=r∧r<hi∧h[r]?=some ⟨ints T[i],true⟩
 inj:∀i j r:Nat,R[i]?=some r->R[j]?=some r->i=j
theorem mX.nil{hi:Nat}:mX lo hi h (sl 0 0 0 1) N [] []:=⟨rfl,.inl ⟨rfl,rfl⟩,by simp,by simp,by simp⟩
theorem mX.mod{hi:Nat}{v:Value}{T:List (List Int)}(x:mX lo hi h v N R T)(m:Mod tu iY h h')(f:hi<=tu):mX lo hi h' v N R T:=by
 refine⟨x.tl,x.Je.imp id ?_,x.rl,λi iY=>?_,x.inj⟩
 ·rintro⟨b,e,h1,c,a,d⟩;exact⟨b,e,h1,c,by rw[m.2 b (bZ a) (.inl (by omega))];exact a,d⟩
 ·obtain⟨r,e,h1,c,a⟩:=x.row i iY;exact⟨r,e,h1,c,by rw[m.2 r (bZ a) (.inl (by omega))];exact a⟩
theorem mX.grow{hi:Nat}{v:Value}{T:List (List Int)}(x:mX lo hi h v N R T)(g:ae h h'):mX lo hi h' v N R T:=
 x.mod (g.mod (lo:=hi) (hi:=hi)) (aa _)
theorem mX.wide{hi:Nat}{v:Value}{T:List (List Int)}(x:mX lo hi h v N R T)(g:hi<=iY):mX lo iY h v N R T:=by
 refine⟨x.tl,x.Je.imp id ?_,x.rl,λi q=>?_,x.inj⟩
 ·rintro⟨b,e,h1,c,a⟩;exact⟨b,e,h1,by omega,a⟩
 ·obtain⟨r,e,h1,c,a⟩:=x.row i q;exact⟨r,e,h1,by omega,a⟩
theorem mX.low{hi:Nat}{v:Value}{T:List (List Int)}(x:mX lo hi h v N R T)(g:tu<=lo):mX tu hi h v N R T:=by
 refine⟨x.tl,x.Je.imp id ?_,x.rl,λi q=>?_,x.inj⟩
 ·rintro⟨b,e,h1,a,c⟩;exact⟨b,e,by omega,a,c⟩
 ·obtain⟨r,e,h1,a,c⟩:=x.row i q;exact⟨r,e,by omega,a,c⟩
theorem mX.nw{hi:Nat}{v:Value}{T:List (List Int)}(x:mX lo hi h v N R T):∃b,v=sl b 0 T.length 1:=by
 rcases x.Je with⟨a,c⟩|⟨b,e,_⟩
 ·have:=x.tl;rw[a]at this;exact⟨0,by rw[c,<-this];rfl⟩
 ·exact⟨b,by rw[e,x.tl]⟩
theorem mX.app{v:Value}{T:List (List Int)}{row:List Int}(hp:0<h0.length)(g:ae h0 h)(x:mX h0.length h.length h v N R T)(hl:T.length<=1000)(L:row.length=N)
  (I:∀t h' D,ae h0 h'->mX h0.length h'.length h' t N D (T++[row])->K t h'):gE (aW 1 1 (h++[⟨ints row,true⟩]) [(0,.agg #[sl 0 0 0 0]),(1,sl h.length 0 N 1)]) (λy B=>gE (cu 1 B y v) K):=by
 obtain⟨h1,p⟩:=aC (h++[⟨ints row,true⟩]);rw[<-p];have g1:ae h h1:=⟨_,p⟩;have l1:h1.length=h.length+1:=by rw[p];simp
 have M:h1[h.length]?=some ⟨ints row,true⟩:=by rw[p];simp
 have F:aW 1 1 h1 [(0,.agg #[sl 0 0 0 0]),(1,sl h.length 0 N 1)]=some (sl h1.length 0 1 1,h1++[⟨[sl h.length 0 N 1],true⟩]):=by simp[aW]
 rw[F];simp only[bI];have hle:=g.le;have C:=x.grow g1;have E:bP h0 h1 v 1 (R.map λr=>sl r 0 N 1):=by
  rcases C.Je with⟨a,k⟩|⟨b,e,h1,B,H,Q⟩
  ·exact .inl ⟨by rw[a];rfl,k⟩
  ·exact .inr ⟨b,_,e,by simp,h1,H⟩
 refine AU hp (g.trans g1) (aa _) (g.trans g1).le E rfl (by omega) (by rw[bL,x.tl];simp[maxSize];omega) λt h' G l' b' O fr=>?_;have m:∀c s,h1[c]?=some s->c∈R∨c=h.length->h'[c]?=some s:=by
  intro c s J d;refine fr c s J λn e=>?_;rcases x.Je with⟨a,k⟩|⟨b,u,q1,q2,U,P⟩
  ·rw[k]at e;simp[sl]at e;rcases d with d|d
   ·rw[a]at d;simp at d
   ·omega
  ·rw[u]at e;simp[sl]at e;rcases d with d|d
   ·exact P c d e.1.symm
   ·omega
 refine I t h' (R++[h.length]) G ⟨by simp[x.tl],?_,λi hi=>?_,λi hi=>?_,?_⟩
 ·right;rcases b' with⟨a,_⟩|⟨b,n,a,k,u,A⟩
  ·simp at a
  ·have S:=O _ _ _ a;refine⟨b,?_,u,bZ A,by rw[A];simp,λr l=>?_⟩
   ·rw[a];have:n=(R++[h.length]).length:=by simp at k ⊢;omega
    rw[this]
   ·rcases cS.1 l with q|q
    ·obtain⟨i,hi,rfl⟩:=nN q;obtain⟨r,c1,c2,w,_⟩:=x.row i (by rw[<-x.tl];exact hi);rw[ah hi]at c1;injection c1 with c1;omega
    ·have:=fS.1 q;omega
 ·rw[o9];split
  ·rename_i q;exact x.rl i q
  ·simp;exact L
 ·by_cases q:i<T.length
  ·obtain⟨r,c1,c2,w,z⟩:=C.row i q;refine⟨r,by rw[ai (by rw[x.tl];exact q)];exact c1,c2,by omega,?_⟩;rw[dY q];exact m _ _ z (.inl (fP c1))
  ·have:i=T.length:=by simp at hi;omega
   subst this;refine⟨h.length,by rw[aX (by rw[x.tl];exact aa _),x.tl];simp,hle,by omega,?_⟩;rw[fG (by omega)];simp only[gN,gG];exact m _ _ M (.inr rfl)
 ·have o:∀i r:Nat,R[i]?=some r->r<h.length:=by intro i r l;have hi:=(au.1 l).1;obtain⟨V,c1,c2,w,z⟩:=x.row i (by rw[<-x.tl];exact hi);rw[c1]at l;injection l with l;omega
  intro i j r hi f;rw[aeL]at hi f;have el:=x.tl;split at hi<;>split at f
  ·exact x.inj i j r hi f
  ·have:=o _ _ hi;rename_i q1 q2;have e:j-R.length=0:=by have:=(au.1 f).1;simp at this;omega
   rw[e]at f;simp at f;omega
  ·have:=o _ _ f;rename_i q1 q2;have e:i-R.length=0:=by have:=(au.1 hi).1;simp at this;omega
   rw[e]at hi;simp at hi;omega
  ·have a:=(au.1 hi).1;have k:=(au.1 f).1;simp at a k;omega
theorem Cx{k:Nat}{l:List Int}(a:h[b]?=some ⟨ints l,true⟩)(c:k<l.length):cell h b k=some (I l[k]):=by have:=eG (h:=h) (b:=b) (o:=0) (.inr (cI a (by simp[ints]))) c;simpa using this
theorem mX.entry{hi:Nat}{v:Value}{T:List (List Int)}(x:mX lo hi h v N R T)(p:T.length=N){c:Nat}(B:a<N)(C:c<N):∃t r,v=sl t 0 N 1∧cell h t a=some (sl r 0 N 1)∧cell h r c=some (I ((T.getD a []).getD c 0))∧∀s,∃g,storeAt h r c [I ((T.getD a []).getD c 0+s)]=some g∧mX lo hi g v N R (vq T a c s)∧Mod lo hi h g∧g.length=h.length:=by
 have f:a<T.length:=by rw[p];exact B
 obtain⟨r,c1,c2,F,j⟩:=x.row a f;have rl:=x.rl a f;have m:c<T[a].length:=by rw[rl];exact C
 have l:R.length=N:=by rw[x.tl];exact p
 have D:R[a]'(by omega)=r:=by rw[ah (by omega)]at c1;injection c1
 rcases x.Je with⟨z,_⟩|⟨b,o,b1,b2,b3,n⟩
 ·rw[z]at l;simp at l;omega
 refine⟨b,r,by rw[o,l],?_,?_,λs=>?_⟩
 ·unfold cell;rw[b3];simp[c1]
 ·rw[fR f,fR m];exact Cx j m
 ·have A:=iF (x:=(T[a].getD c 0)+s) j m;refine⟨_,by rw[fR f];exact A,?_,?_,by simp⟩
  ·unfold vq;rw[fR f];refine⟨by rw[aS];exact x.tl,.inr ⟨b,o,b1,b2,?_,n⟩,λi hi=>?_,λi hi=>?_,x.inj⟩
   ·rw[ag (λe=>n r (fP c1) e)];exact b3
   ·rw[iQ];split
    ·rw[aS];exact rl
    ·exact x.rl i (by simpa using hi)
   ·have iY:i<T.length:=by simpa using hi
    obtain⟨E,d,u,w,y⟩:=x.row i iY;refine⟨E,d,u,w,?_⟩;rw[iQ];split
    ·rename_i e;subst e;rw[c1]at d;injection d with d;subst d;rw[dr (bZ j)]
    ·rename_i e;rw[ag (λq=>e (x.inj a i r c1 (by rw[q];exact d)))];exact y
  ·refine⟨by simp,λk G hn=>?_⟩;rw[ag (by omega)]
theorem anE{X:bW}{k:Nat}(a:k<(lE X).length):(lE X)[k]=u9 (vE true (ir X) k) (vE false (ir X) k):=by simp only[lE,iP,mG];rfl
theorem c37(h:a9)(hp:0<h.length)(v:Value)(X:bW)(hv:Vr h bU v X)(ok:fg X):aN aE 37 [v] h λr h'=>ae h h'∧∃hi R,mX h.length hi h' r (bC X) R (xM X (dM X.2.2)):=by
 have dD:=hv;have mh:dM X.2.2<=112:=by obtain⟨W,H,br⟩:=X;exact rE ok
 have pf:uY (dM X.2.2) (ir X):=AA ok (aa _);have hN:=mf ok;have fh:=λk D=>(Cl ok k D).1;have Y:=λk (D:k<dM X.2.2) o=>KY ok D o;have hsg:=λk (D:k<(lE X).length)=>anE (X:=X) D;have nY:(lE X).length=dM X.2.2:=BF _ _;have Va:∀k,xM X (k+1)=CQ (xM X k) (cE true (ir X) k).toNat (cE false (ir X) k).toNat (u9 (vE true (ir X) k) (vE false (ir X) k)):=λ_=>rfl;have GP:∀x∈lE X,x=1∨x=-1:=KA _ _;have EJ:xM X 0=HZ (bC X):=rfl;obtain⟨W,H,br⟩:=X;obtain⟨s,rfl,w1,w2,r⟩:=hv.dE;have yF:=λ(h':a9) (g:ae h h')=>Ms h' (aL hp g) _ _ (dD.grow g) ok;obtain⟨N,eN⟩:=aC (bC (W,H,br));obtain⟨n,hn⟩:=aC (dM br);simp only[<-hn,<-eN,Hw]at mh pf fh Y nY EJ yF hN ⊢;refine ag8 λK G=>?_;refine G ?_;refine akW λK G=>?_;refine G ?_;rw[aw];generalize hP:aP aE _ _=PP;simp(disch:=omega);refine aO (yF h (ae.refl _)) ?_;rintro _ h1⟨g1,rfl⟩
 try simp(disch:=omega)
 refine aU (λk σ h'=>k<=N∧ae h h'∧(∃R,mX h.length h'.length h' (σ 3) N R (List.replicate k (List.replicate N 0)))∧σ 1=.agg #[I W,I H,s]∧σ 14=I N∧σ 15=I k) (λk=>N-k) 0 ?_ ?_
 ·exact⟨by omega,g1,⟨[],by simpa using mX.nil⟩,by simp,by simp,by simp⟩
 ·rintro k σ h'⟨D,l,⟨R,M⟩,q1,xO,AK⟩;simp(disch:=omega)[xO,AK];refine aG (λbB=>?_) (λdG=>?_)
  ·have k1:k<N:=by omega
   simp(disch:=omega)[q1];refine aO (yF h' l) ?_;rintro _ S⟨g2,rfl⟩
   try simp(disch:=omega)
   rw[xl (by omega)];simp only[bI];have tb2:mX h.length S.length S (σ 3) N R (List.replicate k (List.replicate N 0)):=by have t:=M.grow g2;exact t.wide g2.le
   refine mX.app hp (l.trans g2) tb2 (by simp;omega) (by simp) λv' h3 R' F A=>?_;have er:List.replicate k (List.replicate N (0:Int))++[List.replicate N 0]=List.replicate (k+1) (List.replicate N 0):=by rw[kP]
   rw[er]at A;simp(disch:=omega)[q1,xO,AK,wrap64];refine⟨k+1,?_,by omega⟩;and_intros<;>first|assumption|omega|exact⟨R',A⟩
  ·have:k=N:=by omega
   subst this;obtain⟨O,e3⟩:=M.nw;rw[e3]at M;simp only[fU]at M e3;simp(disch:=omega);subst hP;simp only[aq];refine bg λK G=>?_;simp(disch:=omega)[q1];refine aO (c30 h' (aL hp l) W H br s ok (r.grow l)) ?_;rintro _ S⟨g2,b,rfl,hb,d⟩;simp only[<-hn]
   try simp(disch:=omega)
   refine G ?_;rw[aw];generalize hP:aP aE _ _=PP;simp(disch:=omega)[q1];refine aO (c52 S (aL hp (l.trans g2)) W H br s ok (r.grow (l.trans g2))) ?_;rintro r3 h3⟨F,bs⟩;have A:=(M.grow g2).grow F;have P:=d.grow F;obtain⟨sb,es⟩:=bs.nw;have p:(ints (lE (W,H,br))).length=n:=by rw[ints,bL,nY]
   rw[p]at es;subst es;have Rm:=(l.trans g2).trans F;obtain⟨hi,GL⟩:=aC h'.length;have g2l:=g2.le;have g3l:=F.le;have hgl:=l.le;rw[<-GL]at A;have hz:List.replicate k (List.replicate k (0:Int))=xM (W,H,br) 0:=by rw[EJ];rfl
   rw[hz]at A;simp(disch:=omega);refine aU (λj τ m=>j<=n∧Mod h.length hi h3 m∧mX h.length hi m (sl O 0 k 1) k R (xM (W,H,br) j)∧τ 3=sl O 0 k 1∧τ 6=sl (b+2) 0 n 1∧τ 7=sl (b+3) 0 n 1∧τ 32=sl sb 0 n 1∧τ 33=I n∧τ 34=I j) (λj=>n-j) 0 ?_ ?_
   ·exact⟨by omega,⟨aa _,λ_ _ _=>rfl⟩,A,by simp[e3],by simp,by simp,by simp,by simp,by simp⟩
   rintro j τ m⟨hj,w,V,t3,t6,t7,L,y,z⟩;simp(disch:=omega)[y,z];refine aG (λbB=>?_) (λdG=>?_)
   ·have E:j<n:=by omega
    obtain⟨_,_,a1,a2⟩:=Y j E true;obtain⟨_,_,b1,b2⟩:=Y j E false;have GU:=hsg j (by omega);have gu:=GP _ (aD (show j<(lE (W,H,br)).length by omega));have U:=fh j (by omega);have f:=Va j;have xK:cell m sb j=some (I (lE (W,H,br))[j]):=by
     rcases bs with⟨Q,_⟩|⟨b',n',Q,e2,XN,i⟩
     ·rw[Q]at p;simp at p;omega
     ·simp[sl]at Q;obtain⟨rfl,rfl⟩:=Q;exact Cx (by rw[w.2 _ (bZ i) (.inr (by omega))];exact i) (by omega)
    have q:cell m (b+2) j=some (I (cE true (ir (W,H,br)) j)):=by
     have hl:j<(ir (W,H,br)).oc.length:=by rw[pf.cl];exact E
     have:=Cx (h:=m) (by rw[w.2 _ (bZ P.oc) (.inr (by omega))];exact P.oc) hl;rw[this];simp only[cE,if_true,fR hl]
    have u:cell m (b+3) j=some (I (cE false (ir (W,H,br)) j)):=by
     have hl:j<(ir (W,H,br)).uc.length:=by rw[pf.dl];exact E
     have:=Cx (h:=m) (by rw[w.2 _ (bZ P.uc) (.inr (by omega))];exact P.uc) hl;rw[this];simp only[cE,ax,if_false,fR hl]
    obtain⟨a,ea⟩:∃a:Nat,cE true (ir (W,H,br)) j=a:=⟨(cE true (ir (W,H,br)) j).toNat,by omega⟩;obtain⟨c,ec⟩:∃c:Nat,cE false (ir (W,H,br)) j=c:=⟨(cE false (ir (W,H,br)) j).toNat,by omega⟩;obtain⟨sg,NZ⟩:=aC ((lE (W,H,br))[j]);rw[<-GU]at f;rw[<-NZ]at f xK gu;rw[ea]at q a1 a2 f;rw[ec]at u b1 b2 f;simp only[aM]at f;have B:a<k:=by omega
    have C:c<k:=by omega
    obtain⟨T,eT⟩:=aC (xM (W,H,br) j);rw[<-eT]at V U f;by_cases XT:a=c
    ·have e:CQ T a c sg=T:=by unfold CQ;rw[if_pos XT]
     rw[e]at f;rw[<-f]at V;have Z:(a:Int)=c:=by omega
     simp(disch:=omega)[t3,t6,t7,L,y,z,xK,q,u,Z,wrap64,E];refine⟨j+1,?_,by omega⟩;and_intros<;>first|assumption|omega|exact w.1|exact w.2
    ·have e:CQ T a c sg=vq (vq T a c sg) c a sg:=by unfold CQ;rw[if_neg XT]
     rw[e]at f;have Z:¬(a:Int)=c:=by omega
     have GY:=yB (s:=sg) U B C (by omega);have bd1:=U.at B C;have bd2:=GY.at C B;obtain⟨tb1,r1,i,x1,x2,x3⟩:=V.entry U.len B C;simp[sl]at i;subst i;obtain⟨h4,s4,tj4,m4,l4⟩:=x3 sg;obtain⟨tb1,r2,i,y1,y2,y3⟩:=tj4.entry GY.len C B;simp[sl]at i;subst i;obtain⟨h5,s5,tj5,m5,l5⟩:=y3 sg;rw[<-f]at tj5;have J:=(w.trans m4).trans m5;obtain⟨va,eva⟩:=aC ((T.getD a []).getD c 0);obtain⟨vb,evb⟩:=aC (((vq T a c sg).getD c []).getD a 0);rw[<-eva]at x2 s4 bd1;rw[<-evb]at y2 s5 bd2;have wa:=cQ (va+sg) (va+sg);have wb:=cQ (vb+sg) (vb+sg);simp(disch:=omega)[t3,t6,t7,L,y,z,xK,q,u,Z,wrap64,x1,x2,s4,y1,y2,s5,wa,wb,B,C,E];refine⟨j+1,?_,by omega⟩;and_intros<;>first|assumption|omega|exact J.1|exact J.2
   ·have:j=n:=by omega
    subst this;simp(disch:=omega);subst hP;simp(disch:=omega)[t3];exact⟨w.kR Rm (aa _),hi,R,V⟩
end Am

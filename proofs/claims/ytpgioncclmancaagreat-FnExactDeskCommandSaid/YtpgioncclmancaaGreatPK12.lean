/- Contracts of functions. -/
import Derived.Test.YtpgioncclmancaaGreatPK11
set_option linter.unusedVariables false
set_option linter.unusedSimpArgs false
set_option maxHeartbeats 4000000
set_option maxRecDepth 40000
namespace Am
open Go
theorem aDx(h:a9)(hp:0<h.length)(v:Value)(X:bW)(Q:gY h v X)(ok:fg X):aN aE 517 [v] h λr h'=>ae h h'∧∃hi R,mX h.length hi h' r (bC X) R (ym X (dM X.2.2)):=by
 have mh:dM X.2.2<=112:=by obtain⟨W,H,br⟩:=X;exact rE ok
 have U:uY (dM X.2.2) (ir X):=AA ok (aa _);have hN:=mf ok;have fh:=λk hk=>(Cl ok k hk).2.1;have MK:=λk (hk:k<dM X.2.2) o=>KY ok hk o;have Va:∀k,ym X (k+1)=zP (ym X k) (cE true (ir X) k).toNat (cE false (ir X) k).toNat (u9 (vE true (ir X) k) (vE false (ir X) k)):=λ_=>rfl;have EJ:ym X 0=HZ (bC X):=rfl;have GS:=YE ok;have O:=λh hp=>NK h hp v X;have P:=λh hp=>ao1 h hp v X;obtain⟨N,eN⟩:=aC (bC X);obtain⟨n,hn⟩:=aC (dM X.2.2);obtain⟨M,hM⟩:=aC (4*X.1.toNat*X.2.1.toNat);simp only[<-hn,<-eN,<-hM,Hw]at mh U fh MK EJ hN O P GS ⊢;have A:=xR (W:=X.1.toNat) (H:=X.2.1.toNat) (br:=X.2.2) (by have:=ok.w;omega) (by have:=ok.h;omega);refine ag8 λK g=>?_;refine g ?_;refine akW λK g=>?_;refine aO (O h hp Q ok) ?_;rintro _ h1⟨g1,b1,b2,Z,rfl,bz,lr,fC,hO⟩
 try simp(disch:=omega)
 refine g ?_;refine akW λK g=>?_;refine aO (HF h1 (aL hp g1) v X (Q.grow g1) ok) ?_;rintro _ h2⟨g2,rfl⟩;rw[<-eN]
 try simp(disch:=omega)
 refine g ?_;refine akW λK g=>?_;refine g ?_;have gT:=g1.trans g2;have hO:=g2.at hO;have aLP:=bZ hO;rw[aw];generalize hP:aP aE _ _=PP;simp(disch:=omega);refine aU (λk σ h'=>k<=N∧ae h2 h'∧(∃R,mX h2.length h'.length h' (σ 6) N R (List.replicate k (List.replicate N 0)))∧σ 0=v∧σ 4=sl b2 0 M 1∧σ 5=I N∧σ 7=I k) (λk=>N-k) 0 ?_ ?_
 ·exact⟨by omega,ae.refl _,⟨[],by simpa using mX.nil⟩,by simp,by simp,by simp,by simp⟩
 ·rintro k σ h'⟨hk,hg,⟨R,tb⟩,q0,q4,q5,q7⟩;simp(disch:=omega)[q5,q7];refine aG (λbB=>?_) (λdG=>?_)
  ·have k1:k<N:=by omega
   simp(disch:=omega)[q5];rw[xl (by omega)];simp only[bI];refine mX.app (aL hp gT) hg tb (by simp;omega) (by simp) λv' h3 R' G x=>?_;have er:List.replicate k (List.replicate N (0:Int))++[List.replicate N 0]=List.replicate (k+1) (List.replicate N 0):=by rw[kP]
   rw[er]at x;simp(disch:=omega)[q0,q4,q5,q7,wrap64];refine⟨k+1,?_,by omega⟩;and_intros<;>first|assumption|omega|exact⟨R',x⟩
  ·have:k=N:=by omega
   subst this;obtain⟨tbb,e3⟩:=tb.nw;rw[e3]at tb;simp only[fU]at tb e3;simp(disch:=omega);subst hP;simp only[aq];refine bg λK g=>?_;simp(disch:=omega)[q0];have p:=gT.trans hg;refine aO (P h' (aL hp p) (Q.grow p) ok) ?_;rintro _ h3⟨G,b,rfl,hb,d3⟩
   try simp(disch:=omega)
   refine g ?_;have x:=tb.grow G;have Rm:=p.trans G;obtain⟨hi,GL⟩:=aC h'.length;have g3l:=G.le;have hgl:=hg.le;have aEu:=gT.le;rw[<-GL]at x;have hz:List.replicate k (List.replicate k (0:Int))=ym X 0:=by rw[EJ];rfl
   rw[hz]at x;have J:=(hg.trans G).at hO;rw[aw];generalize hP:aP aE _ _=PP;simp(disch:=omega);refine aU (λj τ d=>j<=n∧Mod h2.length hi h3 d∧mX h2.length hi d (sl tbb 0 k 1) k R (ym X j)∧τ 0=v∧τ 4=sl b2 0 M 1∧τ 6=sl tbb 0 k 1∧τ 8=sl b 0 n 4∧τ 9=sl (b+1) 0 n 4∧τ 10=I j) (λj=>n-j) 0 ?_ ?_
   ·exact⟨by omega,⟨aa _,λ_ _ _=>rfl⟩,x,by simpa using q0,by simpa using q4,by simp[e3],by simp,by simp,by simp⟩
   rintro j τ d⟨hj,B,tj,V,Y,C,D,t9,z⟩;simp(disch:=omega)[D,z];refine aG (λbB=>?_) (λdG=>?_)
   ·have i:j<n:=by omega
    obtain⟨w1,o1,a1,a2⟩:=MK j i true;obtain⟨w2,o2,pd,oR⟩:=MK j i false;have lk:=fh j (by omega);have f:=Va j;have X5:ae h d:=B.kR Rm (by omega);have L:d[b2]?=some ⟨ints (tZ X),true⟩:=by rw[B.2 _ (bZ J) (.inl (by omega))];exact J
    have ko:j<(ir X).ov.length:=by rw[U.ol];exact i
    have ku:j<(ir X).un.length:=by rw[U.ul];exact i
    have UZ:d[b]?=some ⟨mQ (ir X).ov,true⟩:=by rw[B.2 _ (bZ d3.ov) (.inr (by omega))];exact d3.ov
    have hdu:d[b+1]?=some ⟨mQ (ir X).un,true⟩:=by rw[B.2 _ (bZ d3.un) (.inr (by omega))];exact d3.un
    obtain⟨wb,wo,E,oc⟩:=AM UZ;simp[sl]at E;obtain⟨rfl,rfl⟩:=E;obtain⟨wb,wo,E,uc⟩:=AM hdu;simp[sl]at E;obtain⟨rfl,rfl⟩:=E;have c1:=oc j ko;have c2:=uc j ku;obtain⟨t,l⟩:=U.od _ (aD ko);obtain⟨y1,y2⟩:=U.ud _ (aD ku);have eo:vE true (ir X) j=(ir X).ov[j]:=by simp only[vE,if_true];exact fR ko
    have eu:vE false (ir X) j=(ir X).un[j]:=by simp only[vE,ax,if_false];exact fR ku
    rw[<-eo]at c1 t l;rw[<-eu]at c2 y1 y2;obtain⟨ca,eca⟩:=aC (cE true (ir X) j);obtain⟨cb,Ut⟩:=aC (cE false (ir X) j);obtain⟨u,hu⟩:=aC (vE true (ir X) j);obtain⟨w,hw⟩:=aC (vE false (ir X) j);rw[<-hu]at c1 t l w1 o1 f;rw[<-hw]at c2 y1 y2 w2 o2 f;rw[<-eca]at o1 a1 a2 f;rw[<-Ut]at o2 pd oR f;have s1:=A.lt _ w1;have s2:=A.lt _ w2;rw[<-hM]at s1 s2;have Ry:cell d b2 (kY X.2.1.toNat u)=some (I ca):=by
     have hl:kY X.2.1.toNat u<(tZ X).length:=by rw[GS];exact s1
     rw[Cx L hl,<-o1,ng hl]
    have hs2:cell d b2 (kY X.2.1.toNat w)=some (I cb):=by
     have hl:kY X.2.1.toNat w<(tZ X).length:=by rw[GS];exact s2
     rw[Cx L hl,<-o2,ng hl]
    obtain⟨ux,uy,jK,jY⟩:=u;obtain⟨wx,wy,qQ,qR⟩:=w;simp only[dt]at c1 c2 t l y1 y2;obtain⟨a,rfl⟩:∃a:Nat,ca=a:=⟨ca.toNat,by omega⟩;obtain⟨c,rfl⟩:∃c:Nat,cb=c:=⟨cb.toNat,by omega⟩;simp only[aM]at f;have m:a<k:=by omega
    have y:c<k:=by omega
    simp(disch:=omega)[V,Y,C,D,t9,z,i,c1];refine aO (ZE d v X ux uy jK jY (Q.grow X5) ok w1) ?_;rintro _ hx⟨rfl,rfl⟩;simp(disch:=omega)[V,Y,C,D,t9,z,i,c1,c2,Ry,s1];refine aO (ZE hx v X wx wy qQ qR (Q.grow X5) ok w2) ?_;rintro _ d⟨rfl,rfl⟩;simp(disch:=omega)[V,Y,C,D,t9,z,i,c1,c2,hs2,s2];refine aO (ao2 d ux uy jK jY wx wy qQ qR t l y1 y2) ?_;rintro _ hx⟨rfl,rfl⟩;have gu:=Na (ux,uy,jK,jY) (wx,wy,qQ,qR);obtain⟨sg,NZ⟩:=aC (u9 (ux,uy,jK,jY) (wx,wy,qQ,qR));rw[<-NZ]at gu f ⊢;obtain⟨T,eT⟩:=aC (ym X j);rw[<-eT]at tj lk f;have GY:=yB (s:=sg) lk m y (by omega);have bd1:=lk.at m y;have bd2:=GY.at y m;obtain⟨tb1,r1,F,t,l,x3⟩:=tj.entry lk.len m y;simp[sl]at F;subst F;obtain⟨h4,s4,tj4,m4,l4⟩:=x3 sg;have q:=B.trans m4;obtain⟨va,eva⟩:=aC ((T.getD a []).getD c 0);rw[<-eva]at l s4 bd1;have wa:=cQ (va+sg) (va+sg);by_cases XT:a=c
    ·have e:zP T a c sg=vq T a c sg:=by unfold zP;rw[if_pos XT]
     rw[e]at f;rw[<-f]at tj4;have P6:(a:Int)=c:=by omega
     have aDV:c=a:=XT.symm;subst aDV;simp(disch:=omega)[V,Y,C,D,t9,z,t,l,s4,wa,wrap64,m];refine⟨j+1,?_,by omega⟩;and_intros<;>first|assumption|omega|exact q.1|exact q.2
    ·have e:zP T a c sg=vq (vq T a c sg) c a sg:=by unfold zP;rw[if_neg XT]
     rw[e]at f;have P6:¬(a:Int)=c:=by omega
     obtain⟨tb1,r2,F,y1,y2,y3⟩:=tj4.entry GY.len y m;simp[sl]at F;subst F;obtain⟨h5,s5,tj5,m5,l5⟩:=y3 sg;rw[<-f]at tj5;have S:=q.trans m5;obtain⟨vb,evb⟩:=aC (((vq T a c sg).getD c []).getD a 0);rw[<-evb]at y2 s5 bd2;have wb:=cQ (vb+sg) (vb+sg);simp(disch:=omega)[V,Y,C,D,t9,z,P6,wrap64,t,l,s4,y1,y2,s5,wa,wb,m,y,i];refine⟨j+1,?_,by omega⟩;and_intros<;>first|assumption|omega|exact S.1|exact S.2
   ·have:j=n:=by omega
    subst this;simp(disch:=omega);subst hP;simp(disch:=omega)[C];exact⟨B.kR Rm (by omega),hi,R,tj.low aEu⟩
theorem ZR(X:bW)(a b:Int):ke X [a,b]=if ke X [a]=0 then ke X [b]else ke X [a]:=by
 unfold ke;by_cases h1:iv X=true
 ·by_cases c:0<=a∧a<(bC X:Int)<;>by_cases d:0<=b∧b<(bC X:Int)<;>simp[h1,c,d]
 ·simp[h1]
theorem QU{X:bW}{a b:Int}(h:ke X [a,b]=0):fg X∧(0<=a∧a<bC X)∧(0<=b∧b<bC X):=by
 unfold ke at h;split at h
 ·rename_i h1;split at h
  ·rename_i c;exact⟨dK.1 h1,c a (by simp),c b (by simp)⟩
  ·omega
 ·omega
theorem mX.at{lo hi N:Nat}{h:a9}{v:Value}{R:List Nat}{T:List (List Int)}(x:mX lo hi h v N R T)(g:T.length=N){a c:Nat}(i:a<N)(j:c<N):∃b r,v=sl b 0 N 1∧cell h b a=some (sl r 0 N 1)∧cell h r c=some (I ((T.getD a []).getD c 0)):=by obtain⟨b,r,e,d,f,_⟩:=x.entry g i j;exact⟨b,r,e,d,f⟩
theorem c96(h:a9)(hp:0<h.length)(v:Value)(X:bW)(a b:Int)(t:Vr h bU v X):aN aE 96 [v,I a,I b] h λr h'=>ae h h'∧r=.tuple #[I (tK X a b).1,I (tK X a b).2]:=by
 have p:=t;have O:=λL=>QU (X:=X) (a:=a) (b:=b) L;have F:=λok=>(Cl (X:=X) ok (dM X.2.2) (aa _)).1;have N:fg X->dM X.2.2<=112:=by obtain⟨W,H,br⟩:=X;exact rE
 have m:=λh' g=>c37 h' (aL hp g) v X (p.grow g);have k:=λh' g w=>aoy h' (aL hp g) v w X [a,b] (p.grow g);obtain⟨A,q⟩:=aC (tK X a b);have d:=q;unfold tK at d;rw[<-q];obtain⟨W,H,br⟩:=X;obtain⟨s,rfl,w1,w2,r⟩:=t.dE;refine ag8 λK e=>?_;refine e ?_;rw[aw];generalize e:aP aE _ _=K;simp(disch:=omega);have D:aW 1 2 h [(0,.agg #[I 0,I 0]),(1,I a),(1001,I b)]=some (sl h.length 0 2 1,h++[⟨[I a,I b],true⟩]):=by simp[aW]
 try rw[D]
 try simp only[bI]
 try simp(disch:=omega)
 obtain⟨h1,j⟩:=aC (h++[⟨ints [a,b],true⟩]);have g1:ae h h1:=⟨_,j⟩;have M:h1[h.length]?=some ⟨ints [a,b],true⟩:=by rw[j];simp
 have n:Rw h1 (sl h.length 0 2 1) 1 (ints [a,b]):=⟨_,0,2,1,rfl,rfl,.inr (cI M (by simp[ints]))⟩;have E:h++[⟨[I a,I b],true⟩]=h1:=by rw[j];rfl
 rw[E];refine aO (k h1 g1 _ n (by simp)) ?_;rintro _ J⟨g2,rfl⟩;have gT:=g1.trans g2;by_cases f:ke (W,H,br) [a,b]=0
 ·have x:¬ke (W,H,br) [a,b]≠0:=by simp[f]
  rw[if_neg x]at d;obtain⟨ok,ra,rb⟩:=O f;simp(disch:=omega)[f];subst e;simp only[aq];rw[aw];generalize e:aP aE _ _=K;by_cases i:a=b
  ·rw[if_pos i]at d;subst d;simp(disch:=omega)[i];subst e;simp(disch:=omega);exact gT
  ·rw[if_neg i]at d;have o:=F ok;have l:=N ok;simp(disch:=omega)[i];subst e;simp(disch:=omega);refine aO (m J gT ok) ?_;rintro Z U⟨G,hi,R,P⟩;obtain⟨an,rfl⟩:∃an:Nat,a=an:=⟨a.toNat,by omega⟩;obtain⟨bn,rfl⟩:∃bn:Nat,b=bn:=⟨b.toNat,by omega⟩;simp only[aM]at d;have bd:=o.at (a:=an) (b:=bn) (by omega) (by omega);obtain⟨Q,Y,rfl,S,u⟩:=P.at o.len (a:=an) (c:=bn) (by omega) (by omega);obtain⟨V,C⟩:=aC (((xM (W,H,br) (dM (W,H,br).2.2)).getD an []).getD bn 0);simp only[<-C]at d bd u;subst d;have B:dM br<=112:=l;have T:(V.tdiv 2).natAbs=V.natAbs/2:=Int.natAbs_tdiv V 2;have wd:=cQ (V.tdiv 2) (V.tdiv 2);have z:an<bC (W,H,br):=by omega
   have y:bn<bC (W,H,br):=by omega
   simp(disch:=omega)[S,u,wd,z,y];exact gT.trans G
 ·rw[if_pos f]at d;subst d;simp(disch:=omega)[f];subst e;simp(disch:=omega);exact gT
theorem aoQ(h:a9)(hp:0<h.length)(v:Value)(X:bW)(c:Int)(i:gY h v X):aN aE 464 [v,I c] h λr h'=>ae h h'∧∃w,r=.tuple #[w,I (ke X [c])]:=by
 have j:=λh hp=>NK h hp v X;obtain⟨cv,b⟩:=aC (ke X [c]);rw[<-b];refine ag8 λK a=>?_;refine a ?_;rw[aw];generalize a:aP aE _ _=K;simp(disch:=omega);refine aO (An _ X h i) ?_;rintro _ h1⟨rfl,rfl⟩;cases d:iv X
 ·have e:ke X [c]=1:=by unfold ke;simp[d]
  rw[e]at b;subst b;simp(disch:=omega);subst a;simp(disch:=omega);exact ae.refl _
 have ok:=dK.1 d;have l:=mf ok;obtain⟨N,g⟩:=aC (bC X);have e:ke X [c]=if 0<=c∧c<(N:Int)then 0 else 2:=by unfold ke;simp[d,<-g]
 rw[e]at b;simp only[<-g]at j l;simp(disch:=omega);subst a;simp only[aq];refine akW λK a=>?_;refine aO (j h1 hp i ok) ?_;rintro _ k⟨g2,b1,b2,Z,rfl,m,s,n,p⟩
 try simp(disch:=omega)
 refine a ?_;rw[aw];generalize a:aP aE _ _=K;simp(disch:=omega)[wrap64];refine aO (xW c 0 _ k) ?_;rintro _ o⟨rfl,rfl⟩;by_cases q:0<=c∧c<(N:Int)
 ·have f:gZ c 0 ((N:Int)-1)=true:=by unfold gZ;simp;omega
  rw[if_pos q]at b;subst b;simp(disch:=omega)[f];subst a;simp(disch:=omega);exact g2
 ·have f:gZ c 0 ((N:Int)-1)=false:=by unfold gZ;simp;omega
  rw[if_neg q]at b;subst b;simp(disch:=omega)[f];subst a;simp(disch:=omega);exact g2
theorem aCN(h:a9)(hp:0<h.length)(v:Value)(X:bW)(a b:Int)(D:Vr h bU v X):aN aE 388 [v,I a,I b] h λr h'=>ae h h'∧r=.tuple #[I (tK X a b).1,I (tK X a b).2]:=by
 have h0:=D;have E:=λT=>QU (X:=X) (a:=a) (b:=b) T;have i:=ZR X a b;have P:=λok=>(Cl (X:=X) ok (dM X.2.2) (aa _)).2;have Y:fg X->dM X.2.2<=112:=by obtain⟨W,H,br⟩:=X;exact rE
 obtain⟨A,C⟩:=aC (tK X a b);have e:=C;unfold tK at e;rw[<-C];obtain⟨W,H,br⟩:=X;obtain⟨s,rfl,w1,w2,r⟩:=D.dE;refine ag8 λK f=>?_;obtain⟨h1,d⟩:=aC (h++[⟨[I W,I H,s],true⟩]);rw[<-d];have g1:ae h h1:=⟨_,d⟩;have l1:=g1.le;have U:h1[h.length]?=some ⟨[I W,I H,s],true⟩:=by rw[d];simp
 have pp:gY h1 (pt h.length 0) (W,H,br):=gY.at U (r.grow g1) w1 w2;obtain⟨pv,G⟩:=aC (pt h.length 0);rw[<-G]at pp ⊢;refine f ?_;refine akW λK f=>?_;refine aO (aoQ h1 (aL hp g1) pv (W,H,br) a pp) ?_;rintro _ S⟨g2,w,rfl⟩
 try simp(disch:=omega)
 refine f ?_;have j:=pp.grow g2;have gT:=g1.trans g2;have l:=aoQ S (aL hp gT) pv (W,H,br) b j;obtain⟨N,x⟩:=aC (ke (W,H,br) [a]);obtain⟨cb,L⟩:=aC (ke (W,H,br) [b]);obtain⟨u,y⟩:=aC (ke (W,H,br) [a,b]);rw[<-y]at E i e;rw[<-x]at i ⊢;rw[<-L]at i l;rw[aw];generalize f:aP aE _ _=K;have key:∀k (σ:Nat->Value),ae h k->gY k pv (W,H,br)->σ 1=I a->σ 2=I b->σ 3=pv->σ 9=I u->K 0 σ k:=by
  intro k σ g z s1 s2 n o;subst f;simp only[aq];rw[aw];generalize f:aP aE _ _=K;by_cases d:u=0
  ·have J:¬u≠0:=by simp[d]
   rw[if_neg J]at e;obtain⟨ok,ra,rb⟩:=E d;by_cases m:a=b
   ·rw[if_pos m]at e;subst e;simp(disch:=omega)[s1,s2,n,o,d,m];subst f;simp(disch:=omega);exact g
   ·rw[if_neg m]at e;obtain⟨B,heq⟩:=P ok;have t:=Y ok;simp(disch:=omega)[s1,s2,n,o,d,m];subst f;simp(disch:=omega)[s1,s2,n,o,d,m];refine aO (aDx k (aL hp g) pv (W,H,br) z ok) ?_;rintro r4 h4⟨Q,hi,R,Z⟩;obtain⟨an,rfl⟩:∃an:Nat,a=an:=⟨a.toNat,by omega⟩;obtain⟨bn,rfl⟩:∃bn:Nat,b=bn:=⟨b.toNat,by omega⟩;simp only[aM]at e;have q:an<bC (W,H,br):=by omega
    have p:bn<bC (W,H,br):=by omega
    rw[heq an bn q p (by omega)]at e;have bd:=B.at (a:=an) (b:=bn) q p;obtain⟨tb1,r1,rfl,x1,F⟩:=Z.at B.len (a:=an) (c:=bn) q p;obtain⟨V,O⟩:=aC (((ym (W,H,br) (dM (W,H,br).2.2)).getD an []).getD bn 0);simp only[<-O]at e bd F;subst e;have M:dM br<=112:=t;have BT:(V.tdiv 2).natAbs=V.natAbs/2:=Int.natAbs_tdiv V 2;have wd:=cQ (V.tdiv 2) (V.tdiv 2);simp(disch:=omega)[s1,s2,x1,F,wd,q,p];exact g.trans Q
  ·rw[if_pos d]at e;subst e;simp(disch:=omega)[s1,s2,n,o,d];subst f;simp(disch:=omega)[s1,s2,n,o,d];exact g
 by_cases d:N=0
 ·rw[if_pos d]at i;rw[i]at key;simp(disch:=omega)[d];refine aO l ?_;rintro _ k⟨g,w2,rfl⟩;simp(disch:=omega);exact key _ _ (gT.trans g) (j.grow g) (by simp) (by simp) (by simp) (by simp)
 ·rw[if_neg d]at i;rw[i]at key;simp(disch:=omega)[d];exact key _ _ gT j (by simp) (by simp) (by simp) (by simp)
noncomputable def Ac(X:bW)(k:Nat):List Int:=(List.range k).map λc=>((fq X c).length:Int)
noncomputable def qo(X:bW):List Int×Int:=if iv X then(Ac X (bC X),0)else([],1)
theorem ON(X:bW)(k:Nat):Ac X (k+1)=Ac X k++[((fq X k).length:Int)]:=by simp[Ac,dN]
theorem JW(X:bW)(k:Nat):(Ac X k).length=k:=by simp[Ac]
theorem ajo{X:bW}(ok:fg X){k:Nat}(b:k<=bC X):∀x∈Ac X k,0<=x∧x<=256:=by intro x hx;unfold Ac at hx;obtain⟨c,a,rfl⟩:=bj.1 hx;have:=yG ok (c:=c) (by have:=da.1 a;omega);omega
theorem ajp{X:bW}{c:Nat}(a:c<(D3 X).length):(D3 X)[c]=(fq X c).length:=by
 have hl:c<(jA X).length:=by rw[D3,bL]at a;exact a
 have e:(jA X).getD c 0=(jA X)[c]:=fR hl;unfold fq my;rw[e,Fb];simp[D3]
theorem c73(h:a9)(hp:0<h.length)(v:Value)(X:bW)(o:Vr h bU v X):aN aE 73 [v] h λr h'=>RwC h h' r 1 (ints (qo X).1) (qo X).2:=by
 have x:=o;obtain⟨A,n⟩:=aC (qo X);have d:=n;unfold qo at d;rw[<-n];have t:=ON X;have q:=JW X;obtain⟨W,H,br⟩:=X;obtain⟨s,rfl,w1,w2,r⟩:=o.dE;refine ag8 λK a=>?_;refine a ?_;rw[aw];generalize a:aP aE _ _=K;simp(disch:=omega);refine aO (B7 _ _ h x) ?_;rintro _ h1⟨rfl,rfl⟩;cases i:iv (W,H,br)
 ·simp only[i,ax,if_false]at d;subst d;simp(disch:=omega);subst a;simp(disch:=omega);exact⟨_,rfl,⟨0,0,0,0,rfl,by simp[ints],.inl rfl⟩,⟨_,_,_,_,rfl⟩,ae.refl _⟩
 have ok:=dK.1 i;have B:=mf ok;simp only[i,if_true]at d;simp(disch:=omega);subst a;simp only[aq];refine akW λK a=>?_;refine a ?_;refine akW λK a=>?_;refine aO (T7 h1 hp W H br s ok r) ?_;rintro _ f⟨g2,b1,b2,Z,rfl,w,cr,G,M⟩;simp(disch:=omega);refine a ?_;have D:=aL hp g2;obtain⟨N,z⟩:=aC (bC (W,H,br));have y:∀c,c<N->∃b,cell f b1 c=some (sl b 0 (fq (W,H,br) c).length 4)∧I3 f (sl b 0 (fq (W,H,br) c).length 4) (fq (W,H,br) c):=λc O=>cr.cell w (by omega);rw[<-z]at B d ⊢;rw[aw];generalize C:aP aE _ _=PP;simp(disch:=omega);refine aU (λk σ h'=>k<=N∧ae f h'∧bP f h' (σ 4) 1 (ints (Ac (W,H,br) k))∧σ 18=sl b1 0 N 1∧σ 19=I N∧σ 20=I k) (λk=>N-k) 0 ?_ ?_
 ·exact⟨by omega,ae.refl _,by simpa [Ac,ints]using bP.nil,by simp,by simp,by simp⟩
 ·rintro k σ h'⟨P,j,e,tU,xe,zU⟩;simp(disch:=omega)[xe,zU];refine aG (λE=>?_) (λF=>?_)
  ·have p:k<N:=by omega
   obtain⟨u,l,_⟩:=y k p;have l:=j.cell l;simp(disch:=omega)[tU,zU,p,l];refine oa D j (by rw[q];omega) e λv4 L J g=>?_;rw[<-t]at g;simp(disch:=omega)[tU,xe,zU,wrap64];refine⟨k+1,?_,by omega⟩;and_intros<;>first|assumption|omega|rfl
  ·have:k=N:=by omega
   subst this;obtain⟨u,m⟩:=e.nw;rw[m]at e;simp(disch:=omega);subst C;simp(disch:=omega)[m];subst d;exact⟨_,rfl,e.rw,⟨_,_,_,_,rfl⟩,g2.trans j⟩
theorem aCH(h:a9)(hp:0<h.length)(v:Value)(X:bW)(R:Vr h bU v X):aN aE 341 [v] h λr h'=>RwC h h' r 1 (ints (qo X).1) (qo X).2:=by
 obtain⟨A,w⟩:=aC (qo X);have b:=w;unfold qo at b;rw[<-w];have J:=ON X;have F:=JW X;have o:=λc Q=>ajp (X:=X) (c:=c) Q;have hlen:(D3 X).length=bC X:=by unfold D3;rw[bL];exact BI X
 have D:=λh hp v=>NK h hp v X;obtain⟨N,x⟩:=aC (bC X);have m:fg X->N<=256:=λok=>by rw[x];exact mf ok
 simp only[<-x]at hlen D b;obtain⟨W,H,br⟩:=X;obtain⟨s,rfl,w1,w2,r⟩:=R.dE;refine ag8 λK a=>?_;obtain⟨h1,j⟩:=aC (h++[⟨[I W,I H,s],true⟩]);rw[<-j];have g1:ae h h1:=⟨_,j⟩;have l1:=g1.le;have T:h1[h.length]?=some ⟨[I W,I H,s],true⟩:=by rw[j];simp
 have pp:gY h1 (pt h.length 0) (W,H,br):=gY.at T (r.grow g1) w1 w2;obtain⟨pv,G⟩:=aC (pt h.length 0);rw[<-G]at pp ⊢;refine a ?_;rw[aw];generalize a:aP aE _ _=K;simp(disch:=omega);refine aO (An _ (W,H,br) h1 pp) ?_;rintro _ O⟨rfl,rfl⟩;cases l:iv (W,H,br)
 ·simp only[l,ax,if_false]at b;subst b;simp(disch:=omega);subst a;simp(disch:=omega);exact⟨_,rfl,⟨0,0,0,0,rfl,by simp[ints],.inl rfl⟩,⟨_,_,_,_,rfl⟩,g1⟩
 have ok:=dK.1 l;have hN:=m ok;simp only[l,if_true]at b;simp(disch:=omega);subst a;simp only[aq];refine akW λK a=>?_;refine a ?_;refine akW λK a=>?_;refine aO (D O (aL hp g1) _ pp ok) ?_;rintro _ z⟨y,b1,b2,Z,rfl,M,C,Y,hO⟩;simp(disch:=omega);refine a ?_;have E:=aL hp (g1.trans y);rw[aw];generalize P:aP aE _ _=PP;simp(disch:=omega);refine aU (λk σ h'=>k<=N∧ae z h'∧bP z h' (σ 4) 1 (ints (Ac (W,H,br) k))∧σ 5=sl b1 0 N 1∧σ 7=I k) (λk=>N-k) 0 ?_ ?_
 ·exact⟨by omega,ae.refl _,by simpa [Ac,ints]using bP.nil,by simp,by simp⟩
 ·rintro k σ h'⟨hk,n,d,q,t⟩;simp(disch:=omega)[q,t];refine aG (λU=>?_) (λV=>?_)
  ·have S:k<N:=by omega
   have p:k<(D3 (W,H,br)).length:=by omega
   have B:k<Z.length:=by rw[C.1];exact p
   obtain⟨L,e⟩:=C.2 k p;rw[o k p,ah B]at e;injection e with e;have f:=M.Jc (i:=k) B;rw[e]at f;have f:=n.cell f;simp(disch:=omega)[q,t,S,f];refine oa E n (by rw[F];omega) d λv4 h4 g4 g=>?_;rw[<-J]at g;simp(disch:=omega)[q,t,wrap64];refine⟨k+1,?_,by omega⟩;and_intros<;>first|assumption|omega|rfl
  ·have:k=N:=by omega
   subst this;obtain⟨L,u⟩:=d.nw;rw[u]at d;simp(disch:=omega);subst P;simp(disch:=omega)[u];subst b;exact⟨_,rfl,d.rw,⟨_,_,_,_,rfl⟩,(g1.trans y).trans n⟩
def vK(L:List Int)(k:Nat):Bool:=decide (0<=L.getD k 0∧L.getD k 0<L.length)&&decide (L.getD k 0≠k)&&decide (L.getD (L.getD k 0).toNat 0=k)
def rM(L:List Int):Bool:=decide (2<=L.length∧L.length<=16∧L.length%2=0)
def tD(L:List Int):Bool:=rM L&&(List.range L.length).all (vK L)
theorem Sa{L:List Int}{k:Nat}(a:k<L.length)(h:vK L k=false):tD L=false:=by unfold tD;rw[jP];right;rw[afy];exact⟨k,da.2 a,by rw[h];simp⟩
theorem Pb{L:List Int}(h0:rM L=true)(h:∀k,k<L.length->vK L k=true):tD L=true:=by unfold tD;rw[h0,iN,bV];exact λk a=>h k (da.1 a)
theorem Ih{L:List Int}(h:tD L=true):L.length<=16:=by unfold tD rM at h;simp only[aH,decide_eq_true_eq]at h;omega
def Bx(L:List Int):List UInt8:=if tD L then du [44] (L.map bE)else[]
theorem AG:∀(X:List Int),(∀x∈X,bK x)->∀k,k<=X.length->(du [44] ((X.take k).map bE)).length<=21*k
 |X,hx,0,_=>by simp[du]
 |X,hx,k+1,h=>by
  have ih:=AG X hx k (by omega);rw[aj (by omega),cq,bX,mZ,oI];have:=(dW (hx _ (aD (show k<X.length by omega)))).2;split
  ·omega
  ·simp only[af,dH];omega
structure iO (L:List Nat) (m:Nat):Prop where
 len:L.length=m
 lt:∀i,i<m->L.getD i 0<m
 inv:∀i,i<m->L.getD (L.getD i 0) 0=i
theorem iO.inj{L:List Nat}{m i j:Nat}(a:iO L m)(hi:i<m)(b:j<m)(e:L.getD i 0=L.getD j 0):i=j:=by rw[<-a.inv i hi,e,a.inv j b]
def jt(L K:List Nat)(a:Nat):Nat:=L.getD (K.getD a 0) 0
def fH(L K:List Nat)(n k:Nat):Nat->Nat
 |0=>L.getD (n+k) 0
 |i+1=>jt L K (fH L K n k i)
def CX(L K:List Nat)(n k m:Nat):Prop:=n<=fH L K n k m∧∀i,i<m->fH L K n k i<n
variable {L K : List Nat} {n : Nat}
theorem Lb(a:iO L (2*n))(b:iO K n){k:Nat}(c:k<n):∀m,(∀i,i<m->fH L K n k i<n)->fH L K n k m<2*n
 |0,_=>a.lt _ (by omega)
 |m+1,h=>a.lt _ (by have:=b.lt _ (h m (by omega));omega)
theorem Sb(b:iO L (2*n))(a:iO K n){k:Nat}(f:k<n):∀i j,i<=j->(∀t,t<=j->fH L K n k t<n)->fH L K n k i=fH L K n k j->i=j
 |0,0,_,_,_=>rfl
 |0,j+1,_,h,e=>by
  exfalso;have h1:=a.lt _ (h j (by omega));have:n+k=K.getD (fH L K n k j) 0:=b.inj (by omega) (by omega) e;omega
 |i+1,0,h,_,_=>by omega
 |i+1,j+1,g,h,e=>by
  have h1:=a.lt _ (h i (by omega));have l:=a.lt _ (h j (by omega));have c:K.getD (fH L K n k i) 0=K.getD (fH L K n k j) 0:=b.inj (by omega) (by omega) e;have d:=a.inj (h i (by omega)) (h j (by omega)) c;have:=Sb b a f i j (by omega) (λt m=>h t (by omega)) d;omega
theorem anp(h:iO L (2*n))(g:iO K n){k:Nat}(l:k<n):∃m,m<=n∧CX L K n k m:=by
 by_cases q:∃m,m<=n∧n<=fH L K n k m
 ·obtain⟨m,h1,d⟩:=q;obtain⟨o,a,b,c⟩:=least (P:=λm=>n<=fH L K n k m) m d;exact⟨o,by omega,b,λi hi=>by have:=c i hi;omega⟩
 ·exfalso;have e:∀m,m<=n->fH L K n k m<n:=λm hm=>by
   by_cases q2:fH L K n k m<n
   ·exact q2
   ·exact absurd ⟨m,hm,by omega⟩ q
  obtain⟨i,j,h1,d,f⟩:=V2 n (λi=>fH L K n k i) e;have:=Sb h g l i j (by omega) (λt p=>e t (by omega)) f;omega
open Classical in
noncomputable def rU(L K:List Nat)(n k:Nat):Nat:=if h:∃m,m<=n∧CX L K n k m then Classical.choose h else 0
theorem Ce(b:iO L (2*n))(a:iO K n){k:Nat}(c:k<n):rU L K n k<=n∧CX L K n k (rU L K n k):=by have e:=anp b a c;unfold rU;rw[dif_pos e];exact Classical.choose_spec e
theorem agv{k m c:Nat}(a:CX L K n k m)(b:CX L K n k c):m=c:=by
 rcases qf m c with h|h|h
 ·have:=b.2 m h;have:=a.1;omega
 ·exact h
 ·have:=a.2 c h;have:=b.1;omega
noncomputable def Cf(L K:List Nat)(n k:Nat):Nat:=fH L K n k (rU L K n k)-n
noncomputable def Ig(L K:List Nat)(n:Nat):List Nat:=(List.range n).map (Cf L K n)
theorem Qt{k:Nat}(a:k<n):(Ig L K n).getD k 0=Cf L K n k:=by
 have hl:k<(Ig L K n).length:=by simp[Ig];exact a
 rw[fR hl];simp[Ig]
theorem MX(b:iO L (2*n))(a:iO K n){k m:Nat}(c:k<n)(p:CX L K n k m):∀i,i<m->fH L K n (fH L K n k m-n) i=K.getD (fH L K n k (m-1-i)) 0
 |0,h=>by
  have h1:=a.lt _ (p.2 (m-1) (by omega));have e:fH L K n k m=L.getD (K.getD (fH L K n k (m-1)) 0) 0:=by
   conv=>lhs;rw[show m=m-1+1 by omega]
   rfl
  have d:=p.1
  show L.getD (n+(fH L K n k m-n)) 0=_
  rw[show n+(fH L K n k m-n)=fH L K n k m by omega,e,b.inv _ (by omega)];rfl
 |i+1,h=>by
  have ih:=MX b a c p i (by omega);have h0:=p.2 (m-1-i) (by omega);have h1:=a.lt _ (p.2 (m-1-(i+1)) (by omega));have e:fH L K n k (m-1-i)=L.getD (K.getD (fH L K n k (m-1-(i+1))) 0) 0:=by
   conv=>lhs;rw[show m-1-i=m-1-(i+1)+1 by omega]
   rfl
  show jt L K (fH L K n (fH L K n k m-n) i)=_
  rw[ih];unfold jt;rw[a.inv _ h0,e,b.inv _ (by omega)]
theorem agu(b:iO L (2*n))(a:iO K n){k m:Nat}(d:k<n)(p:CX L K n k m):CX L K n (fH L K n k m-n) m∧fH L K n (fH L K n k m-n) m=n+k:=by
 have c:fH L K n (fH L K n k m-n) m=n+k:=by
  cases m with
  |zero=>
   have f:=p.1;have e:fH L K n k 0=L.getD (n+k) 0:=rfl
   show L.getD (n+(fH L K n k 0-n)) 0=_
   rw[show n+(fH L K n k 0-n)=fH L K n k 0 by omega,e,b.inv _ (by omega)]
  |succ m=>
   have r:=MX b a d p m (by omega);rw[show m+1-1-m=0 by omega]at r;have h0:=p.2 0 (by omega)
   show jt L K (fH L K n (fH L K n k (m+1)-n) m)=_
   rw[r];unfold jt;rw[a.inv _ h0]
   show L.getD (L.getD (n+k) 0) 0=_
   rw[b.inv _ (by omega)]
 refine⟨⟨by omega,λi hi=>?_⟩,c⟩;rw[MX b a d p i hi];exact a.lt _ (p.2 _ (by omega))
theorem anj(b:iO L (2*n))(a:iO K n):iO (Ig L K n) n:=by
 refine⟨by simp[Ig],λi hi=>?_,λi hi=>?_⟩
 ·rw[Qt hi];obtain⟨_,p⟩:=Ce b a hi;have:=Lb b a hi _ p.2;unfold Cf;omega
 ·rw[Qt hi];obtain⟨_,p⟩:=Ce b a hi;have h1:=Lb b a hi _ p.2;have j:=p.1;obtain⟨f,e⟩:=agu b a hi p;have c:Cf L K n i<n:=by unfold Cf;omega
  rw[Qt c];obtain⟨_,g⟩:=Ce b a c;have d:rU L K n (Cf L K n i)=rU L K n i:=agv g f
  show fH L K n (Cf L K n i) (rU L K n (Cf L K n i))-n=i
  rw[d];have h:fH L K n (Cf L K n i) (rU L K n i)=n+i:=e;omega
theorem ad1{n i:Nat}:(List.replicate n false).getD i false=false:=by rw[aA,jZ];split<;>rfl
def qV(K:List Nat)(S:List Bool)(a:Nat):List Bool:=(S.set a true).set (K.getD a 0) true
theorem RQ{S:List Bool}{a:Nat}:(qV K S a).length=S.length:=by simp[qV]
theorem Cn{S:List Bool}{a b:Nat}(c:b<S.length):(qV K S a).getD b false=if b=a∨b=K.getD a 0 then true else S.getD b false:=by unfold qV;rw[AE (by simpa using c),AE c];by_cases h1:K.getD a 0=b<;>by_cases d:a=b<;>simp[h1,d,eq_comm]
def wJ(L K:List Nat)(n k:Nat)(S:List Bool):Nat->List Bool
 |0=>S
 |i+1=>qV K (wJ L K n k S i) (fH L K n k i)
noncomputable def jq(L K:List Nat)(n:Nat):Nat->List Bool
 |0=>List.replicate n false
 |k+1=>wJ L K n k (jq L K n k) (rU L K n k)
structure AP (t:Nat->Nat) (K:List Nat) (n:Nat) (S:List Bool):Prop where
 len:S.length=n
 cl:∀a,a<n->S.getD (K.getD a 0) false=S.getD a false
 st:∀a,a<n->S.getD a false=false->t a<n
theorem XF(c:iO K n){S:List Bool}{a:Nat}(hl:S.length=n)(f:a<n)(h:∀a,a<n->S.getD (K.getD a 0) false=S.getD a false):∀b,b<n->(qV K S a).getD (K.getD b 0) false=(qV K S a).getD b false:=by
 intro b d;have h1:=c.lt b d;rw[Cn (by omega),Cn (by omega),h b d];have e:(K.getD b 0=a∨K.getD b 0=K.getD a 0)↔(b=a∨b=K.getD a 0):=by
  constructor
  ·rintro(q|q)
   ·right;rw[<-q,c.inv b d]
   ·left;exact c.inj d f q
  ·rintro(q|q)
   ·right;rw[q]
   ·left;rw[q,c.inv a f]
 by_cases q:b=a∨b=K.getD a 0
 ·rw[if_pos q,if_pos (e.2 q)]
 ·rw[if_neg q,if_neg (λx=>q (e.1 x))]
theorem AP.mark{t:Nat->Nat}(d:iO K n){S:List Bool}(g:AP t K n S){a:Nat}(e:a<n):AP t K n (qV K S a):=by
 refine⟨by rw[RQ];exact g.len,XF d g.len e g.cl,λb c h=>?_⟩;rw[Cn (by rw[g.len];exact c)]at h;split at h
 ·simp at h
 ·exact g.st b c h
structure SX (L K:List Nat) (n k:Nat) (S:List Bool):Prop where
 len:S.length=n
 cl:∀a,a<n->S.getD (K.getD a 0) false=S.getD a false
 met:∀j,j<k->L.getD (n+j) 0<n->S.getD (L.getD (n+j) 0) false=true
theorem E0(b:iO L (2*n))(a:iO K n){k:Nat}(c:k<n){S:List Bool}(s:SX L K n k S):∀i,i<=rU L K n k->SX L K n k (wJ L K n k S i)
 |0,_=>s
 |i+1,hi=>by
  have ih:=E0 b a c s i (by omega);have d:=(Ce b a c).2.2 i (by omega);refine⟨by rw[wJ,RQ];exact ih.len,XF a ih.len d ih.cl,λj e h=>?_⟩
  show(qV K (wJ L K n k S i) (fH L K n k i)).getD _ false=true
  rw[Cn (by rw[ih.len];exact h)];split
  ·rfl
  ·exact ih.met j e h
theorem RN(b:iO L (2*n))(a:iO K n){k:Nat}(c:k<n){S:List Bool}(s:SX L K n k S)(h:L.getD (n+k) 0<n):∀i,i<rU L K n k->(wJ L K n k S (i+1)).getD (L.getD (n+k) 0) false=true
 |0,hi=>by
  show(qV K S (fH L K n k 0)).getD _ false=true
  rw[Cn (by rw[s.len];exact h),if_pos (.inl rfl)]
 |i+1,hi=>by
  have ih:=RN b a c s h i (by omega);have hl:=(E0 b a c s (i+1) (by omega)).len
  show(qV K (wJ L K n k S (i+1)) (fH L K n k (i+1))).getD _ false=true
  rw[Cn (by rw[hl];exact h),ih];simp
theorem Iq(c:iO L (2*n))(b:iO K n):∀k,k<=n->SX L K n k (jq L K n k)
 |0,_=>by
  refine⟨by simp[jq],λa f=>?_,λj g=>by omega⟩;have h1:=b.lt a f;simp only[jq];rw[ad1,ad1]
 |k+1,i=>by
  have ih:=Iq c b k (by omega);have d:k<n:=by omega
  have r:=E0 c b d ih (rU L K n k) (aa _);refine⟨r.len,r.cl,λj g h=>?_⟩;by_cases q:j=k
  ·subst q;obtain⟨_,p⟩:=Ce c b d;have h0:0<rU L K n j:=by
    rcases Nat.eq_zero_or_pos (rU L K n j)with z|z
    ·have:=p.1;rw[z]at this;have e:fH L K n j 0=L.getD (n+j) 0:=rfl;omega
    ·exact z
   have:=RN c b d ih h (rU L K n j-1) (by omega);rw[show rU L K n j-1+1=rU L K n j by omega]at this;exact this
  ·exact r.met j (by omega) h
theorem Ip(b:iO L (2*n))(c:iO K n):AP (jt L K) K n (jq L K n n):=by
 have s:=Iq b c n (aa _);refine⟨s.len,s.cl,λa d h=>?_⟩;have h1:=c.lt a d;have f:=b.lt (K.getD a 0) (by omega);by_cases q:jt L K a<n
 ·exact q
 ·exfalso;have g:jt L K a=L.getD (K.getD a 0) 0:=rfl;have e:L.getD (n+(jt L K a-n)) 0=K.getD a 0:=by rw[show n+(jt L K a-n)=L.getD (K.getD a 0) 0 by omega];exact b.inv _ (by omega)
  have:=s.met (jt L K a-n) (by omega) (by rw[e];exact h1);rw[e,s.cl a d,h]at this;exact absurd this (by simp)
def tS(t:Nat->Nat)(K:List Nat)(S:List Bool)(a:Nat):Nat->List Bool
 |0=>S
 |i+1=>qV K (tS t K S a i) (dP t i a)
def Tq(t:Nat->Nat)(K:List Nat)(S:List Bool)(a m:Nat):Prop:=(tS t K S a m).getD (dP t m a) false=true∧∀i,i<m->(tS t K S a i).getD (dP t i a) false=false
theorem ah2{S:List Bool}{a:Nat}(c:a<S.length):(S.set a true).count false<=S.count false:=by
 induction S generalizing a with
 |nil=>simp at c
 |cons b S ih=>
  cases a with
  |zero=>cases b<;>simp
  |succ a=>
   have:=ih (a:=a) (by simpa using c);simp only[om,List.count_cons];omega
theorem amP{S:List Bool}{a:Nat}(c:a<S.length)(h:S.getD a false=false):(S.set a true).count false<S.count false:=by
 induction S generalizing a with
 |nil=>simp at c
 |cons b S ih=>
  cases a with
  |zero=>
   simp at h;subst h;simp
  |succ a=>
   have:=ih (a:=a) (by simpa using c) (by simpa using h);simp only[om,List.count_cons];omega
theorem Cm{t:Nat->Nat}(b:iO K n){S:List Bool}(g:AP t K n S){a:Nat}(c:a<n):∀m,(∀i,i<m->(tS t K S a i).getD (dP t i a) false=false)->AP t K n (tS t K S a m)∧dP t m a<n∧(tS t K S a m).count false+m<=S.count false
 |0,_=>⟨g,c,by simp[tS]⟩
 |m+1,h=>by
  obtain⟨g1,h1,d⟩:=Cm b g c m (λi hi=>h i (by omega));have hu:=h m (by omega);refine⟨g1.mark b h1,g1.st _ h1 hu,?_⟩;have c1:=amP (by rw[g1.len];exact h1) hu;have c2:=ah2 (S:=(tS t K S a m).set (dP t m a) true) (a:=K.getD (dP t m a) 0) (by rw[aS,g1.len];exact b.lt _ h1)
  show((qV K (tS t K S a m) (dP t m a)).count false)+(m+1)<=_
  unfold qV;omega
theorem aya{t:Nat->Nat}(f:iO K n){S:List Bool}(g:AP t K n S){a:Nat}(h:a<n):∃m,Tq t K S a m:=by
 by_cases q:∃m,m<=n+1∧(tS t K S a m).getD (dP t m a) false=true
 ·obtain⟨m,h1,d⟩:=q;obtain⟨k,x,b,c⟩:=least (P:=λm=>(tS t K S a m).getD (dP t m a) false=true) m d;exact⟨k,b,λi hi=>by have:=c i hi;simpa using this⟩
 ·exfalso;have j:∀i,i<n+1->(tS t K S a i).getD (dP t i a) false=false:=λi hi=>by
   cases e:(tS t K S a i).getD (dP t i a) false
   ·rfl
   ·exact absurd ⟨i,by omega,e⟩ q
  have:=(Cm f g h (n+1) j).2.2;have l:S.count false<=S.length:=List.count_le_length;have:=g.len;omega
open Classical in
noncomputable def J5(t:Nat->Nat)(K:List Nat)(S:List Bool)(a:Nat):Nat:=if h:∃m,Tq t K S a m then Classical.choose h else 0
theorem J7{t:Nat->Nat}(b:iO K n){S:List Bool}(g:AP t K n S){a:Nat}(c:a<n):Tq t K S a (J5 t K S a):=by have e:=aya b g c;unfold J5;rw[dif_pos e];exact Classical.choose_spec e
noncomputable def nu(t:Nat->Nat)(K:List Nat)(S:List Bool):Nat->List Bool×Nat
 |0=>(S,0)
 |k+1=>if(nu t K S k).1.getD k false then nu t K S k else(tS t K (nu t K S k).1 k (J5 t K (nu t K S k).1 k),(nu t K S k).2+1)
theorem EY{t:Nat->Nat}(a:iO K n){S:List Bool}(g:AP t K n S):∀k,k<=n->AP t K n (nu t K S k).1∧(nu t K S k).2<=k
 |0,_=>⟨g,aa _⟩
 |k+1,c=>by
  obtain⟨h1,b⟩:=EY a g k (by omega);unfold nu;split
  ·exact⟨h1,by omega⟩
  ·exact⟨(Cm a h1 (by omega) _ (J7 a h1 (by omega)).2).1,by simp only;omega⟩
noncomputable def pN(L K:List Nat)(n:Nat):List Nat×Nat:=(Ig L K n,(nu (jt L K) K (jq L K n n) n).2)
noncomputable def Da(A B:List Nat)(n:Nat):Nat:=(nu (λx=>B.getD (A.getD x 0) 0) A (List.replicate n false) n).2
theorem H4{A B:List Nat}(c:iO A n)(d:iO B n):AP (λx=>B.getD (A.getD x 0) 0) A n (List.replicate n false):=by refine⟨by simp,λa b=>?_,λa b _=>d.lt _ (c.lt a b)⟩;rw[ad1,ad1]
def cP(l:List Nat):List Int:=l.map λ(n:Nat)=>(n:Int)
theorem jh(l:List Nat):(cP l).length=l.length:=by simp[cP]
theorem uG{h:a9}{b o k:Nat}{l:List Nat}(c:l.length=0∨aZ h b o l.length=some (ints (cP l)))(a:k<l.length):cell h b (o+k)=some (I (l.getD k 0)):=by
 have d:k<(cP l).length:=by rw[jh];exact a
 have:=eG (X:=cP l) (h:=h) (b:=b) (o:=o) (c.imp (λe=>aB.1 (by rw[jh];exact e)) (λe=>by rw[jh];exact e)) d;rw[this,fR a];simp[cP]
theorem yM{h:a9}{sb a n:Nat}{S:List Bool}{K:List Nat}(g:h[sb]?=some ⟨kQ S,true⟩)(hl:S.length=n)(j:a<n)(l:K.getD a 0<n):∃h1 b,storeAt h sb a [B true]=some h1∧storeAt h1 sb (K.getD a 0) [B true]=some b∧b[sb]?=some ⟨kQ (qV K S a),true⟩∧h1.length=h.length∧b.length=h.length∧(∀c,c≠sb->h1[c]?=h[c]?)∧(∀c,c≠sb->b[c]?=h[c]?):=by
 have s1:=PF (v:=true) g (k:=a) (by omega);have i:=jy (d:=⟨kQ (S.set a true),true⟩) g;have s2:=PF (v:=true) i (k:=K.getD a 0) (by rw[aS];omega);refine⟨_,_,s1,s2,jy i,by simp,by simp,λc f=>?_,λc f=>?_⟩
 ·rw[ag (λe=>f e.symm)]
 ·rw[ag (λe=>f e.symm),ag (λe=>f e.symm)]
theorem oH{h0 h h':a9}{sb:Nat}(g:ae h0 h)(e:h0.length<=sb)(hl:h'.length=h.length)(a:∀c,c≠sb->h'[c]?=h[c]?):ae h0 h':=
 EC (by rw[hl];exact g.le) λb d=>by rw[a b (by omega),g.look d]
theorem aDk(h:a9)(hp:0<h.length)(v w:Value)(A B:List Nat)(n:Nat)(d:iO A n)(u:iO B n)(hn:n<=100)(hv:Rw h v 1 (ints (cP A)))(hw:Rw h w 1 (ints (cP B))):aN aE 490 [v,w] h λr h'=>ae h h'∧r=I (Da A B n):=by
 obtain⟨ab,L,an,ay,rfl,l,ca⟩:=hv;obtain⟨M,N,bn,bY,rfl,Q,cb⟩:=hw;have l:n=an:=by have:=l;simp[ints,cP,d.len]at this;exact this.symm
 have Q:n=bn:=by have:=Q;simp[ints,cP,u.len]at this;exact this.symm
 subst l;subst Q;have g0:=H4 d u;obtain⟨t,R⟩:∃t:Nat->Nat,t=λx=>B.getD (A.getD x 0) 0:=⟨_,rfl⟩;rw[<-R]at g0;have hs:∀k,nu t A (List.replicate n false) (k+1)=if(nu t A (List.replicate n false) k).1.getD k false then nu t A (List.replicate n false) k else(tS t A (nu t A (List.replicate n false) k).1 k (J5 t A (nu t A (List.replicate n false) k).1 k),(nu t A (List.replicate n false) k).2+1):=λ_=>rfl;have X:nu t A (List.replicate n false) 0=(List.replicate n false,0):=rfl;have iA:=λk p=>EY d g0 k p;have eR:Da A B n=(nu t A (List.replicate n false) n).2:=by rw[R];rfl
 rw[eR];obtain⟨F,eF⟩:=aC (nu t A (List.replicate n false));simp only[<-eF]at hs X iA ⊢;have s:∀h',ae h h'->∀k,k<n->cell h' ab (L+k)=some (I (A.getD k 0)):=λh' g k p=>uG (by rw[d.len];exact ca.imp id λe=>by rw[dn]at e;exact g.aZ e) (by rw[d.len];exact p);have O:∀h',ae h h'->∀k,k<n->cell h' M (N+k)=some (I (B.getD k 0)):=λh' g k p=>uG (by rw[u.len];exact cb.imp id λe=>by rw[dn]at e;exact g.aZ e) (by rw[u.len];exact p);refine ag8 λK y=>?_;refine y ?_;refine akW λK y=>?_;rw[D6 _ _ (by omega)];simp only[bI]
 try simp(disch:=omega)
 refine y ?_;obtain⟨sb,DI⟩:=aC h.length;obtain⟨h1,P⟩:=aC (h++[⟨kQ (List.replicate n false),true⟩]);rw[<-P,<-DI];have g1:ae h h1:=⟨_,P⟩;have o:h1[sb]?=some ⟨kQ (List.replicate n false),true⟩:=by rw[P,DI];simp
 refine akW λK y=>?_;refine y ?_;rw[aw];generalize hP:aP aE _ _=PP;simp(disch:=omega);refine aU (λk σ h'=>k<=n∧ae h h'∧h'[sb]?=some ⟨kQ (F k).1,true⟩∧σ 0=sl ab L n ay∧σ 1=sl M N n bY∧σ 5=sl sb 0 n 1∧σ 6=I (F k).2∧σ 7=I k) (λk=>n-k) 0 ?_ ?_
 ·exact⟨by omega,g1,by rw[X];exact o,by simp,by simp,by simp,by rw[X];simp,by simp⟩
 ·rintro k σ h'⟨p,hg,U,q0,q1,Y,Z,G⟩;simp(disch:=omega)[q0,G];refine aG (λbB=>?_) (λdG=>?_)
  ·have o:k<n:=by omega
   obtain⟨E,sM⟩:=iA k (by omega);have b:=hs k;have J:=vU U (k:=k) (by rw[E.len];exact o);obtain⟨S,eS⟩:=aC ((F k).1);obtain⟨c,ec⟩:=aC ((F k).2);rw[<-eS]at E U b J;rw[<-ec]at sM Z b;cases C:S.getD k false
   ·rw[C]at b;simp only[ax,if_false]at b;obtain⟨m,em⟩:=aC (J5 t A S k);have lt:=J7 d E o;rw[<-em]at lt b;have lg:=λi (hi:i<=m)=>Cm d E o i (λj hj=>lt.2 j (by omega));have H:cell h' sb k=some (Am.B false):=by rw[J,C]
    simp(disch:=omega)[Y,Z,G,o,H,wrap64];refine aU (λi τ W=>i<=m∧ae h W∧W[sb]?=some ⟨kQ (tS t A S k i),true⟩∧τ 0=sl ab L n ay∧τ 1=sl M N n bY∧τ 5=sl sb 0 n 1∧τ 6=I (c+1:Nat)∧τ 7=I k∧τ 8=I ((dP t i k:Nat):Int)) (λi=>m-i) 0 ?_ ?_
    ·exact⟨by omega,hg,U,by simpa using q0,by simpa using q1,by simpa using Y,by simp,by simpa using G,by simp[dP]⟩
    rintro i τ W⟨hi,gi,C0,t0,t1,t5,t6,t7,t8⟩;obtain⟨Jr,f,_⟩:=lg i hi;have z:=vU C0 (k:=dP t i k) (by rw[Jr.len];exact f);have yc:t (dP t i k)=dP t (i+1) k:=rfl;have CZ:qV A (tS t A S k i) (dP t i k)=tS t A S k (i+1):=rfl;obtain⟨a,l⟩:=aC (dP t i k);rw[<-l]at f z t8 yc CZ;by_cases EH:i<m
    ·have hu:=lt.2 i EH;rw[<-l]at hu;rw[hu]at z;have q:=d.lt a f;have T:=u.lt _ q;have eta:t a=B.getD (A.getD a 0) 0:=by rw[R]
     obtain⟨h2,h3,s1,s2,V,l2,l3,f2,f3⟩:=yM (K:=A) C0 Jr.len f q;have g2:=oH gi (by omega) l2 f2;have g3:=oH gi (by omega) l3 f3;have c1:=s h2 g2 a f;have c2:=s h3 g3 a f;have D:=O h3 g3 _ q;obtain⟨x,ex⟩:=aC (A.getD a 0);rw[<-ex]at q T eta s2 c1 c2 D;rw[CZ]at V;rw[<-eta]at D;rw[yc]at D;simp(disch:=omega)[t0,t1,t5,t8,f,z,s1,s2,c1,c2,D,q];refine⟨i+1,?_,by omega⟩;and_intros<;>first|assumption|omega|rfl
    ·have:i=m:=by omega
     subst this;have hu:=lt.1;rw[<-l]at hu;rw[hu]at z;simp(disch:=omega)[t5,t8,f,z];simp(disch:=omega)[t0,t1,t5,t6,t7,wrap64];refine⟨k+1,?_,by omega⟩;rw[b];and_intros<;>first|assumption|omega|rfl
   ·rw[C]at b;simp only[if_true]at b;have H:cell h' sb k=some (Am.B true):=by rw[J,C]
    simp(disch:=omega)[Y,G,o,H,wrap64];refine⟨k+1,?_,by omega⟩;rw[b,<-eS,<-ec];and_intros<;>first|assumption|omega|rfl
  ·have:k=n:=by omega
   subst this;simp(disch:=omega);subst hP;simp(disch:=omega)[Z];exact hg
theorem aCl(h:a9)(hp:0<h.length)(v w:Value)(A B:List Nat)(n:Nat)(d:iO A n)(u:iO B n)(hn:n<=100)(hv:Rw h v 1 (ints (cP A)))(hw:Rw h w 1 (ints (cP B))):aN aE 171 [v,w] h λr h'=>ae h h'∧r=I (Da A B n):=by
 obtain⟨ab,J,an,ay,rfl,l,ca⟩:=hv;obtain⟨L,M,bn,bY,rfl,P,cb⟩:=hw;have l:n=an:=by have:=l;simp[ints,cP,d.len]at this;exact this.symm
 have P:n=bn:=by have:=P;simp[ints,cP,u.len]at this;exact this.symm
 subst l;subst P;have g0:=H4 d u;obtain⟨t,Q⟩:∃t:Nat->Nat,t=λx=>B.getD (A.getD x 0) 0:=⟨_,rfl⟩;rw[<-Q]at g0;have hs:∀k,nu t A (List.replicate n false) (k+1)=if(nu t A (List.replicate n false) k).1.getD k false then nu t A (List.replicate n false) k else(tS t A (nu t A (List.replicate n false) k).1 k (J5 t A (nu t A (List.replicate n false) k).1 k),(nu t A (List.replicate n false) k).2+1):=λ_=>rfl;have X:nu t A (List.replicate n false) 0=(List.replicate n false,0):=rfl;have iA:=λk p=>EY d g0 k p;have eR:Da A B n=(nu t A (List.replicate n false) n).2:=by rw[Q];rfl
 rw[eR];obtain⟨F,eF⟩:=aC (nu t A (List.replicate n false));simp only[<-eF]at hs X iA ⊢;have s:∀h',ae h h'->∀k,k<n->cell h' ab (J+k)=some (I (A.getD k 0)):=λh' g k p=>uG (by rw[d.len];exact ca.imp id λe=>by rw[dn]at e;exact g.aZ e) (by rw[d.len];exact p);have N:∀h',ae h h'->∀k,k<n->cell h' L (M+k)=some (I (B.getD k 0)):=λh' g k p=>uG (by rw[u.len];exact cb.imp id λe=>by rw[dn]at e;exact g.aZ e) (by rw[u.len];exact p);refine ag8 λK U=>?_;refine U ?_;refine akW λK U=>?_;rw[D6 _ _ (by omega)];simp only[bI]
 try simp(disch:=omega)
 refine U ?_;obtain⟨sb,DI⟩:=aC h.length;obtain⟨h1,O⟩:=aC (h++[⟨kQ (List.replicate n false),true⟩]);rw[<-O,<-DI];have g1:ae h h1:=⟨_,O⟩;have o:h1[sb]?=some ⟨kQ (List.replicate n false),true⟩:=by rw[O,DI];simp
 rw[aw];generalize hP:aP aE _ _=PP;simp(disch:=omega);refine aU (λk σ h'=>k<=n∧ae h h'∧h'[sb]?=some ⟨kQ (F k).1,true⟩∧σ 0=sl ab J n ay∧σ 1=sl L M n bY∧σ 5=sl sb 0 n 1∧σ 6=I (F k).2∧σ 13=I n∧σ 14=I k) (λk=>n-k) 0 ?_ ?_
 ·exact⟨by omega,g1,by rw[X];exact o,by simp,by simp,by simp,by rw[X];simp,by simp,by simp⟩
 ·rintro k σ h'⟨p,hg,V,q0,q1,Y,Z,BZ,xO⟩;simp(disch:=omega)[BZ,xO];refine aG (λbB=>?_) (λdG=>?_)
  ·have o:k<n:=by omega
   obtain⟨D,sM⟩:=iA k (by omega);have b:=hs k;have H:=vU V (k:=k) (by rw[D.len];exact o);obtain⟨S,eS⟩:=aC ((F k).1);obtain⟨c,ec⟩:=aC ((F k).2);rw[<-eS]at D V b H;rw[<-ec]at sM Z b;cases z:S.getD k false
   ·rw[z]at b;simp only[ax,if_false]at b;obtain⟨m,em⟩:=aC (J5 t A S k);have lt:=J7 d D o;rw[<-em]at lt b;have lg:=λi (hi:i<=m)=>Cm d D o i (λj hj=>lt.2 j (by omega));have G:cell h' sb k=some (Am.B false):=by rw[H,z]
    simp(disch:=omega)[Y,Z,xO,o,G,wrap64];refine aU (λi τ E=>i<=m∧ae h E∧E[sb]?=some ⟨kQ (tS t A S k i),true⟩∧τ 0=sl ab J n ay∧τ 1=sl L M n bY∧τ 5=sl sb 0 n 1∧τ 6=I (c+1:Nat)∧τ 13=I n∧τ 14=I k∧τ 8=I ((dP t i k:Nat):Int)) (λi=>m-i) 0 ?_ ?_
    ·exact⟨by omega,hg,V,by simpa using q0,by simpa using q1,by simpa using Y,by simp,by simpa using BZ,by simpa using xO,by simp[dP]⟩
    rintro i τ E⟨hi,R,C0,t0,t1,t5,t6,t13,t14,t8⟩;obtain⟨Jr,f,_⟩:=lg i hi;have y:=vU C0 (k:=dP t i k) (by rw[Jr.len];exact f);have yc:t (dP t i k)=dP t (i+1) k:=rfl;have CZ:qV A (tS t A S k i) (dP t i k)=tS t A S k (i+1):=rfl;obtain⟨a,l⟩:=aC (dP t i k);rw[<-l]at f y t8 yc CZ;by_cases EH:i<m
    ·have hu:=lt.2 i EH;rw[<-l]at hu;rw[hu]at y;have q:=d.lt a f;have T:=u.lt _ q;have eta:t a=B.getD (A.getD a 0) 0:=by rw[Q]
     obtain⟨h2,h3,s1,s2,W,l2,l3,f2,f3⟩:=yM (K:=A) C0 Jr.len f q;have g2:=oH R (by omega) l2 f2;have g3:=oH R (by omega) l3 f3;have c1:=s E R a f;have c2:=s h3 g3 a f;have C:=N h3 g3 _ q;obtain⟨x,ex⟩:=aC (A.getD a 0);rw[<-ex]at q T eta s2 c1 c2 C;rw[CZ]at W;rw[<-eta]at C;rw[yc]at C;simp(disch:=omega)[t0,t1,t5,t8,f,y,s1,s2,c1,c2,C,q];refine⟨i+1,?_,by omega⟩;and_intros<;>first|assumption|omega|rfl
    ·have:i=m:=by omega
     subst this;have hu:=lt.1;rw[<-l]at hu;rw[hu]at y;simp(disch:=omega)[t5,t8,f,y];simp(disch:=omega)[t0,t1,t5,t6,t13,t14,wrap64];refine⟨k+1,?_,by omega⟩;rw[b];and_intros<;>first|assumption|omega|rfl
   ·rw[z]at b;simp only[if_true]at b;have G:cell h' sb k=some (Am.B true):=by rw[H,z]
    simp(disch:=omega)[Y,BZ,xO,o,G,wrap64];refine⟨k+1,?_,by omega⟩;rw[b,<-eS,<-ec];and_intros<;>first|assumption|omega|rfl
  ·have:k=n:=by omega
   subst this;simp(disch:=omega);subst hP;simp(disch:=omega)[Z];exact hg
end Am

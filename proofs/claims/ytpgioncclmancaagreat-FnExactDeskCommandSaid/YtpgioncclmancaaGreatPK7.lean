/- Contracts of functions. -/
import Derived.Test.YtpgioncclmancaaGreatPK6
set_option linter.unusedVariables false
set_option linter.unusedSimpArgs false
set_option maxHeartbeats 4000000
set_option maxRecDepth 40000
namespace Am
open Go
variable{Z cs:List Value}{b m z N lo tu i:Nat}{B0 B1 h h' h0:a9}{x dx dy W H:Int}{v':Value}{br X:List Int}
noncomputable def jA(X:bW):List Nat:=gW (fK X.1.toNat X.2.1.toNat X.2.2) (kY X.2.1.toNat) (qw X.2.1.toNat) (4*X.1.toNat*X.2.1.toNat) (4*X.1.toNat*X.2.1.toNat)
noncomputable def tZ(X:bW):List Int:=(XG X).1
noncomputable def D3(X:bW):List Nat:=(jA X).map λs=>im (fK X.1.toNat X.2.1.toNat X.2.2) (qw X.2.1.toNat s)
def I1(Z:List Value)(L:List Nat):Prop:=Z.length=L.length∧∀i (hi:i<L.length),∃b,Z[i]?=some (sl b 0 L[i] 2)
theorem I1.nil:I1 [] []:=⟨rfl,by simp⟩
theorem I1.snoc{L:List Nat}(x:I1 Z L){n:Nat}(e:n=m):I1 (Z++[sl b 0 n 2]) (L++[m]):=by
 obtain⟨h1,a⟩:=x;refine⟨by simp[h1],λi hi=>?_⟩;by_cases q:i<L.length
 ·grind
 ·have:i=L.length:=by simp at hi;omega
  simp_all
theorem bP.base{v:Value}(x:bP B0 h v z cs)(hl:B1.length<=B0.length):bP B1 h v z cs:=by
 rcases x with q|⟨b,n,a,c,e,d⟩
 ·exact .inl q
 ·exact .inr ⟨b,n,a,c,by omega,d⟩
theorem axs(h:a9)(hp:0<h.length)(v:Value)(X:bW)(w:Wk)(hv:gY h v X)(ok:fg X)(hw:sj X.1.toNat X.2.1.toNat w):aN aE 466 [v,wv w] h λr h'=>ae h h'∧∃r0 r1,r=.tuple #[r0,r1]∧bP h h' r1 1 (ints (yS (fK X.1.toNat X.2.1.toNat X.2.2) X.2.1.toNat w (im (fK X.1.toNat X.2.1.toNat X.2.2) w)))∧∃b n,r0=sl b 0 n 2∧n=im (fK X.1.toNat X.2.1.toNat X.2.2) w:=by
 have A:=xR (W:=X.1.toNat) (H:=X.2.1.toNat) (br:=X.2.2) (by have:=ok.w;omega) (by have:=ok.h;omega);obtain⟨P1,P2,T,U⟩:=A.Bz hw;obtain⟨f,ef⟩:=aC (fK X.1.toNat X.2.1.toNat X.2.2);rw[<-ef]at A P1 P2 T U ⊢;have hN:4*X.1.toNat*X.2.1.toNat<=4*8*8:=dh (by have:=ok.w;omega) (by have:=ok.h;omega);obtain⟨n,F⟩:=aC (im f w);rw[<-F]at P1 P2 T U ⊢;refine afq ?_;simp(disch:=omega)[wv];refine aU (λ(k:Nat) σ h'=>k<=n∧ae h h'∧σ 0=v∧σ 3=wv w∧σ 8=wv (dP f k w)∧bP h h' (σ 7) 1 (ints (yS f X.2.1.toNat w k))∧Ht (σ 6) (σ 7)∧∃P,bP h h' (σ 6) 2 P∧P.length=2*k) (λk=>n-k) 0 ?_ ?_
 ·refine⟨by omega,ae.refl _,by simp,by simp[wv],by simp[wv,dP],by simpa [yS,ints]using bP.nil,?_,[],by simpa using bP.nil,rfl⟩;intro b c n m z y h1 L e;simp[sl]at h1;omega
 ·rintro k σ h'⟨hk,g,q0,x,s,B,ap,P,bp,hP⟩;have JO:=A.vi hw k;have R:=JO;obtain⟨b1,n1,o⟩:∃b n,σ 6=sl b 0 n 2∧n*2=P.length:=by
   rcases bp with⟨t,E⟩|⟨b,n,t,E,_⟩
   ·exact⟨0,0,E,by rw[t];rfl⟩
   ·exact⟨b,n,t,E⟩
  obtain⟨o,G⟩:=o;have G:n1=k:=by omega
  subst G;have inj:∀a b:Wk,wv a=wv b->a=b:=by rintro⟨_,_,_,_⟩⟨_,_,_,_⟩ e;simp[wv]at e;obtain⟨rfl,rfl,rfl,rfl⟩:=e;rfl
  obtain⟨u,J⟩:=aC (dP f n1 w);rw[<-J]at s JO R;rw[aw];generalize hK:aP aE _ _=K;have key:n1<n->∀i:Nat->Value,i 0=v->i 3=wv w->i 8=wv u->i 6=sl b1 0 n1 2->i 7=σ 7->K 0 i h':=by
   intro tQ i p0 p3 p8 p6 p7;subst hK;simp only[aq];obtain⟨j,l,p,q⟩:=u;simp only[wv]at p8 s;have YC:=R;obtain⟨d1,d2,d3,d4,d5,d6,d7⟩:=YC;simp only at d1 d2 d3 d4 d5 d6 d7;simp(disch:=omega)[p0,p8,p6];rw[o]at ap;have D:=bp;rw[o]at D;have eb:aW 2 1 h' [(0,.agg #[I 0,I 0]),(2,.agg #[I j,I l])]=some (sl h'.length 0 1 2,h'++[⟨[I j,I l],true⟩]):=by simp[aW]
   rw[eb];simp only[bI];have hle:=g.le;refine AU hp g (aa _) hle D (by simp) (by omega) (by simp[maxSize];omega) λv2 L g2 l2 b2 n2 fr2=>?_;have bs2:=B.ajm hp ap fr2;have V:=Mn hp B n2;refine aO (ZE L v X j l p q (hv.grow g2) ok R) ?_;rintro _ C⟨rfl,rfl⟩;have eb:aW 1 1 C [(0,.agg #[I 0]),(1,I (kY X.2.1.toNat (j,l,p,q)))]=some (sl C.length 0 1 1,C++[⟨[I (kY X.2.1.toNat (j,l,p,q))],true⟩]):=by simp[aW]
   rw[eb,p7];simp only[bI];have nY:(yS f X.2.1.toNat w n1).length=n1:=by simp[yS]
   refine AU hp g2 (aa _) g2.le bs2 (by simp) (by omega) (by simp[nY,ints,maxSize];omega) λv4 S g4 l4 b4 n4 fr4=>?_;have Z:=b2.ajm hp V.symm fr4;have Y:=Mn hp b2 n4;refine aO (ZG S v X j l p q (hv.grow g4) ok R) ?_;rintro _ h5⟨rfl,rfl⟩;obtain⟨a,b,c,d,yI⟩:∃a b c d,fK X.1.toNat X.2.1.toNat X.2.2 (j,l,p,q)=(a,b,c,d):=⟨_,_,_,_,rfl⟩;rw[yI];simp(disch:=omega)[wv];refine⟨n1+1,⟨by omega,g4,p3,?_,?_,Y.symm,_,Z,?_⟩,by omega⟩
   ·have e9:dP f (n1+1) w=(a,b,c,d):=by show f (dP f n1 w)=_;rw[<-J,ef];exact yI
    simp[e9]
   ·have:yS f X.2.1.toNat w (n1+1)=yS f X.2.1.toNat w n1++[(kY X.2.1.toNat (j,l,p,q):Int)]:=by simp[yS,dN,<-J]
    rw[this];simpa [ints]using b4
   ·simp;omega
  by_cases e0:n1=0
  ·simp(disch:=omega)[x,s,o,e0];exact key (by omega) _ (by simp[q0]) (by simp[x]) (by simp[s]) (by simp[o]) (by simp)
  ·by_cases t:n1<n
   ·have ne:u≠w:=by rw[J];exact U n1 (by omega) t
    obtain⟨j,l,p,q⟩:=u;obtain⟨O,Q,M,N⟩:=w;simp only[wv]at s x;have F:Ah .neq 4 [I j,I l,I p,I q] [I O,I Q,I M,I N]=some (.bool true):=by by_cases h1:j=O<;>by_cases L:l=Q<;>by_cases C:p=M<;>by_cases S:q=N<;>simp[Ah,gF,h1,L,C,S];subst h1;subst L;subst C;subst S;exact absurd rfl ne
    simp(disch:=omega)[x,s,o,e0,F];exact key (by omega) _ (by simp[q0]) (by simp[x,wv]) (by simp[s,wv]) (by simp[o]) (by simp)
   ·have e:n1=n:=by omega
    have eq:u=w:=by rw[J,e];exact T
    subst eq;obtain⟨O,Q,M,N⟩:=u;simp only[wv]at s x;have F:Ah .neq 4 [I O,I Q,I M,I N] [I O,I Q,I M,I N]=some (.bool false):=by simp[Ah,gF]
    obtain⟨b3,n3,Wg⟩:∃b n,σ 7=sl b 0 n 1:=by
     rcases B with⟨t,E⟩|⟨b,n,t,_⟩
     ·exact⟨0,0,E⟩
     ·exact⟨b,n,t⟩
    rw[Wg]at B;simp(disch:=omega)[x,s,o,e0,F];subst hK;simp(disch:=omega)[o,Wg];rw[e]at B;exact⟨g,_,_,⟨rfl,rfl⟩,B,b1,by rw[e]⟩
theorem NK(h:a9)(hp:0<h.length)(v:Value)(X:bW)(hv:gY h v X)(ok:fg X):aN aE 463 [v] h λr h'=>ae h h'∧∃b1 b2 Z,r=.tuple #[sl b1 0 (bC X) 1,sl b2 0 (4*X.1.toNat*X.2.1.toNat) 1]∧bP h h' (sl b1 0 (bC X) 1) 1 Z∧I1 Z (D3 X)∧h.length<=b2∧h'[b2]?=some ⟨ints (tZ X),true⟩:=by
 have dD:=hv;obtain⟨b,o,s,rfl,h1,Q,h3,hr,_⟩:=hv;have A:=xR (W:=X.1.toNat) (H:=X.2.1.toNat) (br:=X.2.2) (by have:=ok.w;omega) (by have:=ok.h;omega);obtain⟨N,p⟩:=aC (4*X.1.toNat*X.2.1.toNat);have hN:N<=256:=by rw[p];exact(dh (by have:=ok.w;omega) (by have:=ok.h;omega):4*X.1.toNat*X.2.1.toNat<=4*8*8)
 have Nl:∀k,k<N->sj X.1.toNat X.2.1.toNat (qw X.2.1.toNat k):=λk K=>Dr (by have:=ok.h;omega) (by rw[<-p];exact K);have QH:∀k,k<N->kY X.2.1.toNat (qw X.2.1.toNat k)=k:=λk K=>Hr (by have:=ok.h;omega) (by rw[<-p];exact K);have eC:bC X=(dg (fK X.1.toNat X.2.1.toNat X.2.2) (kY X.2.1.toNat) (qw X.2.1.toNat) N N).2:=by rw[p];rfl
 have eL:D3 X=(gW (fK X.1.toNat X.2.1.toNat X.2.2) (kY X.2.1.toNat) (qw X.2.1.toNat) N N).map λs=>im (fK X.1.toNat X.2.1.toNat X.2.2) (qw X.2.1.toNat s):=by rw[p];rfl
 have eO:tZ X=(dg (fK X.1.toNat X.2.1.toNat X.2.2) (kY X.2.1.toNat) (qw X.2.1.toNat) N N).1:=by rw[p];rfl
 rw[<-p,eC,eL,eO];obtain⟨f,ef⟩:=aC (fK X.1.toNat X.2.1.toNat X.2.2);rw[<-p]at A;rw[<-ef]at A ⊢;have eNi:(4*X.1*X.2.1:Int)=N:=by
  have w1:(X.1.toNat:Int)=X.1:=by have:=ok.w;omega
  have w2:(X.2.1.toNat:Int)=X.2.1:=by have:=ok.h;omega
  rw[p];simp only[nS,w1,w2];rfl
 obtain⟨w8,LK,_,_⟩:=ok;have bd:4*X.1<=32:=by omega
 refine afq ?_;obtain⟨B,eB⟩:=aC h.length;have em:nR 1 h (Value.int IntKind.i64 N) (Value.int IntKind.i64 N) (Value.agg #[I 0])=some (sl B 0 N 1,h++[⟨ints (List.replicate N 0),true⟩]):=by simp(disch:=omega)[nR,maxSize,ints,eB];exact⟨by omega,by simpa [ints]using F1 N⟩
 simp(disch:=omega)[h1,Q,wrap64,eNi];rw[em];simp only[bI];refine aU (λ(k:Nat) σ h'=>k<=N∧ae h h'∧h'.length=B+1∧h'[B]?=some ⟨ints (List.replicate k (-1)++List.replicate (N-k) 0),true⟩∧σ 0=pt b o∧σ 4=I N∧σ 5=sl B 0 N 1∧σ 6=I k) (λk=>N-k) 0 ?_ ?_
 ·exact⟨by omega,⟨_,rfl⟩,by simp[eB],by simp[eB],by simp,by simp,by simp,by simp⟩
 rintro k σ yg⟨K,g,hlen,d,J,l,C,q6⟩;simp(disch:=omega)[l,q6];refine aG (λbB=>?_) (λdG=>?_)
 ·have k1:k<N:=by omega
  have st:=ld (v:=I (-1)) (o:=k) d (by simp[ints];omega);simp(disch:=omega)[l,C,q6,k1,st,wrap64];refine⟨k+1,⟨by omega,g.put (by omega) _,hlen,?_,J,by omega⟩,by omega⟩;have hBl:B<yg.length:=by omega
  simp[hBl,ints]
  ·obtain⟨m,hm⟩:∃m,N-k=m+1:=⟨N-k-1,by omega⟩;rw[hm,show N-(k+1)=m by omega,fJ,oq,kP];simp
 have hkN:N=k:=by omega
 subst hkN;simp(disch:=omega)[l,q6];have T:yg[B]?=some ⟨ints (dg f (kY X.2.1.toNat) (qw X.2.1.toNat) N 0).1,true⟩:=by rw[d];simp[dg]
 clear d;obtain⟨H1,P⟩:=aC yg;have lH1:H1.length=B+1:=by rw[P];exact hlen
 obtain⟨sg,NZ⟩:=aC (kY X.2.1.toNat);obtain⟨wk,Rb⟩:=aC (qw X.2.1.toNat);rw[<-NZ]at A QH T ⊢;rw[<-Rb]at Nl QH T ⊢;refine aU (λ(k:Nat) σ h'=>k<=N∧ae h h'∧B+1<=h'.length∧h'[B]?=some ⟨ints (dg f sg wk N k).1,true⟩∧σ 0=pt b o∧σ 4=I N∧σ 5=sl B 0 N 1∧σ 8=I k∧∃Z,bP H1 h' (σ 7) 1 Z∧Z.length=(dg f sg wk N k).2∧I1 Z ((gW f sg wk N k).map λs=>im f (wk s))) (λk=>N-k) 0 ?_ ?_
 ·exact⟨by omega,g,by omega,T,by simpa using J,by simpa using l,by simpa using C,by simp,[],by simpa using bP.nil,rfl,I1.nil⟩
 clear J l C q6 T g P;rintro k σ Q⟨K,g,hlen,d,J,l,C,R,Z,D,F,hL⟩;obtain⟨Hj,KC,Hl⟩:=A.st Nl k K;simp(disch:=omega)[l,R];refine aG (λbB=>?_) (λdG=>?_)
 ·have k1:k<N:=by omega
  have iA:=Nl k k1;obtain⟨oc,Ux⟩:=aC (dg f sg wk N k);have x:dg f sg wk N (k+1)=if 0<=fi oc.1 k then oc else(oY f sg (wk k) oc.2 oc.1 (im f (wk k)),oc.2+1):=by rw[Ux];rfl
  have L:gW f sg wk N (k+1)=if 0<=fi oc.1 k then gW f sg wk N k else gW f sg wk N k++[k]:=by rw[Ux];rfl
  rw[<-Ux]at d F Hj KC Hl;obtain⟨O,c⟩:=oc;simp only at d F Hj KC Hl x L;have db:cell Q B k=some (I (fi O k)):=i9 d (by simp[ints,fi,aA,show k<O.length by omega]);simp(disch:=omega)[l,C,R,k1,db];refine aG (λjV=>?_) (λQd=>?_)
  ·simp(disch:=omega)[l,R,wrap64];rw[if_pos jV]at x L;refine⟨k+1,⟨by omega,g,by omega,?_,J,C,by omega,Z,D,?_,by rw[L];exact hL⟩,by omega⟩
   ·have:=(au.1 d).2;simpa [x]using this
   ·rw[x];exact F
  ·rw[if_neg Qd]at x L;have c2:=aoP Q (pt b o) X k (dD.grow g) ⟨w8,LK,by assumption,by assumption⟩ (by omega);rw[<-Rb]at c2;have Y:=axs Q (by omega) (pt b o) X (wk k) (dD.grow g) ⟨w8,LK,by assumption,by assumption⟩ iA;rw[<-ef]at Y;obtain⟨u,eu⟩:=aC (wk k);rw[<-eu]at c2 Y iA x;obtain⟨P1,P2,P3,P4⟩:=A.Bz iA;simp(disch:=omega)[J,R];refine aQ c2 ?_;rintro _ h3⟨rfl,rfl⟩;obtain⟨y,z,q,t⟩:=u;simp only[wv]at Y;refine⟨λ_=>ae.refl _,?_⟩;simp(disch:=omega)[wv];refine aO Y ?_;rintro _ h4⟨g4,r0,r1,rfl,V,b4,n4,rfl,hn4⟩;obtain⟨b5,rfl⟩:=V.nw;have nY:(ints (yS f X.2.1.toNat (y,z,q,t) (im f (y,z,q,t)))).length=im f (y,z,q,t):=by simp[yS,ints]
   rw[nY]at V ⊢;simp(disch:=omega);obtain⟨n,en⟩:=aC (im f (y,z,q,t));rw[<-en]at V nY P1 P2 P3 P4 x ⊢;obtain⟨U,E⟩:=D.nw;rw[F]at E;rw[E]at D;have Rm:=g.le;have bz4:=D.grow g4;have l4:=g4.le;have hB4:=g4.at d;refine aU (λ(j:Nat) a h'=>j<=n∧ae h h'∧h4.length<=h'.length∧h'[B]?=some ⟨ints (oY f sg (y,z,q,t) c O j),true⟩∧a 0=pt b o∧a 4=I N∧a 5=sl B 0 N 1∧a 7=sl U 0 c 1∧a 8=I k∧a 9=sl b4 0 n4 2∧a 10=sl b5 0 n 1∧a 11=I j∧bP H1 h' (sl U 0 c 1) 1 Z∧bP h3 h' (sl b5 0 n 1) 1 (ints (yS f X.2.1.toNat (y,z,q,t) n))) (λj=>n-j) 0 ?_ ?_
   ·exact⟨by omega,g.trans g4,by omega,hB4,by simpa using J,by simpa using l,by simpa using C,by simpa using E,by simpa using R,by simp,by simp,by simp,bz4,V⟩
   rintro j τ h5⟨hj,g5,l5,Rk,r0,r4,r5,r7,r8,r9,S,Ks,TV,M⟩;simp(disch:=omega)[S,Ks];refine aG (λOI=>?_) (λOH=>?_)
   ·have j1:j<n:=by omega
    have GU:(ints (yS f X.2.1.toNat (y,z,q,t) n))[j]'(by rw[nY];exact j1)=I (sg (dP f j (y,z,q,t))):=by simp[ints,yS,NZ]
    have G:=M.Jc (i:=j) (by rw[nY];exact j1);rw[GU]at G;obtain⟨w,ew⟩:=aC (sg (dP f j (y,z,q,t)));have hw:w<N:=by rw[ew];exact A.lt _ (A.vi iA j)
    rw[<-ew]at G;have st:=ld (v:=I c) (o:=w) Rk (by simp[ints,AJ,Hj];omega);simp(disch:=omega)[r5,r7,S,Ks,j1,G,hw,st,wrap64];refine⟨j+1,⟨by omega,g5.put (by omega) _,l5,?_,r0,r4,r8,r9,by omega,TV.put (by omega),M.put (by omega)⟩,by omega⟩;have:B<h5.length:=bZ Rk;simp[this,oY,<-ew,ints,jS]
   ·have ej:j=n:=by omega
    subst ej;have eb:aW 1 1 h5 [(0,.agg #[sl 0 0 0 0]),(1,sl b4 0 n4 2)]=some (sl h5.length 0 1 1,h5++[⟨[sl b4 0 n4 2],true⟩]):=by simp[aW]
    simp(disch:=omega)[r0,r4,r5,r7,r8,r9];rw[eb];simp only[bI];refine AU (by omega) g5 (by omega) (by omega) TV (by simp) (by omega) (by simp[F,maxSize];omega) λv6 h6 g6 l6 b6 n6 fr6=>?_;have Of:=fr6 B _ Rk (TV.ne (by omega) (by omega));simp(disch:=omega)[r0,r4,r5,r8,wrap64];refine⟨k+1,⟨by omega,g6,by omega,?_,by omega,_,b6,?_,by rw[L,cq];exact hL.snoc (by rw[hn4,eu])⟩,by omega⟩
    ·have:=(au.1 Of).2;simpa [x]using this
    ·rw[x];simp[F]
 ·have e:k=N:=by omega
  subst e;obtain⟨U,E⟩:=D.nw;rw[F]at E;simp(disch:=omega)[E,C];rw[E]at D;refine⟨g,U,B,⟨rfl,rfl⟩,Z,D.base (by omega),hL,by omega,d⟩
theorem aDa(h:a9)(hp:0<h.length)(v:Value)(X:bW)(a:gY h v X)(ok:fg X):aN aE 463 [v] h λr h'=>ae h h'∧∃b1 b2,r=.tuple #[sl b1 0 (bC X) 1,sl b2 0 (4*X.1.toNat*X.2.1.toNat) 1]:=
 (NK h hp v X a ok).mono λr h' ⟨g,b1,b2,Z,e,_⟩=>⟨g,b1,b2,e⟩
theorem HF(h:a9)(hp:0<h.length)(v:Value)(X:bW)(a:gY h v X)(ok:fg X):aN aE 465 [v] h λr h'=>ae h h'∧r=I (bC X):=by
 refine akV ?_;refine aQ (aDa h hp v X a ok) ?_;rintro _ h'⟨g,b1,b2,rfl⟩;refine⟨λ_=>g,?_⟩;simp(disch:=omega)
 try exact g
noncomputable def yH(X:bW):List (List Wk):=uh (fK X.1.toNat X.2.1.toNat X.2.2) (kY X.2.1.toNat) (qw X.2.1.toNat) (4*X.1.toNat*X.2.1.toNat) (4*X.1.toNat*X.2.1.toNat)
theorem Uf{f:Wk->Wk}{sg:Wk->Nat}{wk:Nat->Wk}(k:Nat):uh f sg wk N (k+1)=if 0<=fi (dg f sg wk N k).1 k then uh f sg wk N k else uh f sg wk N k++[nP f (wk k) (im f (wk k))]:=by unfold uh;simp only[gW];split<;>simp
def mQ(l:List Wk):List Value:=(l.map λw=>[I w.1,I w.2.1,I w.2.2.1,I w.2.2.2]).flatten
theorem Iz:∀l:List Wk,(mQ l).length=4*l.length
 |[]=>rfl
 |w::l=>by
  have:=Iz l;simp only[mQ,bX,cK,af,az,aF]at this ⊢;omega
theorem ahq{l:List Wk}{y:Int}:mQ l++[I x,I y,I dx,I dy]=mQ (l++[(x,y,dx,dy)]):=by simp[mQ]
def Xu(h h':a9)(B:Nat):Prop:=∀c,0<c->c≠B->c<h.length->h'[c]?=h[c]?
theorem Xu.refl{B:Nat}:Xu h h B:=λ_ _ _ _=>rfl
def xu(h:a9)(lo:Nat)(v:Value)(Z:List Value)(a:List (List Wk)):Prop:=Z.length=a.length∧∀i (hi:i<a.length),∃b,Z[i]?=some (sl b 0 a[i].length 4)∧lo<=b∧h[b]?=some ⟨mQ a[i],true⟩∧∀n y,v≠sl b 0 n y
theorem xu.nil{v:Value}:xu h lo v [] []:=⟨rfl,by simp⟩
theorem xu.low{v:Value}{a:List (List Wk)}(x:xu h lo v Z a)(hl:tu<=lo):xu h tu v Z a:=
 ⟨x.1,λi hi=>by obtain⟨b,c,e,d⟩:=x.2 i hi;exact⟨b,c,by omega,d⟩⟩
theorem xu.frame{B:Nat}{v:Value}{a:List (List Wk)}(x:xu h lo v Z a)(f:Xu h h' B)(h0:0<lo)(j:B<lo):xu h' lo v Z a:=
 ⟨x.1,λi hi=>by
  obtain⟨b,d,e,c,g⟩:=x.2 i hi;exact⟨b,d,e,by rw[f b (by omega) (by omega) (bZ c)];exact c,g⟩⟩
theorem xu.snoc{n:Nat}{v:Value}{a:List (List Wk)}{C:List Wk}(x:xu h lo v Z a)(fr:∀c d,h[c]?=some d->(∀n,v≠sl c 0 n 1)->h'[c]?=some d)(k:∀b n y,v'=sl b 0 n y->h.length<=b)
  (j:h[b]?=some ⟨mQ C,true⟩) (f:lo<=b) (e:∀n y,v≠sl b 0 n y) (hn:n=C.length):xu h' lo v' (Z++[sl b 0 n 4]) (a++[C]):=by
 obtain⟨h1,g⟩:=x;refine⟨by simp[h1],λi hi=>?_⟩
 grind
theorem T7(h:a9)(hp:0<h.length)(W H:Int)(br:List Int)(s:Value)(ok:fg (W,H,br))(hr:Vr h cZ s br):aN aE 55 [.agg #[I W,I H,s]] h λr h'=>ae h h'∧∃b1 b2 Z,r=.tuple #[sl b1 0 (bC (W,H,br)) 1,sl b2 0 (4*W.toNat*H.toNat) 1]∧bP h h' (sl b1 0 (bC (W,H,br)) 1) 1 Z∧xu h' h.length (sl b1 0 (bC (W,H,br)) 1) Z (yH (W,H,br))∧h.length<=b2∧h'[b2]?=some ⟨ints (tZ (W,H,br)),true⟩:=by
 have A:=xR (W:=W.toNat) (H:=H.toNat) (br:=br) (by have:=ok.w;simp at this;omega) (by have:=ok.h;simp at this;omega);have ok0:=ok;obtain⟨w8,LK,_,_⟩:=ok;simp only at w8 LK;obtain⟨N,t⟩:=aC (4*W.toNat*H.toNat);have hN:N<=256:=by rw[t];exact(dh (by omega) (by omega):4*W.toNat*H.toNat<=4*8*8)
 have Nl:∀k,k<N->sj W.toNat H.toNat (qw H.toNat k):=λk hk=>Dr (by omega) (by rw[<-t];exact hk);have QH:∀k,k<N->kY H.toNat (qw H.toNat k)=k:=λk hk=>Hr (by omega) (by rw[<-t];exact hk);have eC:bC (W,H,br)=(dg (fK W.toNat H.toNat br) (kY H.toNat) (qw H.toNat) N N).2:=by rw[t];rfl
 have eL:yH (W,H,br)=uh (fK W.toNat H.toNat br) (kY H.toNat) (qw H.toNat) N N:=by rw[t];rfl
 have eO:tZ (W,H,br)=(dg (fK W.toNat H.toNat br) (kY H.toNat) (qw H.toNat) N N).1:=by rw[t];rfl
 rw[<-t,eC,eL,eO];obtain⟨f,ef⟩:=aC (fK W.toNat H.toNat br);rw[<-t]at A;rw[<-ef]at A ⊢;obtain⟨B,eB⟩:=aC h.length;have em:nR 1 h (Value.int IntKind.i64 N) (Value.int IntKind.i64 N) (Value.agg #[I 0])=some (sl B 0 N 1,h++[⟨ints (List.replicate N 0),true⟩]):=by simp(disch:=omega)[nR,maxSize,ints,eB];exact⟨by omega,by simpa [ints]using F1 N⟩
 have L:=λhh=>c51 hh W H s w8 LK;rw[<-t]at L;refine akV ?_;refine aQ (L h) ?_;rintro _ h0⟨rfl,rfl⟩
 try refine⟨λ_=>ae.refl _,?_⟩
 rw[em];simp only[bI];simp(disch:=omega);refine aU (λ(k:Nat) σ h'=>k<=N∧ae h0 h'∧h'.length=B+1∧h'[B]?=some ⟨ints (List.replicate k (-1)++List.replicate (N-k) 0),true⟩∧σ 1=.agg #[I W,I H,s]∧σ 4=sl 0 0 0 1∧σ 5=sl B 0 N 1∧σ 15=I N∧σ 16=I k) (λk=>N-k) 0 ?_ ?_
 ·exact⟨by omega,⟨_,rfl⟩,by simp[eB],by simp[eB],by simp,by simp,by simp,by simp,by simp⟩
 rintro k σ yg⟨hk,g,hlen,p,q1,q4,J,AK,IS⟩;simp(disch:=omega)[AK,IS];refine aG (λbB=>?_) (λdG=>?_)
 ·have k1:k<N:=by omega
  have st:=ld (v:=I (-1)) (o:=k) p (by simp[ints];omega);simp(disch:=omega)[q1,q4,J,AK,IS,k1,st,wrap64];refine⟨k+1,⟨by omega,g.put (by omega) _,hlen,?_,by omega⟩,by omega⟩;have hBl:B<yg.length:=by omega
  simp[hBl,ints];obtain⟨m,hm⟩:∃m,N-k=m+1:=⟨N-k-1,by omega⟩;rw[hm,show N-(k+1)=m by omega,fJ,oq,kP];simp
 have hkN:N=k:=by omega
 subst hkN;simp(disch:=omega)[q1];have Oe:yg[B]?=some ⟨ints (dg f (kY H.toNat) (qw H.toNat) N 0).1,true⟩:=by rw[p];simp[dg]
 clear p;refine aQ (L yg) ?_;rintro _ yg⟨rfl,rfl⟩
 try refine⟨λ_=>ae.refl _,?_⟩
 obtain⟨H1,eH1⟩:=aC yg;have lH1:H1.length=B+1:=by rw[eH1];exact hlen
 obtain⟨sg,NZ⟩:=aC (kY H.toNat);obtain⟨wk,Rb⟩:=aC (qw H.toNat);rw[<-NZ]at A QH Oe ⊢;rw[<-Rb]at Nl QH Oe ⊢;refine aU (λ(k:Nat) σ h'=>k<=N∧ae h0 h'∧B+1<=h'.length∧h'[B]?=some ⟨ints (dg f sg wk N k).1,true⟩∧σ 1=.agg #[I W,I H,s]∧σ 5=sl B 0 N 1∧σ 24=I N∧σ 25=I k∧∃Z,bP H1 h' (σ 4) 1 Z∧Z.length=(dg f sg wk N k).2∧xu h' H1.length (σ 4) Z (uh f sg wk N k)) (λk=>N-k) 0 ?_ ?_
 ·exact⟨by omega,g,by omega,Oe,by simpa using q1,by simpa using J,by simp,by simp,[],by simpa [q4]using bP.nil,rfl,xu.nil⟩
 clear q1 q4 J AK IS Oe g eH1;rintro k σ h2⟨hk,g,hlen,p,q1,J,L4,L6,Z,R,X,hL⟩;obtain⟨Hj,KC,Hl⟩:=A.st Nl k hk;simp(disch:=omega)[L4,L6];refine aG (λbB=>?_) (λdG=>?_)
 ·have k1:k<N:=by omega
  have iA:=Nl k k1;have aru:=QH k k1;obtain⟨oc,Ux⟩:=aC (dg f sg wk N k);have F:dg f sg wk N (k+1)=if 0<=fi oc.1 k then oc else(oY f sg (wk k) oc.2 oc.1 (im f (wk k)),oc.2+1):=by rw[Ux];rfl
  have K:uh f sg wk N (k+1)=if 0<=fi oc.1 k then uh f sg wk N k else uh f sg wk N k++[nP f (wk k) (im f (wk k))]:=by rw[Ux];exact Uf k
  rw[<-Ux]at p X Hj KC Hl;obtain⟨O,c⟩:=oc;simp only at p X Hj KC Hl F K;have db:cell h2 B k=some (I (fi O k)):=i9 p (by simp[ints,fi,aA,show k<O.length by omega]);simp(disch:=omega)[J,L4,L6,k1,db];refine aG (λjV=>?_) (λQd=>?_)
  ·simp(disch:=omega)[L4,L6,wrap64];rw[if_pos jV]at F K;refine⟨k+1,⟨by omega,g,by omega,?_,q1,J,by omega,Z,R,?_,by rw[K];exact hL⟩,by omega⟩
   ·have:=(au.1 p).2;simpa [F]using this
   ·rw[F];exact X
  ·rw[if_neg Qd]at F K;have c2:=c56 h2 W H s k w8 LK (by omega);rw[<-Rb]at c2;obtain⟨u,eu⟩:=aC (wk k);rw[<-eu]at c2 iA F K aru;obtain⟨P1,P2,P3,P4⟩:=A.Bz iA;obtain⟨R1,R2⟩:=A.run iA (c:=(c:Int)) (by omega) Hj KC (by rw[aru];omega);obtain⟨n,en⟩:=aC (im f u);rw[<-en]at P1 P2 P3 P4 R1 R2 F K;simp(disch:=omega)[q1];refine aQ c2 ?_;rintro _ h3⟨rfl,e3⟩;subst e3;refine⟨λe=>(by cases e),?_⟩;simp(disch:=omega)[aeg];obtain⟨M,S⟩:=R.nw;rw[X]at S;rw[S]at R hL;have Rm:=g.le;obtain⟨G,T⟩:=aC h3;have lHH:G.length=h3.length:=by rw[T]
   refine aU (λ(j:Nat) i h'=>j<=n∧ae h0 h'∧G.length<=h'.length∧h'[B]?=some ⟨ints (oY f sg u c O j),true⟩∧i 1=.agg #[I W,I H,s]∧i 4=sl M 0 c 1∧i 5=sl B 0 N 1∧i 9=wv (dP f j u)∧i 24=I N∧i 25=I k∧bP H1 h' (sl M 0 c 1) 1 Z∧Xu G h' B∧∃Q,bP G h' (i 8) 4 Q∧Q=mQ (nP f u j)∧Ht (i 8) (sl M 0 c 1)) (λj=>n-j) 0 ?_ ?_
   ·refine⟨by omega,g,by omega,p,by simpa using q1,by simpa using S,by simpa using J,by simp[aeg,dP],by simpa using L4,by simpa using L6,R,by rw[T];exact Xu.refl,[],by simpa using bP.nil,rfl,?_⟩;intro b c n m z y h1 h2 e;simp[sl]at h1;omega
   rintro j τ h5⟨hj,g5,l5,Rk,r1,r4,r5,r9,YO,YP,TV,fb5,Q,bq,V,ap⟩;have hQ:Q.length=4*j:=by rw[V,Iz,Fb]
   have E:=A.vi iA j;obtain⟨v,ev⟩:=aC (dP f j u);rw[<-ev]at r9 E;have Y:sg v<N:=A.lt _ E;have db:cell h5 B (sg v)=some (I (fi (oY f sg u c O j) (sg v))):=i9 Rk (by simp[ints,fi,aA,AJ,Hj,Y]);obtain⟨x,y,dx,dy⟩:=v;simp only[wv]at r9;have c5:=c50 h5 W H s x y dx dy w8 LK E;rw[<-NZ]at c5;simp(disch:=omega)[r1,r5,r9];refine aO c5 ?_;rintro _ h6⟨rfl,rfl⟩;simp(disch:=omega)[Y,db];refine aG (λbB=>?_) (λdG=>?_)
   ·have j1:j<n:=by
     rcases fV j n with q|q
     ·exact q
     ·have:j=n:=by omega
      subst this;rw[<-ev]at R2;omega
    have st:=ld (v:=I c) (o:=sg (x,y,dx,dy)) Rk (by simp[ints,AJ,Hj];omega);simp(disch:=omega)[r1,r4,r5,r9];refine aO c5 ?_;rintro _ h7⟨rfl,rfl⟩;simp(disch:=omega)[Y,st];obtain⟨D,l⟩:=aC (List.set h7 B {cells:=(ints (oY f sg u (↑c) O j)).set (sg (x,y,dx,dy)) (I ↑c),rw:=true});rw[<-l];have g8:ae h0 D:=by rw[l];exact g5.put (by omega) _
    have l8:D.length=h7.length:=by rw[l];simp
    have UP:D[B]?=some ⟨ints (oY f sg u c O (j+1)),true⟩:=by have:B<h7.length:=bZ Rk;rw[l];simp[this,oY,<-ev,ints,jS]
    have bz8:bP H1 D (sl M 0 c 1) 1 Z:=by rw[l];exact TV.put (by omega)
    have P:bP G D (τ 8) 4 Q:=by rw[l];exact bq.put (by omega)
    have eb:aW 4 1 D [(0,.agg #[I 0,I 0,I 0,I 0]),(4,.agg #[I x,I y,I dx,I dy])]=some (sl D.length 0 1 4,D++[⟨[I x,I y,I dx,I dy],true⟩]):=by simp[aW]
    rw[eb];simp only[bI];refine AU (by omega) g8 (by omega) (by omega) P (by simp) (by omega) (by simp[maxSize];omega) λv9 h9 g9 l9 b9 n9 U=>?_;have bz9:=bz8.ajm (by omega) ap U;have hB9:=U B _ UP (P.ne (by omega) (by omega));have fb9:Xu G h9 B:=λc c0 cB cl=>by
     have k5:=fb5 c c0 cB cl;obtain⟨kk,Bj⟩:∃kk,G[c]?=some kk:=⟨_,ah cl⟩;have k8:D[c]?=some kk:=by rw[l,ag (λe=>cB e.symm),k5,Bj]
     rw[Bj];exact U c kk k8 (P.ne c0 cl)
    have ap9:=Mn (by omega) bz8 n9;refine aO (c54 h9 W H br s x y dx dy ok0 (hr.grow g9) E) ?_;rintro _ h10⟨⟨q,rfl⟩,rfl⟩;obtain⟨a1,a2,a3,a4,yI⟩:∃a b c d,fK W.toNat H.toNat br (x,y,dx,dy)=(a,b,c,d):=⟨_,_,_,_,rfl⟩;rw[yI];have e9:dP f (j+1) u=(a1,a2,a3,a4):=by show f (dP f j u)=_;rw[<-ev,ef];exact yI
    have aEd:=(au.1 hB9).2;simp(disch:=omega)[aeg];exact⟨j+1,⟨by omega,g9,by omega,by simpa using aEd,by simp[e9],YO,YP,bz9,fb9,_,b9,by rw[V,Kp,ahq,<-ev],ap9⟩,by omega⟩
   ·have ej:j=n:=by
     rcases fV j n with q|q
     ·have:=R1 j q;rw[<-ev]at this;omega
     ·omega
    subst ej;obtain⟨b8,n8,l,en8,hb8,hc8⟩:∃b n,τ 8=sl b 0 n 4∧n=j∧G.length<=b∧h6[b]?=some ⟨mQ (nP f u j),true⟩:=by
     rcases bq with⟨e1,e2⟩|⟨b,n,e1,e2,e3,e4⟩
     ·rw[e1]at hQ;simp at hQ;omega
     ·exact⟨b,n,e1,by omega,e3,by rw[<-V];exact e4⟩
    have eb:aW 1 1 h6 [(0,.agg #[sl 0 0 0 0]),(1,sl b8 0 n8 4)]=some (sl h6.length 0 1 1,h6++[⟨[sl b8 0 n8 4],true⟩]):=by simp[aW]
    simp(disch:=omega)[r1,r4,r5,l];rw[eb];simp only[bI];refine AU (by omega) g5 (by omega) (by omega) TV (by simp) (by omega) (by simp[X,maxSize];omega) λv6 h7 g6 l6 b6 n6 fr6=>?_;have nL:=(hL.frame (by rw[<-lHH]at*;exact λc c0 cB cl=>by rw[fb5 c c0 cB (by omega),T]) (by omega) (by omega)).snoc (b:=b8) (n:=n8) (C:=nP f u j) fr6 (λb n y e=>by have:=n6 b n y e;omega) hc8 (by omega) (λn y e=>by
     simp[sl]at e;have:=ap b8 M n8 c 4 1 l rfl (by omega);omega) (by rw[Fb];exact en8)
    have Of:=fr6 B _ Rk (TV.ne (by omega) (by omega));simp(disch:=omega)[r1,r5,YO,YP,wrap64];refine⟨k+1,⟨by omega,g6,by omega,?_,by omega,_,b6,?_,by rw[K];exact nL⟩,by omega⟩
    ·have:=(au.1 Of).2;simpa [F]using this
    ·rw[F];simp[X]
 ·have e:k=N:=by omega
  subst e;obtain⟨M,S⟩:=R.nw;rw[X]at S;simp(disch:=omega)[S,J];rw[S]at R hL;refine⟨g,M,B,⟨rfl,rfl⟩,Z,R.base (by omega),hL.low (by omega),by omega,p⟩
theorem c55(h:a9)(hp:0<h.length)(W H:Int)(br:List Int)(s:Value)(ok:fg (W,H,br))(a:Vr h cZ s br):aN aE 55 [.agg #[I W,I H,s]] h λr h'=>ae h h'∧∃b1 b2,r=.tuple #[sl b1 0 (bC (W,H,br)) 1,sl b2 0 (4*W.toNat*H.toNat) 1]:=
 (T7 h hp W H br s ok a).mono λr h' ⟨g,b1,b2,Z,e,_⟩=>⟨g,b1,b2,e⟩
theorem Ms(h:a9)(hp:0<h.length)(v:Value)(X:bW)(a:Vr h bU v X)(ok:fg X):aN aE 154 [v] h λr h'=>ae h h'∧r=I (bC X):=by
 obtain⟨W,H,br⟩:=X;obtain⟨s,rfl,w1,w2,b⟩:=a.dE;refine akV ?_;refine aQ (c55 h hp W H br s ok b) ?_;rintro _ h'⟨g,b1,b2,rfl⟩;refine⟨λ_=>g,?_⟩;simp(disch:=omega)
 try exact g
theorem Wb{h:a9}:∀{css:List (List Value)} {X:List (List UInt8)},cM (λc y=>Rd h .str c y) css X->css.flatten=texts X∧∀x∈X,x.length<=maxLen
 |[],[],_=>by simp[texts]
 |c::css,x::X,r=>by
  obtain⟨e,w⟩:=r.1;obtain⟨h1,a⟩:=Wb r.2;refine⟨by simp[e,h1,texts],λy hy=>?_⟩;rcases bR.1 hy with rfl|hy
  ·exact w
  ·exact a y hy
theorem Vr.texts{v:Value}{X:List (List UInt8)}(x:Vr h lD v X):∃b o z,v=sl b o X.length z∧(z=1∨b=0∧X=[])∧X.length<=maxLen∧(∀x∈X,x.length<=maxLen)∧(X=[]∨aZ h b o X.length=some (Am.texts X)):=by obtain⟨cs,⟨b,o,z,css,rfl,f,hm,h1,e⟩,rfl⟩:=x;obtain⟨c,d⟩:=Wb h1;have a:X=[]∨aZ h b o (X.length*1)=some css.flatten:=e;rw[c,dn]at a;exact⟨b,o,z,rfl,f,hm,d,a⟩
theorem Nh{o k:Nat}{X:List (List UInt8)}(c:X=[]∨aZ h b o X.length=some (texts X))(a:k<X.length):cell h b (o+k)=some (S X[k]):=by
 rcases c with h0|c
 ·subst h0;simp at a
 ·rw[(fQ (i:=k) c a).1];simp[texts,a]
theorem N7:∀(X:List (List UInt8)),(X.map λx=>[S x]).flatten=texts X
 |[]=>rfl
 |x::X=>by simp[texts,cK];have:=N7 X;simp[texts]at this;exact this
theorem Nz(h:a9):∀(X:List (List UInt8)),(∀x∈X,x.length<=maxLen)->ma (λc y s=>Ow h .str c y s) (X.map λx=>[S x]) X (X.map λ_=>[])
 |[],_=>trivial
 |x::X,hx=>⟨⟨rfl,hx x (by simp),rfl⟩,Nz h X λy hy=>hx y (by simp[hy])⟩
theorem Vo.E9{hi:Nat}{X:List (List UInt8)}(c:z=1∨b=0∧X=[])(hm:X.length<=maxLen)(hx:∀x∈X,x.length<=maxLen)(a:X=[]∨h[b]?=some ⟨Am.texts X,true⟩∧lo<=b∧b<hi):Vo h lo hi lD (sl b 0 X.length z) X:=by
 refine⟨[sl b 0 X.length z],if X=[]then[]else[b],⟨b,z,X.map λx=>[S x],X.map λ_=>[],rfl,c,hm,Nz h X hx,?_⟩,rfl,?_,?_⟩
 ·by_cases h0:X=[]
  ·grind
  ·exact .inr ⟨h0,by rw[if_neg h0,FR],by rw[N7];exact(a.resolve_left h0).1⟩
 ·split<;>simp
 ·grind
theorem ma.texts{h:a9}:∀{css:List (List Value)} {X:List (List UInt8)} {a:List (List Nat)},ma (λc y s=>Ow h .str c y s) css X a->css.flatten=Am.texts X∧(∀x∈X,x.length<=maxLen)∧a.flatten=[]
 |[],[],[],_=>by simp[Am.texts]
 |c::css,x::X,s::a,r=>by
  obtain⟨e,w,es⟩:=r.1;obtain⟨h1,b,d⟩:=ma.texts r.2;refine⟨by simp[e,h1,Am.texts],λy hy=>?_,by simp[es,d]⟩;rcases bR.1 hy with rfl|hy
  ·exact w
  ·exact b y hy
 |[],_::_,_,r=>r.elim
 |[],[],_::_,r=>r.elim
 |_::_,[],_,r=>r.elim
 |_::_,_::_,[],r=>r.elim
theorem Vo.texts{hi:Nat}{v:Value}{X:List (List UInt8)}(x:Vo h lo hi lD v X):∃b z,v=sl b 0 X.length z∧(z=1∨b=0∧X=[])∧X.length<=maxLen∧(∀x∈X,x.length<=maxLen)∧(X=[]∨h[b]?=some ⟨Am.texts X,true⟩∧lo<=b∧b<hi):=by
 obtain⟨cs,e,⟨b,z,css,l,rfl,d,hm,h1,a⟩,rfl,_,k⟩:=x;obtain⟨f,c,g⟩:=ma.texts h1;refine⟨b,z,rfl,d,hm,c,?_⟩;rcases a with⟨a,_⟩|⟨_,i,j⟩
 ·exact .inl a
 ·simp_all
theorem bP.aka{v:Value}{X:List (List UInt8)}(x:bP h0 h v 1 (Am.texts X))(hm:X.length<=maxLen)(hx:∀x∈X,x.length<=maxLen):Vo h h0.length h.length lD v X:=by
 have hl:(Am.texts X).length=X.length:=by simp[Am.texts]
 rcases x with⟨c,rfl⟩|⟨b,n,rfl,e,d,a⟩
 ·rw[c]at hl;have:X=[]:=aB.1 (by simpa using hl.symm);subst this;exact Vo.E9 (.inr ⟨rfl,rfl⟩) (by simp[cH]) (by simp) (.inl rfl)
 ·have:n=X.length:=by omega
  subst this;exact Vo.E9 (.inl rfl) hm hx (.inr ⟨a,d,bZ a⟩)
theorem Vo.E8{hi:Nat}:Vo h lo hi lD (sl 0 0 0 0) ([]:List (List UInt8)):=Vo.E9 (b:=0) (z:=0) (X:=[]) (.inr ⟨rfl,rfl⟩) (by simp[cH]) (by simp) (.inl rfl)
theorem Cc(X:lD.T):wR lD X<=4*hI lD X:=by have h1:wR lD X=(X:List (List UInt8)).length:=Lk (α:=List UInt8) X;have a:hI lD X=(X:List (List UInt8)).length+((X:List (List UInt8)).map λy=>y.length).sum:=rfl;omega
theorem Jl(X:List (List UInt8)):wR lD X=X.length:=Lk X
theorem Kc:∀(X:List (List UInt8)) (k:Nat),G0 lD X k=marks k X.length
 |[],k=>rfl
 |x::X,k=>by
  refine(congrArg (List.cons (yn k)) (Kc X (k+1))).trans ?_;simp only[marks,az,mc,bX,ta]
  congr 1
  apply fe;intro i _;simp;congr 1;omega
theorem Db(k n:Nat):(marks k n).length=n:=by simp[marks]
theorem af3{k n:Nat}(h:i<(marks k n).length):(marks k n)[i]=yn (k+i):=by simp[marks]
theorem Zx:IZ 268 lD:=by
 intro h v w (X:List (List UInt8)) e hw;obtain⟨b1,o1,z1,rfl,_,hm,_,c⟩:=e.texts;obtain⟨b2,o2,z2,rfl,_,_,_,d⟩:=hw.texts;rw[cH]at hm;refine akV ?_;refine aU (λk σ h'=>h'=h∧k<=X.length∧σ 0=sl b1 o1 X.length z1∧σ 1=sl b2 o2 X.length z2∧σ 5=I k) (λk=>X.length-k) 0 ?_ ?_
 ·simp
 ·rintro k σ h'⟨rfl,i,h0,h1,a⟩;simp(disch:=omega)[h0,h1,a];refine aG (λf=>?_) (λg=>?_)
  ·have b:k<X.length:=by omega
   simp(disch:=omega)[h0,h1,a,Nh c b,Nh d b,b,wrap64];exact⟨k+1,⟨by omega,by omega⟩,by omega⟩
  ·simp(disch:=omega)[h0,h1,a]
theorem axn:Tr 288 lD:=by
 intro h lo hi v (X:List (List UInt8)) k u t;obtain⟨g,w,rfl,r,hm,hx,a⟩:=u.texts;rw[Jl]at t;rw[Jl,Kc];have hp:lo<=h.length∨X=[]:=by
  grind
 refine akV ?_;refine aU (λi σ h'=>i<=X.length∧Mod lo hi h h'∧σ 0=sl g 0 X.length w∧σ 1=I ((k+i:Nat):Int)∧σ 5=I i∧(X=[]∨h'[g]?=some ⟨texts (marks k i++X.drop i),true⟩)) (λi=>X.length-i) 0 ?_ ?_
 ·exact⟨by omega,Mod.refl _ _ _,by simp,by simp,by simp,by
   rcases a with a|a
   ·exact .inl a
   ·exact .inr (by simpa [marks]using a.1)⟩
 ·rintro i σ h'⟨iY,l,h0,h1,f,c⟩;simp(disch:=omega)[h0,h1,f];refine aG (λd=>?_) (λy=>?_)
  ·have d:i<X.length:=by omega
   have m:X≠[]:=by intro e;subst e;simp at d
   have c:=c.resolve_left m;have a:=a.resolve_left m;simp(disch:=omega)[h0,h1,f,d];refine aQ (aoG (k+i) (by omega) _) ?_;rintro _ z⟨rfl,g2⟩;have n:=g2.at c;have s:(texts (marks k i)).length=i:=by simp[texts,marks]
   have p:=ld (v:=S (yn (k+i))) (o:=i) n (by simp[texts,marks];omega);rw[bt d,KI,show texts (X[i]::List.drop (i+1) X)=S X[i]::texts (List.drop (i+1) X)from rfl,QC s.symm]at p
   try refine⟨λe=>(by cases e),?_⟩
   simp(disch:=omega)[h0,h1,f,d,p,wrap64];refine⟨i+1,⟨by omega,(l.grow g2).put a.2 _,by omega,by omega,.inr ?_⟩,by omega⟩;rw[adK];simp[texts,bZ n]
  ·have e:i=X.length:=by omega
   subst e;simp(disch:=omega)[h0,h1,f];refine⟨l,?_⟩;have:=Vo.E9 (h:=h') (b:=g) (lo:=lo) (hi:=hi) (X:=marks k X.length) (r.imp id λe=>⟨e.1,by rw[e.2];rfl⟩) (by rw[Db];exact hm) (by
     intro x hx;simp[marks]at hx;obtain⟨j,A,rfl⟩:=hx;exact ajx (by omega)) (by
    rcases c with c|c
    ·subst c;exact .inl rfl
    ·by_cases q:X=[]
     ·subst q;exact .inl rfl
     ·exact .inr ⟨by simpa using c,(a.resolve_left q).2⟩)
   rw[Db]at this;exact this
theorem akx:To 281 lD:=by
 intro h v (X:List (List UInt8)) k f l;rw[Jl]at l ⊢;rw[Kc]at f;obtain⟨j,o,m,rfl,n,hm,hx,d⟩:=f.texts;rw[Db]at d ⊢;refine akV ?_;refine aU (λi σ h'=>ae h h'∧i<=X.length∧σ 0=sl j o X.length m∧σ 1=I ((k+i:Nat):Int)∧σ 5=I i) (λi=>X.length-i) 0 ?_ ?_
 ·exact⟨ae.refl _,by omega,by simp,by simp,by simp⟩
 ·rintro i σ h'⟨g,iY,h0,h1,a⟩;simp(disch:=omega)[h0,h1,a];refine aG (λb=>?_) (λp=>?_)
  ·have b:i<X.length:=by omega
   have c:=Nh (X:=marks k X.length) (h:=h') (d.imp id λe=>by rw[Db];exact g.aZ e) (by rw[Db];exact b);rw[af3]at c;simp(disch:=omega)[h0,h1,a,b,c];refine aO (aoG (k+i) (by omega) _) ?_;rintro _ q⟨rfl,g2⟩;simp(disch:=omega)[h0,h1,a,wrap64];exact⟨i+1,⟨g.trans g2,by omega,by omega,by omega⟩,by omega⟩
  ·have e:i=X.length:=by omega
   subst e;simp(disch:=omega)[h0,h1,a];exact g
def kM(p:List dF)(c:List Int)(k:Nat):List Int:=(p.take k).foldl (λb s=>b.set s.1.toNat s.2.2) c
theorem Jq{p:List dF}{c:List Int}{k:Nat}(h:k<p.length):kM p c (k+1)=(kM p c k).set p[k].1.toNat p[k].2.2:=by unfold kM;rw[aj h,ju];rfl
theorem Wj:∀{l:List dF} {br c:List Int},kF l br=some c->∀s∈l,kC br.length s=true
 |[],_,_,_=>by simp
 |s::l,br,c,h=>by
  simp only[kF]at h;split at h
  ·rename_i q;simp only[aH]at q;intro t a;rcases bR.1 a with rfl|a
   ·exact q.1
   ·have:=Wj h t a;simpa using this
  ·cases h
theorem X3{p:List dF}{c:List Int}{n:Nat}(a:c.length=n)(b:∀x∈c,0<=x∧x<=2)(hp:∀s∈p,kC n s=true):∀k,k<=p.length->(kM p c k).length=n∧∀x∈kM p c k,0<=x∧x<=2
 |0,_=>by simpa [kM]using ⟨a,b⟩
 |k+1,e=>by
  obtain⟨h1,d⟩:=X3 a b hp k (by omega);rw[Jq (by omega)];refine⟨by simpa using h1,λx hx=>?_⟩;rcases bJ hx with hx|rfl
  ·exact d x hx
  ·exact(nD.1 (hp _ (aD _))).2.2.1
noncomputable def pG(X:de)(k:Nat):List Int:=(List.range k).map λj=>(bC (X.1.1,X.1.2.1,kM X.2.1 (ij X) j):Int)
theorem Lr(X:de)(k:Nat):pG X (k+1)=pG X k++[(bC (X.1.1,X.1.2.1,kM X.2.1 (ij X) k):Int)]:=by simp[pG,dN]
theorem yC(X:de)(k:Nat):(pG X k).length=k:=by simp[pG]
noncomputable def jU(X:de):List Int×Int:=if gK X then(pG X (X.2.1.length+1),0)else([],1)
theorem Lu{f:Wk->Wk}{seg:Wk->Nat}{wk:Nat->Wk}{N:Nat}:∀k,(dg f seg wk N k).2<=k
 |0=>by simp[dg]
 |k+1=>by
  have:=Lu (f:=f) (seg:=seg) (wk:=wk) (N:=N) k;simp only[dg];split
  ·omega
  ·simp only;omega
theorem aeV{X:bW}(ok:fg X):bC X<=256:=by have h1:bC X<=4*X.1.toNat*X.2.1.toNat:=Lu _;have a:4*X.1.toNat*X.2.1.toNat<=4*8*8:=dh (by have:=ok.w;omega) (by have:=ok.h;omega);omega
structure amH (W H:Int) (br:List Int) (p f:List dF):Prop where
 ok:∀k,k<=p.length->fg (W,H,kM p (ij ((W,H,br),p,f)) k)
 st:∀k,(h:k<p.length)->(0<=p[k].1∧p[k].1<(kM p (ij ((W,H,br),p,f)) k).length)
 len:∀k,k<=p.length->(kM p (ij ((W,H,br),p,f)) k).length=br.length
 le:p.length<=50
theorem Mm{p f:List dF}(h:gK ((W,H,br),p,f)=true):amH W H br p f:=by
 obtain⟨ok,hle,⟨fin,c⟩,_⟩:=nh h;obtain⟨s1,s2⟩:=AL h;have b:∀s∈p,kC br.length s=true:=λs d=>Wj c s (by simpa using d);have key:=X3 s1 s2 b;refine⟨λk a=>⟨ok.w,ok.h,?_,(key k a).2⟩,λk a=>?_,λk a=>(key k a).1,by omega⟩
 ·have:=ok.n
  grind
 ·rw[(key k (by omega)).1];exact(nD.1 (b _ (aD a))).1
theorem I8(X:de):hI cZ (jU X).1<=16777216∧∀x∈(jU X).1,bK x:=by
 unfold jU;split
 ·rename_i q;obtain⟨⟨W,H,br⟩,p,f⟩:=X;have A:=Mm q;constructor
  ·rw[At,yC];have:=A.le;simp only;omega
  ·intro x hx;simp only[pG,bj,da]at hx;obtain⟨j,a,rfl⟩:=hx;have:=aeV (A.ok j (by omega));unfold bK;omega
 ·constructor
  ·rw[At];simp
  ·simp
theorem bP.Y9{v:Value}(x:bP h0 h v 1 (Am.ints X))(hm:X.length<=maxLen)(hx:∀x∈X,bK x):Vo h h0.length h.length cZ v X:=by
 have hl:(Am.ints X).length=X.length:=by simp[Am.ints]
 rcases x with⟨c,rfl⟩|⟨b,n,rfl,e,d,a⟩
 ·rw[c]at hl;have:X=[]:=aB.1 (by simpa using hl.symm);subst this;exact Vo.fY (.inr ⟨rfl,rfl⟩) (by simp[cH]) (by simp) (.inl rfl)
 ·have:n=X.length:=by omega
  subst this;exact Vo.fY (.inl rfl) hm hx (.inr ⟨a,d,bZ a⟩)
theorem aCI(h:a9)(hp:0<h.length)(v0:Value)(m:de)(dD:Vr h ba v0 m)(ig:hI ba m<=1048576):
  aN aE 342 [v0] h λr h'=>ae h h'∧∃r0,r=.tuple #[r0,I (jU m).2]∧Vo h' h.length h'.length cZ r0 (jU m).1∧hI cZ (jU m).1<=16777216:=by
 obtain⟨R,nU⟩:=I8 m;obtain⟨⟨W,H,br⟩,p,f⟩:=m;obtain⟨s,sp,sf,rfl,w1,w2,r1,r2,r3⟩:=dD.og;have UX:=r2.cW;obtain⟨pb,po,pz,rfl,_,Bn,hpx,OA⟩:=UX;refine akV ?_;obtain⟨l,tN⟩:=aC (h++[⟨[I W,I H,s,sl pb po p.length pz,sf],true⟩]);rw[<-tN];have j:ae h l:=⟨_,tN⟩;have ka:l[h.length]?=some ⟨[I W,I H,s,sl pb po p.length pz,sf],true⟩:=by rw[tN];simp
 have hj:=BP.of ka (r1.grow j) (r2.grow j) (r3.grow j) w1 w2;refine aQ (PY l (aL hp j) _ _ hj ig) ?_;rintro _ h1⟨g1,rfl⟩;have L:=j.trans g1;cases q:gK ((W,H,br),p,f)
 ·have e:jU ((W,H,br),p,f)=([],1):=by simp[jU,q]
  rw[e]at R ⊢;simp(disch:=omega);exact⟨L,Vo.La,R⟩
 have e:jU ((W,H,br),p,f)=(pG ((W,H,br),p,f) (p.length+1),0):=by simp[jU,q]
 rw[e]at R nU ⊢;have A:=Mm q;have hle:=A.le;simp(disch:=omega);refine aQ (ao4 h1 (aL hp L) _ W H br p f (hj.grow g1) q) ?_;rintro _ F⟨g2,o2⟩;have G2:=L.trans g2;obtain⟨so,rfl,_,_,o2⟩:=o2.dE;obtain⟨a,i,rfl,hz,_,_,hb⟩:=o2.ints;have l1:=L.le;have l2:=g2.le;obtain⟨c,B⟩:=aC (ij ((W,H,br),p,f));rw[<-B]at hz hb ⊢;have stb:=rH (h:=F) (cs:=[I 0,I 0,sl 0 0 0 0]) (xs:=[I W,I H,sl a 0 c.length i]) rfl
 try refine⟨λe=>(by cases e),?_⟩
 simp(disch:=omega)[stb];obtain⟨d,Q⟩:=aC (F++[⟨[I W,I H,sl a 0 c.length i],true⟩]);have g3:ae F d:=⟨_,Q⟩;have M:d[F.length]?=some ⟨[I W,I H,sl a 0 c.length i],true⟩:=by rw[Q];simp
 rw[<-Q];obtain⟨J,eJ⟩:=aC h.length;obtain⟨P,eP⟩:=aC F.length;rw[<-eP]at M ⊢;rw[<-eJ]at ka ⊢;have lJ:J<l.length:=bZ ka;have l3:d.length=P+1:=by rw[Q,eP];simp
 obtain⟨n,C⟩:=aC c.length;have en':n=br.length:=by rw[C,B];exact(AL q).1
 rw[<-C]at M;have O:=A.ok;have Pa:=A.st;have N:=A.len;rw[<-B]at O Pa N;rw[<-en']at N;have Bp:∀Y:List Int,Y.length=n->(i=1∨a=0∧Y=[]):=λY hY=>hz.imp id λe=>⟨e.1,aB.1 (by rw[hY,C,e.2];rfl)⟩;have pp:∀{h':a9} {k:Nat},k<=p.length->h'[P]?=some ⟨[I W,I H,sl a 0 n i],true⟩->(n=0∨h'[a]?=some ⟨ints (kM p c k),true⟩)->gY h' (pt P 0) (W,H,kM p c k):=by intro h' k V U hB;have o:=O k V;have hl:=N k V;have vr:=Vr.fY (h:=h') (b:=a) (o:=0) (z:=i) (X:=kM p c k) (Bp _ hl) (by rw[cH,hl];have:=jH o;omega) (GI o.b) (hB.imp (λe=>aB.1 (by omega)) λe=>cI e (by simp[ints]));rw[hl]at vr;exact gY.at U vr w1 w2
 have G3:ae l d:=g1.trans (g2.trans g3);have wV:n=0∨d[a]?=some ⟨ints (kM p c 0),true⟩:=hb.imp (λe=>by rw[C,e];rfl) λe=>g3.at e.1;have kx:n=0∨l.length<=a∧a<P:=hb.imp (λe=>by rw[C,e];rfl) λe=>⟨by have:=g1.le;omega,by omega⟩;have g2l:=g2.le;have g1l:=g1.le;refine aO (HF d (by omega) _ _ (pp (iE _) M wV) (O 0 (by omega))) ?_;rintro _ w⟨S,rfl⟩;have l4:=S.le;have eb:aW 1 1 w [(0,.agg #[I 0]),(1,I (bC (W,H,kM p c 0)))]=some (sl w.length 0 1 1,w++[⟨[I (bC (W,H,kM p c 0))],true⟩]):=by simp[aW]
 rw[eb];simp only[bI];have T:ae w (w++[⟨[I (bC (W,H,kM p c 0))],true⟩]):=⟨_,rfl⟩;have l5:=T.le;refine aU (λ(k:Nat) σ h'=>k<=p.length∧ae l h'∧d.length<=h'.length∧h'[P]?=some ⟨[I W,I H,sl a 0 n i],true⟩∧(n=0∨h'[a]?=some ⟨ints (kM p c k),true⟩)∧σ 1=pt J 0∧σ 4=pt P 0∧σ 6=I k∧bP d h' (σ 5) 1 (ints (pG ((W,H,br),p,f) (k+1)))) (λk=>p.length-k) 0 ?_ ?_
 ·refine⟨by omega,G3.trans (S.trans T),by omega,(S.trans T).at M,wV.imp id (S.trans T).at,by simp,by simp,by simp,.inr ⟨w.length,1,by simp,by simp[pG,ints],l4,by simp[pG,ints,B]⟩⟩
 rintro k σ h'⟨V,g,hl,U,hB,q1,q4,q6,bf⟩;have c3:cell h' J 3=some (sl pb po p.length pz):=i9 (g.at ka) rfl;simp(disch:=omega)[q1,q6,c3];refine aG (λbB=>?_) (λdG=>?_)
 ·have Z:k<p.length:=by omega
  obtain⟨t1,t2⟩:=Pa k Z;have U8:=N k V;obtain⟨t,ht⟩:=bc t1;obtain⟨ca,_,cb⟩:=Ed (OA.imp id (dZ (j.trans g))) Z;rw[ht]at t2 ca;have zN:t<(kM p c k).length:=by omega
  have wF:t<n:=by omega
  have vV:=hB.resolve_left (by omega);obtain⟨b1,b2⟩:=kx.resolve_left (by omega);have ft:=rI (v:=p[k].2.2) vV zN;have mA:cell h' P 2=some (sl a 0 n i):=i9 U rfl;simp(disch:=omega)[q1,q4,q6,Z,c3,mA,ca,cb,ft,wF,wrap64];obtain⟨x,u⟩:=aC (h'.set a ⟨ints ((kM p c k).set t p[k].2.2),true⟩);rw[<-u];have g6:ae l x:=by rw[u];exact g.put b1 _
  have l6:x.length=h'.length:=by rw[u];simp
  have G:x[P]?=some ⟨[I W,I H,sl a 0 n i],true⟩:=by rw[u];exact Pm U (by omega)
  have aif:kM p c (k+1)=(kM p c k).set t p[k].2.2:=by rw[Jq Z,ht];rfl
  have Of:x[a]?=some ⟨ints (kM p c (k+1)),true⟩:=by rw[u,aif];simp[bZ vV]
  have bf6:bP d x (σ 5) 1 (ints (pG ((W,H,br),p,f) (k+1))):=by rw[u];exact bf.put (by omega)
  refine aO (HF x (by omega) _ _ (pp (k:=k+1) (by omega) G (.inr Of)) (O (k+1) (by omega))) ?_;rintro _ h7⟨E,rfl⟩;have l7:=E.le;have eb:aW 1 1 h7 [(0,.agg #[I 0]),(1,I (bC (W,H,kM p c (k+1))))]=some (sl h7.length 0 1 1,h7++[⟨[I (bC (W,H,kM p c (k+1)))],true⟩]):=by simp[aW]
  rw[eb];simp only[bI];have XC:=bf6.grow E;have Yh:(ints (pG ((W,H,br),p,f) (k+1))).length=k+1:=by simp[ints,yC]
  refine AU (by omega) (g6.trans E) (by have:=G3.le;omega) (by omega) XC (by simp) (by omega) (by rw[Yh];simp[maxSize];omega) λv6 h8 g8 l8 b8 n8 D=>?_;have K:=D P _ (E.at G) (XC.ne (by omega) (by omega));have UP:=D a _ (E.at Of) (XC.ne (by omega) (by omega));simp(disch:=omega)[q1,q4,q6,wrap64];have y:=(au.1 K).2;have UQ:=(au.1 UP).2;refine⟨k+1,⟨by omega,g8,by omega,by first|exact y|simpa using y|exact K,.inr (by first|exact UP|exact UQ|simpa using UQ),by omega,?_⟩,by omega⟩;rw[Lr];simpa [ints,B]using b8
 ·have ek:k=p.length:=by omega
  subst ek;have vo:=bf.Y9 (by rw[cH,yC];omega) nU;obtain⟨b9,e9⟩:=bf.nw;rw[e9]at vo;simp(disch:=omega)[q1,q6,c3,e9];exact⟨j.trans g,vo.wide (by have:=j.le;have:=G3.le;omega) (aa _),R⟩
theorem Xr{o k:Nat}{X:List dF}(a:X=[]∨aZ h b o (X.length*3)=some (cW X))(d:k<X.length):aZ h b (o+k*3) 3=some [I X[k].1,I X[k].2.1,I X[k].2.2]:=by
 rcases a with h0|a
 ·subst h0;simp at d
 ·rw[AX a (by omega)]
  congr 1
  have e:cW X=(X.map zo).flatten:=rfl;rw[e];exact Jp (z:=3) (by intro c f;obtain⟨y,_,rfl⟩:=bj.1 f;rfl) (by simp[d];rfl)
theorem c74(h:a9)(hp:0<h.length)(v0:Value)(d:de)(dD:Vr h ba v0 d)(ig:hI ba d<=1048576):
  aN aE 74 [v0] h λr h'=>ae h h'∧∃r0,r=.tuple #[r0,I (jU d).2]∧Vo h' h.length h'.length cZ r0 (jU d).1∧hI cZ (jU d).1<=16777216:=by
 obtain⟨C,nU⟩:=I8 d;obtain⟨⟨W,H,br⟩,p,f⟩:=d;have tp:=dD;obtain⟨s,sp,sf,rfl,w1,w2,r1,r2,r3⟩:=dD.og;have UX:=r2.cW;obtain⟨pb,po,pz,rfl,_,Bn,hpx,T⟩:=UX;refine akV ?_;refine aO (PV h hp _ _ tp ig) ?_;rintro _ h1⟨g1,rfl⟩;cases q:gK ((W,H,br),p,f)
 ·have e:jU ((W,H,br),p,f)=([],1):=by simp[jU,q]
  rw[e]at C ⊢;simp(disch:=omega);exact⟨g1,Vo.La,C⟩
 have e:jU ((W,H,br),p,f)=(pG ((W,H,br),p,f) (p.length+1),0):=by simp[jU,q]
 rw[e]at C nU ⊢;have A:=Mm q;have hle:=A.le;simp(disch:=omega);refine aQ (c22 h1 (aL hp g1) _ W H br p f (tp.grow g1) q) ?_;rintro _ i⟨g3,o2⟩;obtain⟨so,rfl,_,_,o2⟩:=o2.dE;obtain⟨a,F,rfl,hz,_,_,S⟩:=o2.ints;have l1:=g1.le;have l3:=g3.le;obtain⟨c,m⟩:=aC (ij ((W,H,br),p,f));rw[<-m]at hz S ⊢
 try refine⟨λe=>(by cases e),?_⟩
 obtain⟨n,u⟩:=aC c.length;have M:n=br.length:=by rw[u,m];exact(AL q).1
 rw[<-u];have B:=A.ok;have Pa:=A.st;have y:=A.len;rw[<-m]at B Pa y;rw[<-M]at y;have Bp:∀Y:List Int,Y.length=n->(F=1∨a=0∧Y=[]):=λY hY=>hz.imp id λe=>⟨e.1,aB.1 (by rw[hY,u,e.2];rfl)⟩;have pp:∀{h':a9} {k:Nat},k<=p.length->(n=0∨h'[a]?=some ⟨ints (kM p c k),true⟩)->Vr h' bU (.agg #[I W,I H,sl a 0 n F]) (W,H,kM p c k):=by intro h' k E R;have o:=B k E;have hl:=y k E;have vr:=Vr.fY (h:=h') (b:=a) (o:=0) (z:=F) (X:=kM p c k) (Bp _ hl) (by rw[cH,hl];have:=jH o;omega) (GI o.b) (R.imp (λe=>aB.1 (by omega)) λe=>cI e (by simp[ints]));rw[hl]at vr;exact Vr.jF w1 w2 vr
 have wV:n=0∨i[a]?=some ⟨ints (kM p c 0),true⟩:=S.imp (λe=>by rw[u,e];rfl) λe=>e.1;have kx:n=0∨h1.length<=a∧a<i.length:=S.imp (λe=>by rw[u,e];rfl) λe=>e.2;simp(disch:=omega);refine aO (Ms i (by omega) _ _ (pp (iE _) wV) (B 0 (by omega))) ?_;rintro _ j⟨O,rfl⟩;have l4:=O.le;have L:aW 1 1 j [(0,.agg #[I 0]),(1,I (bC (W,H,kM p c 0)))]=some (sl j.length 0 1 1,j++[⟨[I (bC (W,H,kM p c 0))],true⟩]):=by simp[aW]
 rw[L];simp only[bI];have P:ae j (j++[⟨[I (bC (W,H,kM p c 0))],true⟩]):=⟨_,rfl⟩;have l5:=P.le;refine aU (λ(k:Nat) σ h'=>k<=p.length∧ae h1 h'∧i.length<=h'.length∧(n=0∨h'[a]?=some ⟨ints (kM p c k),true⟩)∧σ 4=.agg #[I W,I H,sl a 0 n F]∧σ 17=sl pb po p.length pz∧σ 18=I p.length∧σ 19=I k∧bP i h' (σ 5) 1 (ints (pG ((W,H,br),p,f) (k+1)))) (λk=>p.length-k) 0 ?_ ?_
 ·refine⟨by omega,g3.trans (O.trans P),by omega,wV.imp id (O.trans P).at,by simp,by simp,by simp,by simp,.inr ⟨j.length,1,by simp,by simp[pG,ints],l4,by simp[pG,ints,m]⟩⟩
 rintro k σ h'⟨E,g,hl,R,q4,Fh,tU,xe,J⟩;simp(disch:=omega)[tU,xe];refine aG (λbB=>?_) (λdG=>?_)
 ·have x:k<p.length:=by omega
  obtain⟨t1,t2⟩:=Pa k x;have U8:=y k E;obtain⟨t,ht⟩:=bc t1;obtain⟨ca,cm,cb⟩:=Ed (T.imp id (dZ (g1.trans g))) x;have c3:=Xr (T.imp id (dZ (g1.trans g))) x;rw[ht]at t2 ca c3;have zN:t<(kM p c k).length:=by omega
  have wF:t<n:=by omega
  have vV:=R.resolve_left (by omega);obtain⟨b1,b2⟩:=kx.resolve_left (by omega);have ft:=rI (v:=p[k].2.2) vV zN;simp(disch:=omega)[q4,Fh,tU,xe,x,c3,ft,wF,wrap64];obtain⟨w,l⟩:=aC (h'.set a ⟨ints ((kM p c k).set t p[k].2.2),true⟩);rw[<-l];have g6:ae h1 w:=by rw[l];exact g.put b1 _
  have l6:w.length=h'.length:=by rw[l];simp
  have G:kM p c (k+1)=(kM p c k).set t p[k].2.2:=by rw[Jq x,ht];rfl
  have U:w[a]?=some ⟨ints (kM p c (k+1)),true⟩:=by rw[l,G];simp[bZ vV]
  have K:bP i w (σ 5) 1 (ints (pG ((W,H,br),p,f) (k+1))):=by rw[l];exact J.put (by omega)
  refine aO (Ms w (by omega) _ _ (pp (k:=k+1) (by omega) (.inr U)) (B (k+1) (by omega))) ?_;rintro _ Q⟨D,rfl⟩;have l7:=D.le;have L:aW 1 1 Q [(0,.agg #[I 0]),(1,I (bC (W,H,kM p c (k+1))))]=some (sl Q.length 0 1 1,Q++[⟨[I (bC (W,H,kM p c (k+1)))],true⟩]):=by simp[aW]
  rw[L];simp only[bI];have XC:=K.grow D;have Yh:(ints (pG ((W,H,br),p,f) (k+1))).length=k+1:=by simp[ints,yC]
  refine AU (by omega) (g6.trans D) (by omega) (by omega) XC (by simp) (by omega) (by rw[Yh];simp[maxSize];omega) λv6 h8 g8 l8 b8 n8 N=>?_;have V:=N a _ (D.at U) (XC.ne (by omega) (by omega));simp(disch:=omega)[q4,Fh,tU,xe,wrap64];have Z:=(au.1 V).2;refine⟨k+1,⟨by omega,g8,by omega,.inr (by first|exact V|exact Z|simpa using Z),by omega,?_⟩,by omega⟩;rw[Lr];simpa [ints,m]using b8
 ·have ek:k=p.length:=by omega
  subst ek;have vo:=J.Y9 (by rw[cH,yC];omega) nU;obtain⟨b9,e9⟩:=J.nw;rw[e9]at vo;simp(disch:=omega)[tU,xe,e9];exact⟨g1.trans g,vo.wide (by omega) (aa _),C⟩
end Am
